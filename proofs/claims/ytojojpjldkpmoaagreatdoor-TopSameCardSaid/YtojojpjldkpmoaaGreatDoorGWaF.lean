/-
  
-/
import Derived.Test.YtojojpjldkpmoaaGreatDoorGMem
import Derived.Test.YtojojpjldkpmoaaGreatDoorGWaB
import Derived.Test.YtojojpjldkpmoaaGreatDoorGWaD
import Derived.Deep.RegionLaw
import Derived.Test.YtojojpjldkpmoaaGreatDoorGStB
import Derived.Test.YtojojpjldkpmoaaGreatDoorGDoD
import Derived.Test.YtojojpjldkpmoaaGreatDoorGOwn
set_option linter.unusedVariables false
set_option linter.unusedSimpArgs false
set_option maxHeartbeats 16000000
namespace Go.Proofs.YtojojpjldkpmoaaGreatDoor
section
inductive Pth (C : Nat -> Nat -> Nat) (D : Nat -> Bool) (s : Nat) (F : Nat -> Prop) : Nat -> Nat -> Prop
 | one (k : Nat) : k < 12 -> k ≠ s -> C s k ≠ 0 -> F k -> Pth C D s F k (C s k)
 | step (a b c : Nat) : Pth C D s F a c -> D a = false -> b < 12 -> b ≠ s -> C a b ≠ 0 -> Pth C D s F b (c + C a b)
section
variable {C : Nat -> Nat -> Nat} {D : Nat -> Bool} {s : Nat} {F : Nat -> Prop}
theorem Pth.lt {i c : Nat} (h : Pth C D s F i c) : i < 12 /\ i ≠ s /\ 0 < c := by
 cases h with
 | one _ h1 h2 h3 _ => exact ⟨h1, h2, by omega⟩
 | step a _ c _ _ h1 h2 h3 => exact ⟨h1, h2, by omega⟩
theorem Pth.mono {G : Nat -> Prop} (hg : ∀ k, F k -> G k) {i c : Nat} (h : Pth C D s F i c) : Pth C D s G i c := by
 induction h with
 | one k h1 h2 h3 h4 => exact .one k h1 h2 h3 (hg k h4)
 | step a b c _ h1 h2 h3 h4 ih => exact .step a b c ih h1 h2 h3 h4
theorem Pth.first {i c : Nat} (h : Pth C D s F i c) : ∃ k, F k /\ k < 12 /\ k ≠ s /\ C s k ≠ 0 /\ Pth C D s (· = k) i c := by
 induction h with
 | one k h1 h2 h3 h4 => exact ⟨k, h4, h1, h2, h3, .one k h1 h2 h3 rfl⟩
 | step a b c _ h1 h2 h3 h4 ih =>
   obtain ⟨k, hk, h5, h6, h7, hp⟩ := ih
   exact ⟨k, hk, h5, h6, h7, .step a b c hp h1 h2 h3 h4⟩
def Mn (C : Nat -> Nat -> Nat) (D : Nat -> Bool) (s : Nat) (F : Nat -> Prop) (i m : Nat) : Prop := Pth C D s F i m /\ ∀ c, Pth C D s F i c -> m <= c
theorem mn_ex {i : Nat} : ∀ (n c : Nat), c < n -> Pth C D s F i c -> ∃ m, m <= c /\ Mn C D s F i m
 | 0, c, h, _ => by omega
 | n + 1, c, h, hp => by
   by_cases hc : ∃ d, d < c /\ Pth C D s F i d
   · obtain ⟨d, hd, hpd⟩ := hc
     obtain ⟨m, hm, hM⟩ := mn_ex n d (by omega) hpd
     exact ⟨m, by omega, hM⟩
   · refine ⟨c, zab _, hp, fun d hd => ?_⟩
     rcases zbu d c with h1 | h1
     · exact absurd ⟨d, h1, hd⟩ hc
     · exact h1
theorem Mn.uniq {i m m' : Nat} (h : Mn C D s F i m) (h' : Mn C D s F i m') : m = m' := Nat.le_antisymm (h.2 _ h'.1) (h'.2 _ h.1)
theorem count_lt {α : Type} {p q : α -> Bool} : ∀ {l : List α}, (∀ x ∈ l, p x = true -> q x = true) -> (∃ x ∈ l, q x = true /\ p x = false) -> l.countP p < l.countP q
 | [], _, ⟨x, h, _⟩ => by simp at h
 | y :: l, h, ⟨x, hx, hq, hp⟩ => by
   have hle : l.countP p <= l.countP q := List.countP_mono_left fun z hz => h z (by simp [hz])
   rcases zaB.1 hx with rfl | hx
   · simp only [List.countP_cons, hq, hp]
     simp; omega
   · have := count_lt (l := l) (fun z hz => h z (by simp [hz])) ⟨x, hx, hq, hp⟩
     have hy := h y (by simp)
     simp only [List.countP_cons]
     rcases e : p y with _ | _
     · simp; omega
     · simp [hy e]; omega
noncomputable def rank (C : Nat -> Nat -> Nat) (D : Nat -> Bool) (s : Nat) (F : Nat -> Prop) (m : Nat) : Nat := (List.range 12).countP fun j => @decide (∃ c, c < m /\ Pth C D s F j c) (Classical.propDecidable _)
theorem rank_le (m : Nat) : rank C D s F m <= 12 := by
 have := List.countP_le_length (p := fun j => @decide (∃ c, c < m /\ Pth C D s F j c) (Classical.propDecidable _)) (l := List.range 12)
 simpa [rank] using this
theorem rank_lt {a m n : Nat} (h : Mn C D s F a m) (hmn : m < n) : rank C D s F m < rank C D s F n := by
 unfold rank
 apply count_lt
 · intro x _ hx
   simp only [decide_eq_true_eq] at hx ⊢
   obtain ⟨c, hc, hp⟩ := hx
   exact ⟨c, by omega, hp⟩
 · refine ⟨a, by simpa using h.1.lt.1, ?_, ?_⟩
   · simp only [decide_eq_true_eq]; exact ⟨m, hmn, h.1⟩
   · simp only [decide_eq_false_iff_not]
     rintro ⟨c, hc, hp⟩
     have := h.2 c hp
     omega
end
def gI (l : List Int) (i : Nat) : Int := l.getD i (-1)
theorem gI_set (l : List Int) (i j : Nat) (v : Int) (h : i < l.length) : gI (l.set i v) j = if i = j then v else gI l j := by
 unfold gI
 rw [zal, zal, zbT]
 by_cases e : i = j
 · subst e; simp [h]
 · simp [e]
def relax (C : Nat -> Nat -> Nat) (D : Nat -> Bool) (s : Nat) (l : List Int) (a b : Nat) : List Int :=
 if a = s ∨ b = s ∨ gI l a < 0 ∨ D a = true ∨ C a b = 0 then l
 else if gI l b < 0 ∨ gI l a + C a b < gI l b then l.set b (gI l a + C a b) else l
def rowTo (C : Nat -> Nat -> Nat) (D : Nat -> Bool) (s : Nat) (l : List Int) (a : Nat) : Nat -> List Int
 | 0 => l
 | n + 1 => relax C D s (rowTo C D s l a n) a n
def rndTo (C : Nat -> Nat -> Nat) (D : Nat -> Bool) (s : Nat) (l : List Int) : Nat -> List Int
 | 0 => l
 | n + 1 => rowTo C D s (rndTo C D s l n) n 12
def rnds (C : Nat -> Nat -> Nat) (D : Nat -> Bool) (s : Nat) (l : List Int) : Nat -> List Int
 | 0 => l
 | n + 1 => rndTo C D s (rnds C D s l n) 12
def iniB (C : Nat -> Nat -> Nat) (s : Nat) (F : Nat -> Bool) : List Int := (List.range 12).map fun i => if i ≠ s /\ C s i ≠ 0 /\ F i = true then (C s i : Int) else -1
section
variable {C : Nat -> Nat -> Nat} {D : Nat -> Bool} {s : Nat} {F : Nat -> Bool}
def Snd (C : Nat -> Nat -> Nat) (D : Nat -> Bool) (s : Nat) (F : Nat -> Bool) (l : List Int) : Prop :=
 l.length = 12 /\ ∀ i, -1 <= gI l i /\ (0 <= gI l i -> Pth C D s (fun k => F k = true) i (gI l i).toNat)
def LeB (l m : List Int) : Prop := ∀ i, 0 <= gI l i -> 0 <= gI m i /\ gI m i <= gI l i
theorem LeB.rfl' (l : List Int) : LeB l l := fun _ h => ⟨h, zbS _⟩
theorem LeB.trans {l m n : List Int} (h : LeB l m) (h' : LeB m n) : LeB l n := fun i hi => by
 obtain ⟨h1, h2⟩ := h i hi
 obtain ⟨h3, h4⟩ := h' i h1
 exact ⟨h3, by omega⟩
theorem gI_out {l : List Int} {i : Nat} (h : l.length <= i) : gI l i = -1 := by
 unfold gI; rw [zal, zbG h]; rfl
theorem relax_snd {l : List Int} (h : Snd C D s F l) (a b : Nat) (hb : b < 12) : Snd C D s F (relax C D s l a b) := by
 unfold relax
 split
 · exact h
 · rename_i hc
   split
   · refine ⟨by simp [h.1], fun i => ?_⟩
     rw [gI_set _ _ _ _ (by rw [h.1]; exact hb)]
     have ha : 0 <= gI l a := by
      rcases Int.lt_or_le (gI l a) 0 with e | e
      · exact absurd (.inr (.inr (.inl e))) hc
      · exact e
     split
     · rename_i e; subst e
       refine ⟨by omega, fun _ => ?_⟩
       have e2 : (gI l a + (C a b : Int)).toNat = (gI l a).toNat + C a b := by omega
       rw [e2]
       refine .step a b _ ((h.2 a).2 ha) ?_ hb ?_ ?_
       · rcases e : D a with _ | _
         · rfl
         · exact absurd (.inr (.inr (.inr (.inl e)))) hc
       · exact fun e => hc (.inr (.inl e))
       · exact fun e => hc (.inr (.inr (.inr (.inr e))))
     · exact h.2 i
   · exact h
theorem relax_len {l : List Int} (a b : Nat) : (relax C D s l a b).length = l.length := by
 unfold relax
 split
 · rfl
 · split <;> simp
theorem relax_le {l : List Int} (a b : Nat) (hb : b < l.length) : LeB l (relax C D s l a b) := by
 intro i hi
 unfold relax
 split
 · exact ⟨hi, zbS _⟩
 · rename_i hc
   split
   · rename_i h2
     rw [gI_set _ _ _ _ hb]
     have ha : 0 <= gI l a := by
      rcases Int.lt_or_le (gI l a) 0 with e | e
      · exact absurd (.inr (.inr (.inl e))) hc
      · exact e
     split
     · rename_i e; subst e; omega
     · exact ⟨hi, zbS _⟩
   · exact ⟨hi, zbS _⟩
theorem relax_hit {l : List Int} {a b : Nat} (hb : b < l.length) (h1 : a ≠ s) (h2 : b ≠ s) (h3 : 0 <= gI l a) (h4 : D a = false) (h5 : C a b ≠ 0) :
  0 <= gI (relax C D s l a b) b /\ gI (relax C D s l a b) b <= gI l a + C a b := by
 unfold relax
 rw [if_neg (by rw [h4]; rintro (e | e | e | e | e)
                · exact h1 e
                · exact h2 e
                · omega
                · cases e
                · exact h5 e)]
 split
 · rw [gI_set _ _ _ _ hb, if_pos rfl]; omega
 · omega
theorem rowTo_len {l : List Int} (a : Nat) : ∀ n, (rowTo C D s l a n).length = l.length
 | 0 => rfl
 | n + 1 => by unfold rowTo; rw [relax_len, rowTo_len a n]
theorem rowTo_snd {l : List Int} (h : Snd C D s F l) (a : Nat) : ∀ n, n <= 12 -> Snd C D s F (rowTo C D s l a n)
 | 0, _ => h
 | n + 1, hn => relax_snd (rowTo_snd h a n (by omega)) a n (by omega)
theorem rowTo_le {l : List Int} (a k : Nat) : ∀ n, k + n <= l.length -> LeB (rowTo C D s l a k) (rowTo C D s l a (k + n))
 | 0, _ => LeB.rfl' _
 | n + 1, hn => (rowTo_le a k n (by omega)).trans (relax_le a (k + n) (by rw [rowTo_len]; omega))
theorem rndTo_len {l : List Int} : ∀ n, (rndTo C D s l n).length = l.length
 | 0 => rfl
 | n + 1 => by unfold rndTo; rw [rowTo_len, rndTo_len n]
theorem rndTo_snd {l : List Int} (h : Snd C D s F l) : ∀ n, Snd C D s F (rndTo C D s l n)
 | 0 => h
 | n + 1 => rowTo_snd (rndTo_snd h n) n 12 (zab _)
theorem rndTo_le {l : List Int} (hl : l.length = 12) (k : Nat) : ∀ n, LeB (rndTo C D s l k) (rndTo C D s l (k + n))
 | 0 => LeB.rfl' _
 | n + 1 => (rndTo_le hl k n).trans (by
     have := rowTo_le (C := C) (D := D) (s := s) (l := rndTo C D s l (k + n)) (k + n) 0 12 (by rw [rndTo_len, hl]; omega)
     exact this)
theorem rnd_hit {l : List Int} (hl : l.length = 12) {a b : Nat} (ha : a < 12) (hb : b < 12) (h1 : a ≠ s) (h2 : b ≠ s) (h3 : 0 <= gI l a) (h4 : D a = false) (h5 : C a b ≠ 0) :
  0 <= gI (rndTo C D s l 12) b /\ gI (rndTo C D s l 12) b <= gI l a + C a b := by
 have s1 := rndTo_le (C := C) (D := D) (s := s) hl 0 a
 rw [zaM] at s1
 obtain ⟨e1, e2⟩ := s1 a h3
 have hl2 : (rndTo C D s l a).length = 12 := by rw [rndTo_len, hl]
 have s2 := rowTo_le (C := C) (D := D) (s := s) (l := rndTo C D s l a) a 0 b (by omega)
 rw [zaM] at s2
 obtain ⟨e3, e4⟩ := s2 a e1
 have s3 := relax_hit (C := C) (D := D) (s := s) (l := rowTo C D s (rndTo C D s l a) a b) (by rw [rowTo_len, hl2]; exact hb) h1 h2 e3 h4 h5
 have s4 := rowTo_le (C := C) (D := D) (s := s) (l := rndTo C D s l a) a (b + 1) (12 - (b + 1)) (by omega)
 rw [show b + 1 + (12 - (b + 1)) = 12 by omega] at s4
 obtain ⟨e5, e6⟩ := s4 b s3.1
 have s5 := rndTo_le (C := C) (D := D) (s := s) hl (a + 1) (12 - (a + 1))
 rw [show a + 1 + (12 - (a + 1)) = 12 by omega] at s5
 obtain ⟨e7, e8⟩ := s5 b e5
 refine ⟨e7, ?_⟩
 have e9 : gI (rowTo C D s (rndTo C D s l a) a (b + 1)) b <= gI (rowTo C D s (rndTo C D s l a) a b) a + C a b := s3.2
 have e10 : gI (rndTo C D s l 12) b <= gI (rowTo C D s (rndTo C D s l a) a 12) b := e8
 have e12 : gI (rndTo C D s l 0) a = gI l a := rfl
 have e11 : gI (rowTo C D s (rndTo C D s l a) a 0) a = gI (rndTo C D s l a) a := rfl
 omega
theorem rnds_len {l : List Int} : ∀ n, (rnds C D s l n).length = l.length
 | 0 => rfl
 | n + 1 => by unfold rnds; rw [rndTo_len, rnds_len n]
theorem rnds_snd {l : List Int} (h : Snd C D s F l) : ∀ n, Snd C D s F (rnds C D s l n)
 | 0 => h
 | n + 1 => rndTo_snd (rnds_snd h n) 12
theorem rnds_le {l : List Int} (hl : l.length = 12) : ∀ n, LeB l (rnds C D s l n)
 | 0 => LeB.rfl' _
 | n + 1 => (rnds_le hl n).trans (by
     have := rndTo_le (C := C) (D := D) (s := s) (l := rnds C D s l n) (by rw [rnds_len, hl]) 0 12
     exact this)
theorem iniB_len : (iniB C s F).length = 12 := by simp [iniB]
theorem iniB_at {i : Nat} (h : i < 12) : gI (iniB C s F) i = if i ≠ s /\ C s i ≠ 0 /\ F i = true then (C s i : Int) else -1 := by
 unfold gI iniB
 rw [zal, zbt, zbJ h]; rfl
theorem iniB_snd : Snd C D s F (iniB C s F) := by
 refine ⟨iniB_len, fun i => ?_⟩
 by_cases h : i < 12
 · rw [iniB_at h]
   split
   · rename_i hc
     refine ⟨by omega, fun _ => ?_⟩
     rw [zaL]
     exact .one i h hc.1 hc.2.1 hc.2.2
   · exact ⟨by omega, fun e => absurd e (by omega)⟩
 · rw [gI_out (by rw [iniB_len]; omega)]
   exact ⟨by omega, fun e => absurd e (by omega)⟩
theorem rnds_hit : ∀ (r i m : Nat), Mn C D s (fun k => F k = true) i m -> rank C D s (fun k => F k = true) m <= r ->
  0 <= gI (rnds C D s (iniB C s F) r) i /\ gI (rnds C D s (iniB C s F) r) i <= m := by
 intro r
 induction r with
 | zero =>
   intro i m hm hr
   cases hm.1 with
   | one _ h1 h2 h3 h4 =>
     show 0 <= gI (iniB C s F) i /\ gI (iniB C s F) i <= ((C s i : Nat) : Int)
     rw [iniB_at h1, if_pos ⟨h2, h3, h4⟩]; omega
   | step a _ c hp h1 h2 h3 h4 =>
     obtain ⟨ma, hma, hM⟩ := mn_ex (c + 1) c (by omega) hp
     have := rank_lt hM (n := c + C a i) (by omega)
     omega
 | succ r ih =>
   intro i m hm hr
   cases hm.1 with
   | one _ h1 h2 h3 h4 =>
     have e : 0 <= gI (iniB C s F) i /\ gI (iniB C s F) i <= ((C s i : Nat) : Int) := by
      rw [iniB_at h1, if_pos ⟨h2, h3, h4⟩]; omega
     have := rnds_le (C := C) (D := D) (s := s) (l := iniB C s F) iniB_len (r + 1) i e.1
     omega
   | step a _ c hp h1 h2 h3 h4 =>
     obtain ⟨ma, hma, hM⟩ := mn_ex (c + 1) c (by omega) hp
     have hlt := rank_lt hM (n := c + C a i) (by omega)
     obtain ⟨e1, e2⟩ := ih a ma hM (by omega)
     have := rnd_hit (C := C) (D := D) (s := s) (l := rnds C D s (iniB C s F) r) (by rw [rnds_len, iniB_len]) hp.lt.1 h2 hp.lt.2.1 h3 e1 h1 h4
     refine ⟨this.1, Int.le_trans this.2 ?_⟩
     omega
theorem rounds_find (i : Nat) : (gI (rnds C D s (iniB C s F) 12) i = -1 /\ ∀ c, ¬ Pth C D s (fun k => F k = true) i c) ∨
  ∃ m : Nat, gI (rnds C D s (iniB C s F) 12) i = m /\ Mn C D s (fun k => F k = true) i m := by
 have hs := rnds_snd (C := C) (D := D) (s := s) (F := F) iniB_snd 12
 by_cases h : ∃ c, Pth C D s (fun k => F k = true) i c
 · obtain ⟨c, hc⟩ := h
   obtain ⟨m, _, hM⟩ := mn_ex (c + 1) c (by omega) hc
   obtain ⟨e1, e2⟩ := rnds_hit 12 i m hM (rank_le m)
   have e3 := hM.2 _ ((hs.2 i).2 e1)
   exact .inr ⟨m, by omega, hM⟩
 · left
   have h' : ∀ c, ¬ Pth C D s (fun k => F k = true) i c := fun c hc => h ⟨c, hc⟩
   refine ⟨?_, h'⟩
   have h1 := hs.2 i
   rcases Int.lt_or_le (gI (rnds C D s (iniB C s F) 12) i) 0 with e | e
   · omega
   · exact absurd (h1.2 e) (h' _)
end
structure Ds where
 cost : List Int
 hops : List Nat
 done : List Bool
 heap : List Spot
def gN (l : List Nat) (i : Nat) : Nat := l.getD i 0
def gD (l : List Bool) (i : Nat) : Bool := l.getD i false
theorem gN_set (l : List Nat) (i j v : Nat) (h : i < l.length) : gN (l.set i v) j = if i = j then v else gN l j := by
 unfold gN
 rw [zal, zal, zbT]
 by_cases e : i = j
 · subst e; simp [h]
 · simp [e]
theorem gD_set (l : List Bool) (i j : Nat) (v : Bool) (h : i < l.length) : gD (l.set i v) j = if i = j then v else gD l j := by
 unfold gD
 rw [zal, zal, zbT]
 by_cases e : i = j
 · subst e; simp [h]
 · simp [e]
def fstH (s n k : Nat) (st : Ds) : Nat := if n = s then 2 ^ k else gN st.hops n
def edge (C : Nat -> Nat -> Nat) (s n : Nat) (st : Ds) (k : Nat) : Ds :=
 if C n k = 0 ∨ 1048576 < gI st.cost n + C n k ∨ k = s then st
 else if gI st.cost n + C n k < gI st.cost k then
  { cost := st.cost.set k (gI st.cost n + C n k), hops := st.hops.set k (fstH s n k st), done := st.done, heap := pushS st.heap ⟨k, gI st.cost n + C n k⟩ }
 else if gI st.cost n + C n k = gI st.cost k then { st with hops := st.hops.set k (gN st.hops k ||| fstH s n k st) }
 else st
def edgesTo (C : Nat -> Nat -> Nat) (s n : Nat) (st : Ds) : Nat -> Ds
 | 0 => st
 | k + 1 => edge C s n (edgesTo C s n st k) k
def topN (st : Ds) : Nat := (atS st.heap 0).node.toNat
def stepD (C : Nat -> Nat -> Nat) (D : Nat -> Bool) (s : Nat) (st : Ds) : Ds :=
 if gD st.done (topN st) = true then { st with heap := popS st.heap }
 else if topN st ≠ s /\ D (topN st) = true then { st with heap := popS st.heap, done := st.done.set (topN st) true }
 else edgesTo C s (topN st) { st with heap := popS st.heap, done := st.done.set (topN st) true } 12
def cd (st : Ds) : Nat := st.done.countP id
def mu (st : Ds) : Nat := 13 * (12 - cd st) + st.heap.length
structure Inv (C : Nat -> Nat -> Nat) (D : Nat -> Bool) (s : Nat) (R : Nat -> Nat -> Prop) (st : Ds) : Prop where
 lc : st.cost.length = 12
 lh : st.hops.length = 12
 ld : st.done.length = 12
 cs : gI st.cost s = 0
 hs : gN st.hops s = 0
 snd : ∀ i, i < 12 -> i ≠ s -> (gI st.cost i = 1048577 /\ gN st.hops i = 0) ∨ (0 <= gI st.cost i /\ gI st.cost i <= 1048576 /\ Pth C D s (fun _ => True) i (gI st.cost i).toNat)
 hp : Hp st.heap
 ent : ∀ x, x ∈ st.heap -> ∃ i : Nat, i < 12 /\ x.node = i /\ gI st.cost i <= x.cost /\ x.cost <= 1048576
 und : ∀ i, i < 12 -> gI st.cost i <= 1048576 -> gD st.done i = false -> ⟨i, gI st.cost i⟩ ∈ st.heap
 dle : ∀ i, i < 12 -> gD st.done i = true -> gI st.cost i <= 1048576 /\ ∀ x, x ∈ st.heap -> gI st.cost i <= x.cost
 bnd : ∀ i, i < 12 -> gI st.cost i <= 1048576 -> gI st.cost i <= 1000 * (cd st : Int)
 rd : ∀ a b, R a b -> a < 12 /\ b < 12 /\ gD st.done a = true /\ (a = s ∨ D a = false) /\ C a b ≠ 0 /\ b ≠ s
 rel : ∀ a b, R a b -> gI st.cost b <= gI st.cost a + C a b
 hop : ∀ b, b < 12 -> b ≠ s -> gI st.cost b <= 1048576 -> ∀ j, (gN st.hops b).testBit j = true ↔ ∃ a, R a b /\ gI st.cost a + C a b = gI st.cost b /\ (if a = s then j = b else (gN st.hops a).testBit j = true)
 h12 : ∀ b, gN st.hops b < 4096
def Cov (C : Nat -> Nat -> Nat) (D : Nat -> Bool) (s n k : Nat) (R : Nat -> Nat -> Prop) (st : Ds) : Prop :=
 ∀ a b, a < 12 -> b < 12 -> gD st.done a = true -> (a = s ∨ D a = false) -> C a b ≠ 0 -> b ≠ s -> R a b ∨ (a = n /\ k <= b)
structure Cur (D : Nat -> Bool) (s n : Nat) (st : Ds) : Prop where
 lt : n < 12
 dn : gD st.done n = true
 ok : n = s ∨ D n = false
 bd : gI st.cost n + 1000 <= 1000 * (cd st : Int)
 mx : ∀ a, a < 12 -> gD st.done a = true -> gI st.cost a <= gI st.cost n
section
variable {C : Nat -> Nat -> Nat} {D : Nat -> Bool} {s : Nat} {R : Nat -> Nat -> Prop} {st : Ds}
theorem cd_le (h : st.done.length = 12) : cd st <= 12 := by
 unfold cd
 have := List.countP_le_length (p := id) (l := st.done)
 omega
theorem Inv.nn (h : Inv C D s R st) {i : Nat} (hi : i < 12) : 0 <= gI st.cost i := by
 by_cases e : i = s
 · subst e; rw [h.cs]; omega
 · rcases h.snd i hi e with ⟨h1, _⟩ | ⟨h1, _⟩
   · omega
   · exact h1
theorem edge_cur {n k : Nat} (h : Inv C D s R st) (hc : Cur D s n st) (hk : k < 12) : Cur D s n (edge C s n st k) := by
 unfold edge
 split
 · exact hc
 · rename_i h0
   split
   · rename_i h1
     have hnk : gD st.done k = false := by
      rcases e : gD st.done k with _ | _
      · rfl
      · have := hc.mx k hk e; omega
     have ne : ∀ a, gD st.done a = true -> ¬ k = a := fun a ha e => by rw [e, ha] at hnk; cases hnk
     refine ⟨hc.lt, hc.dn, hc.ok, ?_, fun a ha hd => ?_⟩
     · show gI (st.cost.set k _) n + 1000 <= _
       rw [gI_set _ _ _ _ (by rw [h.lc]; exact hk), if_neg (ne n hc.dn)]; exact hc.bd
     · show gI (st.cost.set k _) a <= gI (st.cost.set k _) n
       rw [gI_set _ _ _ _ (by rw [h.lc]; exact hk), gI_set _ _ _ _ (by rw [h.lc]; exact hk), if_neg (ne n hc.dn), if_neg (ne a hd)]
       exact hc.mx a ha hd
   · split
     · exact ⟨hc.lt, hc.dn, hc.ok, hc.bd, hc.mx⟩
     · exact hc
theorem edge_done {n k : Nat} : (edge C s n st k).done = st.done := by
 unfold edge
 split
 · rfl
 · split
   · rfl
   · split <;> rfl
theorem edge_heap {n k : Nat} : (edge C s n st k).heap.length <= st.heap.length + 1 := by
 unfold edge
 split
 · omega
 · split
   · show (pushS _ _).length <= _; rw [push_len]; omega
   · split <;> simp
theorem edge_inv {n k : Nat} (hC : ∀ a b, C a b <= 1000) (h : Inv C D s R st) (hc : Cur D s n st) (hk : k < 12) (hs12 : s < 12) :
  Inv C D s (fun a b => R a b ∨ (a = n /\ b = k /\ C n k ≠ 0 /\ k ≠ s)) (edge C s n st k) := by
 have hcd := cd_le h.ld
 have hcn := hC n k
 have hbd := hc.bd
 have hn0 := h.nn hc.lt
 have hdn := h.dle n hc.lt hc.dn
 unfold edge
 split
 · rename_i h0
   have hno : ¬ (C n k ≠ 0 /\ k ≠ s) := by
    rintro ⟨e1, e2⟩
    rcases h0 with e | e | e
    · exact e1 e
    · omega
    · exact e2 e
   have hR : ∀ a b, (R a b ∨ (a = n /\ b = k /\ C n k ≠ 0 /\ k ≠ s)) ↔ R a b := fun a b => ⟨fun e => e.elim id (fun e => absurd ⟨e.2.2.1, e.2.2.2⟩ hno), .inl⟩
   have e : (fun a b => R a b ∨ (a = n /\ b = k /\ C n k ≠ 0 /\ k ≠ s)) = R := by funext a b; exact propext (hR a b)
   rw [e]; exact h
 · rename_i h0
   have hc0 : C n k ≠ 0 := fun e => h0 (.inl e)
   have hks : k ≠ s := fun e => h0 (.inr (.inr e))
   have hM : gI st.cost n + C n k <= 1048576 := by
    rcases Int.lt_or_le 1048576 (gI st.cost n + C n k) with e | e
    · exact absurd (.inr (.inl e)) h0
    · exact e
   have hpk : Pth C D s (fun _ => True) k (gI st.cost n + C n k).toNat := by
    by_cases e : n = s
    · subst e
      rw [h.cs]
      have : ((0 : Int) + (C n k : Int)).toNat = C n k := by omega
      rw [this]
      exact .one k hk hks hc0 trivial
    · rcases h.snd n hc.lt e with ⟨e1, _⟩ | ⟨e1, _, e3⟩
      · omega
      · have : (gI st.cost n + (C n k : Int)).toNat = (gI st.cost n).toNat + C n k := by omega
        rw [this]
        exact .step n k _ e3 (hc.ok.resolve_left e) hk hks hc0
   have hf12 : fstH s n k st < 4096 := by
    unfold fstH
    split
    · exact zan (Nat.pow_lt_pow_right (by omega) hk) (by decide)
    · exact h.h12 n
   have hlk : k < st.cost.length := by rw [h.lc]; exact hk
   have hlh : k < st.hops.length := by rw [h.lh]; exact hk
   have hfb : ∀ j, (fstH s n k st).testBit j = true ↔ (if n = s then j = k else (gN st.hops n).testBit j = true) := by
    intro j
    unfold fstH
    split
    · rw [Nat.testBit_two_pow]; simp [eq_comm]
    · exact Iff.rfl
   have hrd' : ∀ a b, (R a b ∨ (a = n /\ b = k /\ C n k ≠ 0 /\ k ≠ s)) -> a < 12 /\ b < 12 /\ gD st.done a = true /\ (a = s ∨ D a = false) /\ C a b ≠ 0 /\ b ≠ s := by
    rintro a b (e | ⟨rfl, rfl, _, _⟩)
    · exact h.rd a b e
    · exact ⟨hc.lt, hk, hc.dn, hc.ok, hc0, hks⟩
   split
   · rename_i h1
     have hnk : gD st.done k = false := by
      rcases e : gD st.done k with _ | _
      · rfl
      · have := hc.mx k hk e; omega
     have ne : ∀ a, gD st.done a = true -> ¬ k = a := fun a ha e => by rw [e, ha] at hnk; cases hnk
     have gc : ∀ a, gI (st.cost.set k (gI st.cost n + C n k)) a = if k = a then gI st.cost n + C n k else gI st.cost a := fun a => gI_set _ _ _ _ hlk
     have gh : ∀ a, gN (st.hops.set k (fstH s n k st)) a = if k = a then fstH s n k st else gN st.hops a := fun a => gN_set _ _ _ _ hlh
     refine ⟨by simp [h.lc], by simp [h.lh], h.ld, ?_, ?_, ?_, push_hp h.hp _, ?_, ?_, ?_, ?_, hrd', ?_, ?_, ?_⟩
     · simp only [gc]; rw [if_neg hks]; exact h.cs
     · simp only [gh]; rw [if_neg hks]; exact h.hs
     · intro i hi his
       simp only [gc, gh]
       by_cases e : k = i
       · subst e
         rw [if_pos rfl, if_pos rfl]
         exact .inr ⟨by omega, hM, hpk⟩
       · rw [if_neg e, if_neg e]; exact h.snd i hi his
     · intro x hx
       rw [push_mem] at hx
       rcases hx with hx | rfl
       · obtain ⟨i, h2, h3, h4, h5⟩ := h.ent x hx
         refine ⟨i, h2, h3, ?_, h5⟩
         simp only [gc]
         split
         · rename_i e; subst e; omega
         · exact h4
       · exact ⟨k, hk, rfl, by simp only [gc]; rw [if_pos trivial]; exact zbS _, hM⟩
     · intro i hi hle hd
       simp only [gc] at hle ⊢
       rw [push_mem]
       by_cases e : k = i
       · subst e; right; rw [if_pos rfl]
       · rw [if_neg e] at hle ⊢
         exact .inl (h.und i hi hle hd)
     · intro i hi hd
       simp only [gc]
       rw [if_neg (ne i hd)]
       obtain ⟨h2, h3⟩ := h.dle i hi hd
       refine ⟨h2, fun x hx => ?_⟩
       rw [push_mem] at hx
       rcases hx with hx | rfl
       · exact h3 x hx
       · have := hc.mx i hi hd
         show gI st.cost i <= gI st.cost n + C n k
         omega
     · intro i hi hle
       simp only [gc] at hle ⊢
       show _ <= 1000 * (cd st : Int)
       by_cases e : k = i
       · rw [if_pos e]; omega
       · rw [if_neg e] at hle ⊢; exact h.bnd i hi hle
     · intro a b hab
       simp only [gc]
       have ha := (hrd' a b hab).2.2.1
       rw [if_neg (ne a ha)]
       rcases hab with hab | ⟨rfl, rfl, _, _⟩
       · have := h.rel a b hab
         split
         · rename_i e; subst e; omega
         · exact this
       · rw [if_pos rfl]; exact zbS _
     · intro b hb hbs hle j
       simp only [gc, gh] at hle ⊢
       by_cases e : k = b
       · subst e
         rw [if_pos rfl, if_pos rfl, hfb]
         constructor
         · intro hj
           refine ⟨n, .inr ⟨rfl, rfl, hc0, hks⟩, ?_, ?_⟩
           · rw [if_neg (ne n hc.dn)]
           · rw [if_neg (ne n hc.dn)]; exact hj
         · rintro ⟨a, hab, h2, h3⟩
           have ha := (hrd' a k hab).2.2.1
           rw [if_neg (ne a ha)] at h2 h3
           rcases hab with hab | ⟨rfl, _, _, _⟩
           · have := h.rel a k hab; omega
           · exact h3
       · rw [if_neg e] at hle
         rw [if_neg e, if_neg e, h.hop b hb hbs hle j]
         constructor
         · rintro ⟨a, hab, h2, h3⟩
           have ha := (h.rd a b hab).2.2.1
           exact ⟨a, .inl hab, by rw [if_neg (ne a ha)]; exact h2, by rw [if_neg (ne a ha)]; exact h3⟩
         · rintro ⟨a, hab, h2, h3⟩
           have ha := (hrd' a b hab).2.2.1
           rw [if_neg (ne a ha)] at h2 h3
           rcases hab with hab | ⟨_, e2, _, _⟩
           · exact ⟨a, hab, h2, h3⟩
           · exact absurd e2.symm e
     · intro b
       simp only [gh]
       split
       · exact hf12
       · exact h.h12 b
   · rename_i h1
     split
     · rename_i h2
       have hnk : gD st.done k = false := by
        rcases e : gD st.done k with _ | _
        · rfl
        · have := hc.mx k hk e; omega
       have ne : ∀ a, gD st.done a = true -> ¬ k = a := fun a ha e => by rw [e, ha] at hnk; cases hnk
       have gh : ∀ a, gN (st.hops.set k (gN st.hops k ||| fstH s n k st)) a = if k = a then gN st.hops k ||| fstH s n k st else gN st.hops a := fun a => gN_set _ _ _ _ hlh
       refine ⟨h.lc, by simp [h.lh], h.ld, h.cs, ?_, ?_, h.hp, h.ent, h.und, h.dle, h.bnd, hrd', ?_, ?_, ?_⟩
       · simp only [gh]; rw [if_neg hks]; exact h.hs
       · intro i hi his
         simp only [gh]
         rcases h.snd i hi his with ⟨h3, h4⟩ | h3
         · left
           by_cases e : k = i
           · subst e; omega
           · rw [if_neg e]; exact ⟨h3, h4⟩
         · exact .inr h3
       · rintro a b (e | ⟨rfl, rfl, _, _⟩)
         · exact h.rel a b e
         · show gI st.cost b <= gI st.cost a + C a b
           omega
       · intro b hb hbs hle j
         simp only [gh]
         by_cases e : k = b
         · subst e
           rw [if_pos rfl, Nat.testBit_or, Bool.or_eq_true, h.hop k hb hbs hle j, hfb]
           constructor
           · rintro (⟨a, hab, h3, h4⟩ | h3)
             · have ha := (h.rd a k hab).2.2.1
               exact ⟨a, .inl hab, h3, by rw [if_neg (ne a ha)]; exact h4⟩
             · exact ⟨n, .inr ⟨rfl, rfl, hc0, hks⟩, h2, by rw [if_neg (ne n hc.dn)]; exact h3⟩
           · rintro ⟨a, hab, h3, h4⟩
             have ha := (hrd' a k hab).2.2.1
             rw [if_neg (ne a ha)] at h4
             rcases hab with hab | ⟨rfl, _, _, _⟩
             · exact .inl ⟨a, hab, h3, h4⟩
             · exact .inr h4
         · rw [if_neg e, h.hop b hb hbs hle j]
           constructor
           · rintro ⟨a, hab, h3, h4⟩
             have ha := (h.rd a b hab).2.2.1
             exact ⟨a, .inl hab, h3, by rw [if_neg (ne a ha)]; exact h4⟩
           · rintro ⟨a, hab, h3, h4⟩
             have ha := (hrd' a b hab).2.2.1
             rw [if_neg (ne a ha)] at h4
             rcases hab with hab | ⟨_, e2, _, _⟩
             · exact ⟨a, hab, h3, h4⟩
             · exact absurd e2.symm e
       · intro b
         simp only [gh]
         split
         · exact Nat.or_lt_two_pow (n := 12) (h.h12 k) hf12
         · exact h.h12 b
     · rename_i h2
       refine ⟨h.lc, h.lh, h.ld, h.cs, h.hs, h.snd, h.hp, h.ent, h.und, h.dle, h.bnd, hrd', ?_, ?_, h.h12⟩
       · rintro a b (e | ⟨rfl, rfl, _, _⟩)
         · exact h.rel a b e
         · show gI st.cost b <= gI st.cost a + C a b
           omega
       · intro b hb hbs hle j
         rw [h.hop b hb hbs hle j]
         constructor
         · rintro ⟨a, hab, h3⟩; exact ⟨a, .inl hab, h3⟩
         · rintro ⟨a, hab | ⟨rfl, rfl, _, _⟩, h3⟩
           · exact ⟨a, hab, h3⟩
           · exact absurd h3.1 h2
theorem edges_inv {n : Nat} (hC : ∀ a b, C a b <= 1000) (hs12 : s < 12) (h : Inv C D s R st) (hc : Cur D s n st) (hv : Cov C D s n 0 R st) :
  ∀ k, k <= 12 -> (∃ R', Inv C D s R' (edgesTo C s n st k) /\ Cov C D s n k R' (edgesTo C s n st k)) /\ Cur D s n (edgesTo C s n st k) /\ (edgesTo C s n st k).done = st.done /\ (edgesTo C s n st k).heap.length <= st.heap.length + k
 | 0, _ => ⟨⟨R, h, hv⟩, hc, rfl, zab _⟩
 | k + 1, hk => by
   obtain ⟨⟨R', h1, h2⟩, h3, h4, h5⟩ := edges_inv hC hs12 h hc hv k (by omega)
   refine ⟨⟨_, edge_inv hC h1 h3 (by omega) hs12, ?_⟩, edge_cur h1 h3 (by omega), ?_, ?_⟩
   · intro a b ha hb hd hda hab hbs
     have hd' : gD (edgesTo C s n st k).done a = true := by
      have : (edge C s n (edgesTo C s n st k) k).done = (edgesTo C s n st k).done := edge_done
      rw [<- this]; exact hd
     rcases h2 a b ha hb hd' hda hab hbs with h6 | ⟨h6, h7⟩
     · exact .inl (.inl h6)
     · by_cases e : b = k
       · left; right
         subst e; subst h6
         exact ⟨rfl, rfl, hab, hbs⟩
       · exact .inr ⟨h6, by omega⟩
   · exact edge_done.trans h4
   · have := edge_heap (C := C) (s := s) (st := edgesTo C s n st k) (n := n) (k := k)
     show (edge C s n (edgesTo C s n st k) k).heap.length <= _
     omega
theorem cnt_set : ∀ {l : List Bool} {i : Nat}, i < l.length -> gD l i = false -> (l.set i true).countP id = l.countP id + 1
 | [], i, h, _ => by simp at h
 | b :: l, 0, _, h => by
   have : b = false := by simpa [gD] using h
   subst this
   simp
 | b :: l, i + 1, hi, h => by
   have := cnt_set (l := l) (i := i) (by simpa using hi) (by simpa [gD] using h)
   simp only [zbH, List.countP_cons, this]
   omega
theorem cnt_lt : ∀ {l : List Bool} {i : Nat}, i < l.length -> gD l i = false -> l.countP id < l.length
 | [], i, h, _ => by simp at h
 | b :: l, 0, _, h => by
   have : b = false := by simpa [gD] using h
   subst this
   have := List.countP_le_length (p := id) (l := l)
   simp; omega
 | b :: l, i + 1, hi, h => by
   have := cnt_lt (l := l) (i := i) (by simpa using hi) (by simpa [gD] using h)
   simp only [List.countP_cons, zaw]
   split <;> omega
theorem step_inv (hC : ∀ a b, C a b <= 1000) (hs12 : s < 12) (h : Inv C D s R st) (hv : Cov C D s 0 12 R st) (hl : 0 < st.heap.length) :
  topN st < 12 /\ (atS st.heap 0).node = (topN st : Int) /\ (∃ R', Inv C D s R' (stepD C D s st) /\ Cov C D s 0 12 R' (stepD C D s st)) /\ mu (stepD C D s st) < mu st /\
  (gD st.done (topN st) = false -> (topN st = s ∨ D (topN st) = false) -> ∃ R', Inv C D s R' { st with heap := popS st.heap, done := st.done.set (topN st) true } /\ Cur D s (topN st) { st with heap := popS st.heap, done := st.done.set (topN st) true } /\ Cov C D s (topN st) 0 R' { st with heap := popS st.heap, done := st.done.set (topN st) true }) := by
 have hx0 : atS st.heap 0 ∈ st.heap := mem_at.2 ⟨0, hl, rfl⟩
 obtain ⟨i, hi, hxi, hle, hxM⟩ := h.ent _ hx0
 have hti : topN st = i := by unfold topN; rw [hxi]; rfl
 have hpm := pop_mem hl
 refine ⟨by omega, by rw [hxi, hti], ?_⟩
 have hlen := pop_len st.heap
 by_cases hd : gD st.done i = true
 · have e : stepD C D s st = { st with heap := popS st.heap } := by unfold stepD; rw [hti, if_pos hd]
   rw [e]
   refine ⟨⟨R, ⟨h.lc, h.lh, h.ld, h.cs, h.hs, h.snd, pop_hp h.hp, fun x hx => h.ent x ((hpm x).1 (.inl hx)), fun j hj h1 h2 => ?_, fun j hj h1 => ?_, h.bnd, h.rd, h.rel, h.hop, h.h12⟩, hv⟩, ?_, ?_⟩
   · have h3 := h.und j hj h1 h2
     rcases (hpm _).2 h3 with h4 | h4
     · exact h4
     · rw [<- h4] at hxi
       have : j = i := by
        have h9 : (j : Int) = (i : Int) := hxi
        omega
       subst this
       have h2' : gD st.done j = false := h2
       rw [hd] at h2'; cases h2'
   · obtain ⟨h3, h4⟩ := h.dle j hj h1
     exact ⟨h3, fun x hx => h4 x ((hpm x).1 (.inl hx))⟩
   · show 13 * (12 - cd st) + (popS st.heap).length < 13 * (12 - cd st) + st.heap.length
     omega
   · rw [hti, hd]; intro e; cases e
 · have hd' : gD st.done i = false := by simpa using hd
   have hin := h.und i hi (by omega) hd'
   have hxc : (atS st.heap 0).cost = gI st.cost i := by
    obtain ⟨k, hk, e⟩ := mem_at.1 hin
    have := (h.hp.top (k + 1) k (by omega) hk).cost
    rw [e] at this
    have : (atS st.heap 0).cost <= gI st.cost i := this
    omega
   have hcd2 : cd { st with heap := popS st.heap, done := st.done.set i true } = cd st + 1 := cnt_set (by rw [h.ld]; exact hi) hd'
   have hcl : cd st < 12 := by have := cnt_lt (l := st.done) (i := i) (by rw [h.ld]; exact hi) hd'; rw [h.ld] at this; exact this
   have gd : ∀ j, gD (st.done.set i true) j = if i = j then true else gD st.done j := fun j => gD_set _ _ _ _ (by rw [h.ld]; exact hi)
   have hI : Inv C D s R { st with heap := popS st.heap, done := st.done.set i true } := by
    refine ⟨h.lc, h.lh, by simp [h.ld], h.cs, h.hs, h.snd, pop_hp h.hp, fun x hx => h.ent x ((hpm x).1 (.inl hx)), ?_, ?_, ?_, ?_, h.rel, h.hop, h.h12⟩
    · intro j hj h1 h2
      simp only [gd] at h2
      by_cases e : i = j
      · rw [if_pos e] at h2; cases h2
      · rw [if_neg e] at h2
        rcases (hpm _).2 (h.und j hj h1 h2) with h4 | h4
        · exact h4
        · rw [<- h4] at hxi
          have : j = i := by
           have h9 : (j : Int) = (i : Int) := hxi
           omega
          exact absurd this.symm e
    · intro j hj h2
      simp only [gd] at h2
      by_cases e : i = j
      · subst e
        refine ⟨by show gI st.cost i <= _; omega, fun x hx => ?_⟩
        obtain ⟨k, hk, e⟩ := mem_at.1 ((hpm x).1 (.inl hx))
        have := (h.hp.top (k + 1) k (by omega) hk).cost
        rw [e] at this
        show gI st.cost i <= x.cost
        omega
      · rw [if_neg e] at h2
        obtain ⟨h3, h4⟩ := h.dle j hj h2
        exact ⟨h3, fun x hx => h4 x ((hpm x).1 (.inl hx))⟩
    · intro j hj h1
      rw [hcd2]
      have := h.bnd j hj h1
      show gI st.cost j <= _
      omega
    · intro a b hab
      obtain ⟨h1, h2, h3, h4⟩ := h.rd a b hab
      refine ⟨h1, h2, ?_, h4⟩
      simp only [gd]
      split
      · rfl
      · exact h3
   by_cases hq : i ≠ s /\ D i = true
   · have e : stepD C D s st = { st with heap := popS st.heap, done := st.done.set i true } := by unfold stepD; rw [hti, if_neg hd, if_pos hq]
     rw [e]
     refine ⟨⟨R, hI, ?_⟩, ?_, ?_⟩
     · intro a b ha hb hda h1 h2 h3
       simp only [gd] at hda
       by_cases e2 : i = a
       · subst e2
         rcases h1 with h1 | h1
         · exact absurd h1 hq.1
         · rw [hq.2] at h1; cases h1
       · rw [if_neg e2] at hda
         exact hv a b ha hb hda h1 h2 h3
     · unfold mu; rw [hcd2]
       show 13 * (12 - (cd st + 1)) + (popS st.heap).length < _
       omega
     · rw [hti]; intro _ h1
       rcases h1 with h1 | h1
       · exact absurd h1 hq.1
       · rw [hq.2] at h1; cases h1
   · have e : stepD C D s st = edgesTo C s i { st with heap := popS st.heap, done := st.done.set i true } 12 := by unfold stepD; rw [hti, if_neg hd, if_neg hq]
     have hok : i = s ∨ D i = false := by
      by_cases e1 : i = s
      · exact .inl e1
      · right
        rcases e2 : D i with _ | _
        · rfl
        · exact absurd ⟨e1, e2⟩ hq
     have hcur : Cur D s i { st with heap := popS st.heap, done := st.done.set i true } := by
      refine ⟨hi, ?_, hok, ?_, ?_⟩
      · simp only [gd]; rw [if_pos trivial]
      · rw [hcd2]
        have := h.bnd i hi (by omega)
        show gI st.cost i + 1000 <= _
        omega
      · intro a ha h1
        simp only [gd] at h1
        by_cases e2 : i = a
        · subst e2; exact zbS _
        · rw [if_neg e2] at h1
          have := (h.dle a ha h1).2 _ hx0
          show gI st.cost a <= gI st.cost i
          omega
     have hcov : Cov C D s i 0 R { st with heap := popS st.heap, done := st.done.set i true } := by
      intro a b ha hb hda h1 h2 h3
      simp only [gd] at hda
      by_cases e2 : i = a
      · exact .inr ⟨e2.symm, zak _⟩
      · rw [if_neg e2] at hda
        rcases hv a b ha hb hda h1 h2 h3 with h4 | ⟨_, h4⟩
        · exact .inl h4
        · omega
     obtain ⟨⟨R', h1, h2⟩, h3, h4, h5⟩ := edges_inv hC hs12 hI hcur hcov 12 (zab _)
     rw [e]
     refine ⟨⟨R', h1, ?_⟩, ?_, ?_⟩
     · intro a b ha hb hda h6 h7 h8
       rcases h2 a b ha hb hda h6 h7 h8 with h9 | ⟨_, h9⟩
       · exact .inl h9
       · omega
     · unfold mu
       have : cd (edgesTo C s i { st with heap := popS st.heap, done := st.done.set i true } 12) = cd st + 1 := by rw [<- hcd2]; unfold cd; rw [h4]
       rw [this]
       have h5' : (edgesTo C s i { st with heap := popS st.heap, done := st.done.set i true } 12).heap.length <= (popS st.heap).length + 12 := h5
       omega
     · rw [hti]; intro _ _; exact ⟨R, hI, hcur, hcov⟩
theorem steps_find (hC : ∀ a b, C a b <= 1000) (h : Inv C D s R st) (hv : Cov C D s 0 12 R st) (hs12 : s < 12) (hl : st.heap = []) {i : Nat} (hi : i < 12) (his : i ≠ s) :
  (gI st.cost i = 1048577 /\ gN st.hops i = 0 /\ ∀ c, ¬ Pth C D s (fun _ => True) i c) ∨
  ∃ m : Nat, gI st.cost i = m /\ m <= 1048576 /\ Mn C D s (fun _ => True) i m /\ ∀ j, (gN st.hops i).testBit j = true ↔ Pth C D s (· = j) i m := by
 have hdn : ∀ i, i < 12 -> gI st.cost i <= 1048576 -> gD st.done i = true := by
  intro i hi hle
  rcases e : gD st.done i with _ | _
  · have := h.und i hi hle e
    rw [hl] at this; simp at this
  · rfl
 have hcd := cd_le h.ld
 have hR : ∀ a b, a < 12 -> b < 12 -> gI st.cost a <= 1048576 -> (a = s ∨ D a = false) -> C a b ≠ 0 -> b ≠ s -> R a b := by
  intro a b ha hb h1 h2 h3 h4
  rcases hv a b ha hb (hdn a ha h1) h2 h3 h4 with h5 | ⟨_, h5⟩
  · exact h5
  · omega
 have low : ∀ F i c, Pth C D s F i c -> gI st.cost i <= c /\ gI st.cost i <= 1048576 := by
  intro F i c hp
  induction hp with
  | one k h1 h2 h3 h4 =>
    have := h.rel s k (hR s k hs12 h1 (by rw [h.cs]; omega) (.inl rfl) h3 h2)
    have h5 := hC s k
    rw [h.cs] at this
    omega
  | step a b c hp h1 h2 h3 h4 ih =>
    have := h.rel a b (hR a b hp.lt.1 h2 ih.2 (.inr h1) h4 h3)
    have h5 := hC a b
    have h6 := h.bnd a hp.lt.1 ih.2
    omega
 rcases h.snd i hi his with ⟨h1, h2⟩ | ⟨h1, h2, h3⟩
 · left
   refine ⟨h1, h2, fun c hc => ?_⟩
   have := (low _ i c hc).2
   omega
 · right
   refine ⟨(gI st.cost i).toNat, by omega, by omega, ⟨h3, fun c hc => ?_⟩, fun j => ⟨?_, ?_⟩⟩
   · have := (low _ i c hc).1; omega
   · have key : ∀ (n : Nat) (i : Nat), i < 12 -> i ≠ s -> gI st.cost i <= 1048576 -> (gI st.cost i).toNat < n -> (gN st.hops i).testBit j = true -> Pth C D s (· = j) i (gI st.cost i).toNat := by
      intro n
      induction n with
      | zero => intro i _ _ _ e; omega
      | succ n ih =>
        intro i hi his hle hn hj
        obtain ⟨a, hab, h4, h5⟩ := (h.hop i hi his hle j).1 hj
        obtain ⟨ha, _, _, h6, h7, _⟩ := h.rd a i hab
        have hna := h.nn ha
        by_cases e : a = s
        · subst e
          rw [if_pos rfl] at h5
          rw [h.cs] at h4
          have e3 : (gI st.cost i).toNat = C a i := by omega
          rw [e3]
          exact .one i hi his h7 h5.symm
        · rw [if_neg e] at h5
          have h8 := ih a ha e (by omega) (by omega) h5
          have e3 : (gI st.cost i).toNat = (gI st.cost a).toNat + C a i := by omega
          rw [e3]
          exact .step a i _ h8 (h6.resolve_left e) hi his h7
     exact key _ i hi his h2 (zbN _)
   · intro hp
     have key : ∀ i c, Pth C D s (· = j) i c -> c = (gI st.cost i).toNat -> (gN st.hops i).testBit j = true := by
      intro i c hp
      induction hp with
      | one k h1 h2 h3 h4 =>
        intro hc
        have h5 := low _ k _ (.one (F := fun _ => True) (D := D) k h1 h2 h3 trivial)
        have h6 := h.nn h1
        refine (h.hop k h1 h2 h5.2 j).2 ⟨s, hR s k hs12 h1 (by rw [h.cs]; omega) (.inl rfl) h3 h2, by rw [h.cs]; omega, by rw [if_pos rfl]; exact h4.symm⟩
      | step a b c hp h1 h2 h3 h4 ih =>
        intro hc
        have h5 := low _ a c hp
        have h6 := low _ b _ (.step a b c hp h1 h2 h3 h4)
        have h7 := h.nn hp.lt.1
        have h8 := h.nn h2
        have hr := hR a b hp.lt.1 h2 h5.2 (.inr h1) h4 h3
        have h9 := h.rel a b hr
        have hca : c = (gI st.cost a).toNat := by omega
        exact (h.hop b h2 h3 h6.2 j).2 ⟨a, hr, by omega, by rw [if_neg hp.lt.2.1]; exact ih hca⟩
     exact key i _ hp rfl
end
def ini (s : Nat) : Ds := ⟨(List.replicate 12 1048577).set s 0, List.replicate 12 0, List.replicate 12 false, pushS [] ⟨s, 0⟩⟩
theorem gN_rep (i : Nat) : gN (List.replicate 12 0) i = 0 := by
 unfold gN; rw [zal, zbB]; split <;> rfl
theorem gD_rep (i : Nat) : gD (List.replicate 12 false) i = false := by
 unfold gD; rw [zal, zbB]; split <;> rfl
theorem gI_ini {s i : Nat} (hs : s < 12) (hi : i < 12) : gI ((List.replicate 12 (1048577 : Int)).set s 0) i = if s = i then 0 else 1048577 := by
 rw [gI_set _ _ _ _ (by simpa using hs)]
 split
 · rfl
 · unfold gI; rw [zal, zbB, if_pos hi]; rfl
theorem ini_inv (C : Nat -> Nat -> Nat) (D : Nat -> Bool) {s : Nat} (hs : s < 12) : Inv C D s (fun _ _ => False) (ini s) /\ Cov C D s 0 12 (fun _ _ => False) (ini s) := by
 have hm : ∀ x, x ∈ (ini s).heap ↔ x = ⟨s, 0⟩ := by intro x; unfold ini; simp only; rw [push_mem]; simp
 refine ⟨⟨by simp [ini], by simp [ini], by simp [ini], ?_, gN_rep _, ?_, ?_, ?_, ?_, ?_, ?_, fun _ _ h => h.elim, fun _ _ h => h.elim, ?_, ?_⟩, ?_⟩
 · show gI ((List.replicate 12 (1048577 : Int)).set s 0) s = 0
   rw [gI_ini hs hs, if_pos rfl]
 · intro i hi his
   left
   refine ⟨?_, gN_rep _⟩
   show gI ((List.replicate 12 (1048577 : Int)).set s 0) i = _
   rw [gI_ini hs hi, if_neg (fun e => his e.symm)]
 · show Hp (pushS [] ⟨s, 0⟩)
   exact push_hp (by intro j _ h; simp at h) _
 · intro x hx
   rw [hm] at hx; subst hx
   refine ⟨s, hs, rfl, ?_, by show (0 : Int) <= 1048576; omega⟩
   show gI ((List.replicate 12 (1048577 : Int)).set s 0) s <= 0
   rw [gI_ini hs hs, if_pos rfl]; omega
 · intro i hi hle _
   have hle' : gI ((List.replicate 12 (1048577 : Int)).set s 0) i <= 1048576 := hle
   rw [gI_ini hs hi] at hle'
   split at hle'
   · rename_i e; subst e
     rw [hm]
     show Spot.mk (s : Int) (gI ((List.replicate 12 (1048577 : Int)).set s 0) s) = _
     rw [gI_ini hs hs, if_pos rfl]
   · omega
 · intro i _ h
   have h' : gD (List.replicate 12 false) i = true := h
   rw [gD_rep] at h'; cases h'
 · intro i hi hle
   have hle' : gI ((List.replicate 12 (1048577 : Int)).set s 0) i <= 1048576 := hle
   rw [gI_ini hs hi] at hle'
   show gI ((List.replicate 12 (1048577 : Int)).set s 0) i <= _
   rw [gI_ini hs hi]
   split at hle' <;> split <;> omega
 · intro b hb hbs hle j
   have hle' : gI ((List.replicate 12 (1048577 : Int)).set s 0) b <= 1048576 := hle
   rw [gI_ini hs hb, if_neg (fun e => hbs e.symm)] at hle'
   omega
 · intro b
   show gN (List.replicate 12 0) b < 4096
   rw [gN_rep]; omega
 · intro a b _ _ h
   have h' : gD (List.replicate 12 false) a = true := h
   rw [gD_rep] at h'; cases h'
end
section
open Go Go.RowKit
structure Vec (w : World) (B : Nat) (g : Nat -> Int) : Prop where
 cell : ∀ i, i < 12 -> w.cell? ⟨B, i, none⟩ = some (.int .i64 (g i))
 fz : ∀ o, w.frozen? ⟨B, o, none⟩ = false
 lt : B < w.heap.size
structure Bits (w : World) (B : Nat) (g : Nat -> Bool) : Prop where
 cell : ∀ i, i < 12 -> w.cell? ⟨B, i, none⟩ = some (.bool (g i))
 fz : ∀ o, w.frozen? ⟨B, o, none⟩ = false
 lt : B < w.heap.size
theorem Vec.keep {w w' : World} {B : Nat} {m : Nat -> Int} (h : Vec w B m) (hk : w'.heap[B]? = w.heap[B]?) : Vec w' B m :=
 ⟨fun i hi => (zav (w := w) hk).trans (h.cell i hi), fun o => (zaO (w := w) hk).trans (h.fz o), lt_of_same h.lt hk⟩
theorem Bits.keep {w w' : World} {B : Nat} {m : Nat -> Bool} (h : Bits w B m) (hk : w'.heap[B]? = w.heap[B]?) : Bits w' B m :=
 ⟨fun i hi => (zav (w := w) hk).trans (h.cell i hi), fun o => (zaO (w := w) hk).trans (h.fz o), lt_of_same h.lt hk⟩
theorem Vec.below {w w' : World} {B : Nat} {m : Nat -> Int} (h : Vec w B m) (hb : Below w.heap.size w w') : Vec w' B m := h.keep (hb.block B h.lt)
theorem Bits.below {w w' : World} {B : Nat} {m : Nat -> Bool} (h : Bits w B m) (hb : Below w.heap.size w w') : Bits w' B m := h.keep (hb.block B h.lt)
theorem Vec.far {w : World} {B : Nat} {m : Nat -> Int} (h : Vec w B m) {p : Addr} (hp : p.block ≠ B) (v : Value) : Vec (w.setCell p v) B m := h.keep (zai _ _ _ _ (fun e => hp e.symm))
theorem Bits.far {w : World} {B : Nat} {m : Nat -> Bool} (h : Bits w B m) {p : Addr} (hp : p.block ≠ B) (v : Value) : Bits (w.setCell p v) B m := h.keep (zai _ _ _ _ (fun e => hp e.symm))
theorem Vec.set {w : World} {B : Nat} {m m' : Nat -> Int} (h : Vec w B m) {i : Nat} (hi : i < 12) (x : Int) (hm : ∀ a, a < 12 -> m' a = if a = i then x else m a) : Vec (w.setCell ⟨B, i, none⟩ (.int .i64 x)) B m' := by
 refine ⟨fun a ha => ?_, fun o => by rw [zau]; exact h.fz o, by simp [World.setCell]; exact h.lt⟩
 rw [hm a ha]
 by_cases e : a = i
 · subst e
   rw [if_pos rfl]
   exact zay w _ _ (by rw [h.cell a ha]; rfl)
 · rw [if_neg e, zag w _ _ _ (by intro e2; injection e2 with _ e3 _; exact e e3.symm)]
   exact h.cell a ha
theorem Bits.set {w : World} {B : Nat} {m m' : Nat -> Bool} (h : Bits w B m) {i : Nat} (hi : i < 12) (x : Bool) (hm : ∀ a, a < 12 -> m' a = if a = i then x else m a) : Bits (w.setCell ⟨B, i, none⟩ (.bool x)) B m' := by
 refine ⟨fun a ha => ?_, fun o => by rw [zau]; exact h.fz o, by simp [World.setCell]; exact h.lt⟩
 rw [hm a ha]
 by_cases e : a = i
 · subst e
   rw [if_pos rfl]
   exact zay w _ _ (by rw [h.cell a ha]; rfl)
 · rw [if_neg e, zag w _ _ _ (by intro e2; injection e2 with _ e3 _; exact e e3.symm)]
   exact h.cell a ha
theorem Vec.eq {w : World} {B : Nat} {m m' : Nat -> Int} (h : Vec w B m) (hm : ∀ a, a < 12 -> m' a = m a) : Vec w B m' := ⟨fun i hi => by rw [hm i hi]; exact h.cell i hi, h.fz, h.lt⟩
theorem Bits.eq {w : World} {B : Nat} {m m' : Nat -> Bool} (h : Bits w B m) (hm : ∀ a, a < 12 -> m' a = m a) : Bits w B m' := ⟨fun i hi => by rw [hm i hi]; exact h.cell i hi, h.fz, h.lt⟩
theorem bits_zero (w : World) (T : TypeId) (B : Nat) (hB : B = w.heap.size) : Bits (w.alloc (.cells #[.bool false, .bool false, .bool false, .bool false, .bool false, .bool false, .bool false, .bool false, .bool false, .bool false, .bool false, .bool false] T)) B (fun _ => false) := by
 refine ⟨fun i hi => ?_, fun o => zaD _ _ _ _ hB, by simp [hB]⟩
 rw [zae _ _ _ _ hB]
 have : ∀ i, i < 12 -> (#[Value.bool false, .bool false, .bool false, .bool false, .bool false, .bool false, .bool false, .bool false, .bool false, .bool false, .bool false, .bool false])[i]? = some (.bool false) := by
  intro i hi
  match i, hi with
  | 0, _ | 1, _ | 2, _ | 3, _ | 4, _ | 5, _ | 6, _ | 7, _ | 8, _ | 9, _ | 10, _ | 11, _ => rfl
  | n + 12, h => omega
 exact this i hi
theorem vec_zero (w : World) (B : Nat) (hB : B = w.heap.size) : Vec (w.alloc (.cells #[.int .i64 0, .int .i64 0, .int .i64 0, .int .i64 0, .int .i64 0, .int .i64 0, .int .i64 0, .int .i64 0, .int .i64 0, .int .i64 0, .int .i64 0, .int .i64 0] 3)) B (fun _ => 0) := by
 refine ⟨fun i hi => ?_, fun o => zaD _ _ _ _ hB, by simp [hB]⟩
 rw [zae _ _ _ _ hB]
 match i, hi with
 | 0, _ | 1, _ | 2, _ | 3, _ | 4, _ | 5, _ | 6, _ | 7, _ | 8, _ | 9, _ | 10, _ | 11, _ => rfl
 | n + 12, h => omega
theorem make12 (w : World) : (Instr.makeSlice 54 (.int .i64 12) (.int .i64 12)).run Tryz.prog w = .ok (.slice (some ⟨w.heap.size, 0, none⟩) 12 12) (w.alloc (.cells #[.int .i64 0, .int .i64 0, .int .i64 0, .int .i64 0, .int .i64 0, .int .i64 0, .int .i64 0, .int .i64 0, .int .i64 0, .int .i64 0, .int .i64 0, .int .i64 0] 3)) := by kernel_rfl
section
variable {C : Nat -> Nat -> Nat} {D : Nat -> Bool} {s : Nat} {F : Nat -> Bool}
end
def fstF (f : Int) (i : Nat) : Bool := decide (f < 0) || decide (f = i)
def best (xs : List Entry) (s : Nat) (f : Int) (r : Nat) : List Int := rnds (linkC xs) (fun a => (adjAt xs a).1) s (iniB (linkC xs) s (fstF f)) r
theorem set_gI {M : List Int} (h : M.length = 12) {b x : Nat} (hb : b < 12) (v : Int) : gI (M.set b v) x = if x = b then v else gI M x := by
 rw [gI_set _ _ _ _ (by omega)]
 by_cases e : x = b
 · rw [if_pos e, if_pos e.symm]
 · rw [if_neg e, if_neg (fun e2 => e e2.symm)]
end
section
open Go
theorem find_takeE {b : List Entry} (hb : b.Pairwise ltE) {n : Nat} (hn : n < b.length) (k : ByteArray) : findE (b.take (n + 1)) k = if b[n].key = k then some b[n] else findE (b.take n) k := by
 rw [zar hn]
 unfold findE
 rw [List.find?_append]
 by_cases e : b[n].key = k
 · have hnone : (b.take n).find? (fun e => decide (e.key = k)) = none := by
    rw [zbR]
    intro x hx hk
    obtain ⟨i, hi, rfl⟩ := zaj hx
    rw [zaq] at hi
    have hlt : ltE b[i] b[n] := zaF.1 hb i n (by omega) hn (by omega)
    rw [zbs] at hk
    have hk' : b[i].key = k := of_decide_eq_true hk
    unfold ltE at hlt
    rw [hk', e] at hlt
    rw [ltB_irrefl] at hlt
    cases hlt
   rw [hnone, if_pos e]; simp [e]
 · rw [if_neg e]; simp [e]
theorem cutB_form (b : UInt8) : ∀ l : List UInt8, (l = (cutB b l).1 ++ b :: (cutB b l).2.1) ∨ (cutB b l).2.1 = []
 | [] => .inr rfl
 | c :: r => by
   unfold cutB
   by_cases e : c = b
   · rw [if_pos e]; left; subst e; rfl
   · rw [if_neg e]
     rcases cutB_form b r with h | h
     · left
       show c :: r = c :: (cutB b r).1 ++ b :: (cutB b r).2.1
       rw [zbW, <- h]
     · exact .inr h
theorem key_iff (e : Entry) {n : Nat} (hn : n < 12) : (kindE e = [97] /\ nodeE e = n) ↔ e.key = keyA n := by
 unfold kindE nodeE
 constructor
 · rintro ⟨h1, h2⟩
   obtain ⟨m, h3, _, h5⟩ := num_inv (s := (cutB 58 e.key.data.toList).2.1) (most := 11) (by omega)
   have hm : m = n := by omega
   subst hm
   rcases cutB_form 58 e.key.data.toList with h | h
   · unfold keyA
     rw [h1, h3] at h
     rw [<- bOf_data e.key, h]; rfl
   · rw [h] at h3
     exact absurd h3.symm (dec_ne m)
 · intro h
   have hc : cutB 58 e.key.data.toList = ([97], Lib.decDigits n, true) := by
    rw [h]; unfold keyA; rw [bOf_list]
    exact cutB_at (a := [97]) (Lib.decDigits n) (by decide)
   rw [hc]
   exact ⟨rfl, num_dec n 11 (by omega) (by omega)⟩
theorem sides_lt {l : List Side} (h : chkSides l = 0) : ∀ (d i : Nat) (hi : i + d + 1 < l.length), (l[i]'(by omega)).node < l[i + d + 1].node
 | 0, i, hi => sides_ord h i hi
 | d + 1, i, hi => by
   have h1 := sides_lt h d i (by omega)
   have h2 := sides_ord h (i + d + 1) hi
   exact Int.lt_trans h1 h2
theorem puts_other {C : Nat -> Nat -> Int} {n a b : Nat} (ha : a ≠ n) : ∀ l : List Side, putSides C n l a b = C a b := by
 intro l
 induction l generalizing C with
 | nil => rfl
 | cons x l ih =>
   show putSides (sideC1 n C x) n l a b = _
   rw [ih]
   unfold sideC1
   split
   · rfl
   · unfold updC; rw [if_neg (fun h => ha h.1)]
theorem puts_self {C : Nat -> Nat -> Int} {n : Nat} (h0 : C n n = 0) : ∀ l : List Side, (∀ x ∈ l, 0 <= x.node) -> putSides C n l n n = 0 := by
 intro l
 induction l generalizing C with
 | nil => intro _; exact h0
 | cons x l ih =>
   intro hx
   show putSides (sideC1 n C x) n l n n = _
   refine ih ?_ (fun y hy => hx y (by simp [hy]))
   unfold sideC1
   split
   · exact h0
   · rename_i h
     have := hx x (by simp)
     unfold updC; rw [if_neg (fun e => h (by omega))]; exact h0
theorem puts_take {C : Nat -> Nat -> Int} {n b : Nat} {l : List Side} (hl : chkSides l = 0) (hC : C n b = 0) (hb : b ≠ n) : ∀ k, k <= l.length -> putSides C n (l.take k) n b = sideC (l.take k) b
 | 0, _ => by simp [putSides, sideC, hC]
 | k + 1, hk => by
   have hk' : k < l.length := hk
   have ih := puts_take hl hC hb k (by omega)
   rw [putSides_succ hk']
   have hkb := sides_all hl k hk'
   have hsc : sideC (l.take (k + 1)) b = if l[k].node = b then l[k].cost else sideC (l.take k) b := by
    rw [zar hk']
    unfold sideC
    rw [List.find?_append]
    by_cases e : l[k].node = b
    · have hnone : (l.take k).find? (fun x => decide (x.node = (b : Int))) = none := by
       rw [zbR]
       intro x hx hk2
       obtain ⟨i, hi, rfl⟩ := zaj hx
       rw [zaq] at hi
       rw [zbs] at hk2
       have hk3 : l[i].node = b := of_decide_eq_true hk2
       have hlt := sides_lt hl (k - i - 1) i (by omega)
       have he : i + (k - i - 1) + 1 = k := by omega
       simp only [he] at hlt
       omega
      rw [hnone, if_pos e]; simp [e]
    · rw [if_neg e]; simp [e]
   rw [hsc]
   unfold sideC1
   by_cases e : l[k].node = b
   · rw [if_neg (by omega), if_pos e]
     unfold updC
     rw [if_pos ⟨rfl, by omega⟩]
   · rw [if_neg e]
     split
     · exact ih
     · unfold updC
       rw [if_neg (fun h => e (by omega))]
       exact ih
theorem adj_take {xs : List Entry} (h : OkS xs) {k : Nat} (hk : k < xs.length) (n : Nat) : adjAt (xs.take (k + 1)) n = if xs[k].key = keyA n then ((readAdj xs[k].value.data.toList).1, (readAdj xs[k].value.data.toList).2.1) else adjAt (xs.take k) n := by
 unfold adjAt
 rw [find_takeE h.ord hk]
 by_cases e : xs[k].key = keyA n
 · rw [if_pos e, if_pos e]
 · rw [if_neg e, if_neg e]
theorem adj_before {xs : List Entry} (h : OkS xs) {k : Nat} (hk : k < xs.length) {n : Nat} (e : xs[k].key = keyA n) : adjAt (xs.take k) n = (false, []) := by
 unfold adjAt
 have : findE (xs.take k) (keyA n) = none := by
  unfold findE
  rw [zbR]
  intro x hx hk2
  obtain ⟨i, hi, rfl⟩ := zaj hx
  rw [zaq] at hi
  have hlt : ltE xs[i] xs[k] := zaF.1 h.ord i k (by omega) hk (by omega)
  rw [zbs] at hk2
  have hk' : xs[i].key = keyA n := of_decide_eq_true hk2
  unfold ltE at hlt
  rw [hk', e] at hlt
  rw [ltB_irrefl] at hlt
  cases hlt
 rw [this]
theorem gph_take {xs : List Entry} (h : OkS xs) : ∀ k, k <= xs.length -> (∀ a b, a < 12 -> b < 12 -> (gphTo xs k).C a b = if a = b then 0 else sideC (adjAt (xs.take k) a).2 b) /\ (∀ a, a < 12 -> (gphTo xs k).D a = (adjAt (xs.take k) a).1)
 | 0, _ => by
   refine ⟨fun a b _ _ => ?_, fun a _ => rfl⟩
   show (0 : Int) = _
   split <;> rfl
 | k + 1, hk => by
   have hk' : k < xs.length := hk
   obtain ⟨ih1, ih2⟩ := gph_take h k (by omega)
   rw [gphTo_succ hk']
   rcases nodeE_cases xs[k] with hn | ⟨n, hn, hn12⟩
   · have hno : ∀ a, a < 12 -> xs[k].key ≠ keyA a := fun a ha e => by have := ((key_iff xs[k] ha).2 e).2; omega
     have hs : stepE (gphTo xs k) xs[k] = gphTo xs k := by unfold stepE; rw [if_pos hn]
     rw [hs]
     refine ⟨fun a b ha hb => ?_, fun a ha => ?_⟩
     · rw [adj_take h hk', if_neg (hno a ha)]; exact ih1 a b ha hb
     · rw [adj_take h hk', if_neg (hno a ha)]; exact ih2 a ha
   · have hnn : ¬ nodeE xs[k] < 0 := by omega
     have hnt : (nodeE xs[k]).toNat = n := by omega
     by_cases hk1 : kindE xs[k] = [97]
     · have hkey : xs[k].key = keyA n := (key_iff xs[k] hn12).1 ⟨hk1, hn⟩
       have hs : stepE (gphTo xs k) xs[k] = stepA (gphTo xs k) n xs[k].value.data.toList := by unfold stepE; rw [if_neg hnn, if_pos hk1, hnt]
       have hoth : ∀ a, a < 12 -> a ≠ n -> xs[k].key ≠ keyA a := fun a ha hne e => by have := ((key_iff xs[k] ha).2 e).2; omega
       rw [hs]
       have hbef := adj_before h hk' hkey
       have hchk := readAdj_chk xs[k].value.data.toList
       refine ⟨fun a b ha hb => ?_, fun a ha => ?_⟩
       · show putSides (gphTo xs k).C n (readAdj xs[k].value.data.toList).2.1 a b = _
         by_cases e : a = n
         · subst e
           rw [adj_take h hk', if_pos hkey]
           by_cases e2 : a = b
           · subst e2
             rw [if_pos rfl]
             refine puts_self (by rw [ih1 a a ha ha, if_pos rfl]) _ (fun x hx => ?_)
             obtain ⟨i, hi, rfl⟩ := zaj hx
             exact (sides_all hchk i hi).1
           · rw [if_neg e2]
             have := puts_take (C := (gphTo xs k).C) (n := a) (b := b) hchk (by rw [ih1 a b ha hb, if_neg e2, hbef]; rfl) (fun e => e2 e.symm) _ (zab _)
             rw [zaP] at this
             exact this
         · rw [puts_other e, adj_take h hk', if_neg (hoth a ha e)]
           exact ih1 a b ha hb
       · show (if a = n then (readAdj xs[k].value.data.toList).1 else (gphTo xs k).D a) = _
         by_cases e : a = n
         · subst e
           rw [adj_take h hk', if_pos hkey, if_pos rfl]
         · rw [if_neg e, adj_take h hk', if_neg (hoth a ha e)]
           exact ih2 a ha
     · have hno : ∀ a, a < 12 -> xs[k].key ≠ keyA a := fun a ha e => hk1 ((key_iff xs[k] ha).2 e).1
       have hs : (stepE (gphTo xs k) xs[k]).C = (gphTo xs k).C /\ (stepE (gphTo xs k) xs[k]).D = (gphTo xs k).D := by
        unfold stepE
        rw [if_neg hnn, if_neg hk1]
        split <;> exact ⟨rfl, rfl⟩
       rw [hs.1, hs.2]
       refine ⟨fun a b ha hb => ?_, fun a ha => ?_⟩
       · rw [adj_take h hk', if_neg (hno a ha)]; exact ih1 a b ha hb
       · rw [adj_take h hk', if_neg (hno a ha)]; exact ih2 a ha
theorem graphS_links {xs : List Entry} (h : checkS xs = 0) : (∀ a b, a < 12 -> b < 12 -> (graphS xs).C a b = (linkC xs a b : Nat)) /\ (∀ a, a < 12 -> (graphS xs).D a = (adjAt xs a).1) := by
 obtain ⟨h1, h2⟩ := gph_take (okS_of h) xs.length (zab _)
 rw [zaP] at h1 h2
 refine ⟨fun a b ha hb => ?_, h2⟩
 show symAll (gphTo xs xs.length).C a b = _
 unfold symAll linkC
 rw [h1 a b ha hb, h1 b a hb ha]
 by_cases e : a = b
 · subst e
   rw [if_neg (fun h => h.1 rfl), if_pos rfl, if_pos (.inl rfl)]; rfl
 · rw [if_neg e, if_neg (show ¬ b = a from fun x => e x.symm)]
   have hle := sideC_le (adjAt_chk xs a) b
   by_cases e2 : sideC (adjAt xs b).2 a = 0
   · rw [if_pos ⟨e, .inr e2⟩, if_pos (.inr e2)]; rfl
   · rw [if_neg (show ¬ (a = b ∨ sideC (adjAt xs b).2 a = 0) by rintro (h | h) <;> contradiction)]
     split
     · rename_i h3
       rcases h3.2 with h4 | h4
       · rw [h4]; rfl
       · exact absurd h4 e2
     · omega
end
section
open Go Go.RowKit Go.Deep
structure Way where
 cost : Int
 hops : List Int
def wayR : Rep Way :=
 { size := 2, holds := fun w S cs x => ∃ v, cs = [.int .i64 x.cost, v] /\ SlR intR w S v x.hops /\ inR x.cost
   len := fun ⟨v, h, _⟩ => by rw [h]; rfl
   one := fun ⟨v, h, ⟨A, c, hv, _⟩, _⟩ u hu => by
    rw [h, hv] at hu
    simp at hu
    rcases hu with rfl | rfl <;> rfl
   keep := fun ⟨v, h1, h2, h3⟩ k1 k2 => ⟨v, h1, h2.keep k1 k2, h3⟩ }
theorem Sl.way {w : World} {b off c n : Nat} {xs : List Way} (h : Sl wayR w (.slice (some ⟨b, off, none⟩) n c) xs) {k : Nat} (hk : k < xs.length) :
  ∃ v, w.cell? ⟨b, off + k * 2, none⟩ = some (.int .i64 xs[k].cost) /\ w.cell? ⟨b, off + k * 2 + 1, none⟩ = some v /\ Sl intR w v xs[k].hops /\ inR xs[k].cost := by
 obtain ⟨cs, ⟨v, rfl, hs, hw⟩, hc⟩ := h.cell hk
 exact ⟨v, hc 0 _ rfl, hc 1 _ rfl, hs, hw⟩
theorem OwR.slF {E base : Nat} {w : World} {v : Value} {xs : List Int} (h : OwR intR E base w v xs) : SlR intR w (fun k => k < w.heap.size /\ base <= k) v xs := by
 obtain ⟨A, c, rfl, h1, h2, h3⟩ := h.sl (by decide)
 refine ⟨A, c, rfl, h1, h2, fun i x hx => ?_⟩
 obtain ⟨b, off, cs, rfl, hS, hb, hh, hc⟩ := h3 i x hx
 exact ⟨b, off, cs, rfl, ⟨hb, (h.base_le b rfl).1⟩, hb, hh, hc⟩
structure WBox (w : World) (A : Nat) (c : Int) (o : Value) : Prop where
 c0 : w.cell? ⟨A, 0, none⟩ = some (.int .i64 c)
 c1 : w.cell? ⟨A, 1, none⟩ = some o
 fz : ∀ i, w.frozen? ⟨A, i, none⟩ = false
 lt : A < w.heap.size
theorem WBox.keep {w w' : World} {A : Nat} {d : Int} {o : Value} (h : WBox w A d o) (hk : w'.heap[A]? = w.heap[A]?) : WBox w' A d o :=
 ⟨(zav (w := w) hk).trans h.c0, (zav (w := w) hk).trans h.c1, fun i => (zaO (w := w) hk).trans (h.fz i), lt_of_same h.lt hk⟩
theorem WBox.below {w w' : World} {A : Nat} {d : Int} {o : Value} (h : WBox w A d o) (hb : Below w.heap.size w w') : WBox w' A d o := h.keep (hb.block A h.lt)
def hopsTo (xs : List Entry) (s q : Nat) (c : Int) : Nat -> List Int
 | 0 => []
 | k + 1 => if gI (best xs s (k : Int) 12) q = c then hopsTo xs s q c k ++ [(k : Int)] else hopsTo xs s q c k
def hopsFor (xs : List Entry) (s q : Nat) (c : Int) (k : Nat) : List Int := if c < 0 then [] else hopsTo xs s q c k
def costTo (xs : List Entry) (s q : Nat) : Int := gI (best xs s (-1) 12) q
def wayTo (xs : List Entry) (s q : Nat) : Way := if q = s then ⟨0, []⟩ else ⟨costTo xs s q, hopsFor xs s q (costTo xs s q) 12⟩
def waysTo (xs : List Entry) (s : Nat) (n : Nat) : List Way := (List.range n).map (wayTo xs s)
theorem waysTo_len (xs : List Entry) (s n : Nat) : (waysTo xs s n).length = n := by simp [waysTo]
end
section
open Go
def bitsTo (h : Nat) : Nat -> List Int
 | 0 => []
 | k + 1 => if h.testBit k = true then bitsTo h k ++ [(k : Int)] else bitsTo h k
def costW (st : Ds) (q : Nat) : Int := if gI st.cost q <= 1048576 then gI st.cost q else -1
def outW (st : Ds) (q : Nat) : Way := ⟨costW st q, bitsTo (gN st.hops q) 12⟩
theorem bitsTo_len (h : Nat) : ∀ k, (bitsTo h k).length <= k
 | 0 => zab _
 | k + 1 => by
   have := bitsTo_len h k
   unfold bitsTo
   split
   · simp; omega
   · omega
theorem bits_zero_list : ∀ k, bitsTo 0 k = []
 | 0 => rfl
 | k + 1 => by unfold bitsTo; rw [if_neg (by simp)]; exact bits_zero_list k
theorem Pth.same {C : Nat -> Nat -> Nat} {D : Nat -> Bool} {s : Nat} {F G : Nat -> Prop} (h : ∀ k, F k ↔ G k) {i c : Nat} : Pth C D s F i c ↔ Pth C D s G i c :=
 ⟨Pth.mono fun k => (h k).1, Pth.mono fun k => (h k).2⟩
theorem fst_all (k : Nat) : fstF (-1) k = true ↔ True := by unfold fstF; simp
theorem fst_one (j k : Nat) : fstF (j : Int) k = true ↔ k = j := by
 unfold fstF
 simp only [Bool.or_eq_true, decide_eq_true_eq]
 omega
theorem ways_agree {xs : List Entry} {s : Nat} (hs : s < 12) {C : Nat -> Nat -> Nat} {D : Nat -> Bool} (hC : ∀ a b, C a b = linkC xs a b) (hD : ∀ a, D a = (adjAt xs a).1) {R : Nat -> Nat -> Prop} {st : Ds} (h : Inv C D s R st) (hv : Cov C D s 0 12 R st) (hl : st.heap = []) {q : Nat} (hq : q < 12) :
  outW st q = wayTo xs s q := by
 obtain rfl : C = linkC xs := by funext a b; exact hC a b
 obtain rfl : D = fun a => (adjAt xs a).1 := by funext a; exact hD a
 unfold wayTo outW
 by_cases hqs : q = s
 · subst hqs
   rw [if_pos rfl]
   unfold costW
   rw [h.cs, h.hs, bits_zero_list]; rfl
 · rw [if_neg hqs]
   have hr := rounds_find (C := linkC xs) (D := fun a => (adjAt xs a).1) (s := s) (F := fstF (-1)) q
   have hall : ∀ c, Pth (linkC xs) (fun a => (adjAt xs a).1) s (fun k => fstF (-1) k = true) q c ↔ Pth (linkC xs) (fun a => (adjAt xs a).1) s (fun _ => True) q c := fun c => Pth.same fst_all
   have hst := steps_find (fun a b => linkC_le xs a b) h hv hs hl hq hqs
   have hco : costTo xs s q = gI (rnds (linkC xs) (fun a => (adjAt xs a).1) s (iniB (linkC xs) s (fstF (-1))) 12) q := rfl
   rcases hst with ⟨e1, e2, e3⟩ | ⟨m, e1, e2, e3, e4⟩
   · have hc : costTo xs s q = -1 := by
      rcases hr with ⟨r1, _⟩ | ⟨m, _, r2⟩
      · rw [hco, r1]
      · exact absurd ((hall _).1 r2.1) (e3 m)
     unfold costW hopsFor
     rw [e1, e2, hc, bits_zero_list, if_neg (by omega), if_pos (by omega)]
   · have hc : costTo xs s q = m := by
      rcases hr with ⟨_, r1⟩ | ⟨m', r1, r2⟩
      · exact absurd ((hall _).2 e3.1) (r1 m)
      · have : m' = m := Mn.uniq ⟨(hall _).1 r2.1, fun c hc => r2.2 c ((hall c).2 hc)⟩ e3
        rw [hco, r1, this]
     have hbit : ∀ k, (gN st.hops q).testBit k = true ↔ gI (best xs s (k : Int) 12) q = m := by
      intro k
      rw [e4 k]
      have hone : ∀ c, Pth (linkC xs) (fun a => (adjAt xs a).1) s (fun i => fstF (k : Int) i = true) q c ↔ Pth (linkC xs) (fun a => (adjAt xs a).1) s (· = k) q c := fun c => Pth.same (fst_one k)
      have hb : best xs s (k : Int) 12 = rnds (linkC xs) (fun a => (adjAt xs a).1) s (iniB (linkC xs) s (fstF (k : Int))) 12 := rfl
      rw [hb]
      rcases rounds_find (C := linkC xs) (D := fun a => (adjAt xs a).1) (s := s) (F := fstF (k : Int)) q with ⟨r1, r2⟩ | ⟨m', r1, r2⟩
      · rw [r1]
        constructor
        · intro hp; exact absurd ((hone _).2 hp) (r2 m)
        · intro e; omega
      · rw [r1]
        constructor
        · intro hp
          have h1 := r2.2 m ((hone m).2 hp)
          have h2 := e3.2 m' (Pth.mono (fun _ _ => trivial) r2.1)
          omega
        · intro e
          have : m' = m := by omega
          rw [<- this]; exact (hone _).1 r2.1
     have hh : ∀ k, bitsTo (gN st.hops q) k = hopsTo xs s q m k := by
      intro k
      induction k with
      | zero => rfl
      | succ k ih =>
        unfold bitsTo hopsTo
        rw [ih]
        by_cases e : gI (best xs s (k : Int) 12) q = m
        · rw [if_pos e, if_pos ((hbit k).2 e)]
        · rw [if_neg e, if_neg (fun x => e ((hbit k).1 x))]
     unfold costW hopsFor
     rw [e1, hc, hh, if_pos (by omega), if_neg (by omega)]
end
end Go.Proofs.YtojojpjldkpmoaaGreatDoor
