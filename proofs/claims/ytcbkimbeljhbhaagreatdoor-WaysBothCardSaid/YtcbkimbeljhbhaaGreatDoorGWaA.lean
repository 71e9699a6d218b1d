/-
  The least ways: what rounds of relaxing find. Plain lemmas, no program in sight.
-/
import Derived.Test.YtcbkimbeljhbhaaGreatDoorGMem
set_option linter.unusedVariables false
set_option linter.unusedSimpArgs false
namespace Go.Proofs.YtcbkimbeljhbhaaGreatDoor

/-- a way from s: the first step to a node of F, the last to a node, of a cost -/
inductive Pth (C : Nat → Nat → Nat) (D : Nat → Bool) (s : Nat) (F : Nat → Prop) : Nat → Nat → Prop
  | one (k : Nat) : k < 12 → k ≠ s → C s k ≠ 0 → F k → Pth C D s F k (C s k)
  | step (a b c : Nat) : Pth C D s F a c → D a = false → b < 12 → b ≠ s → C a b ≠ 0 → Pth C D s F b (c + C a b)

section
variable {C : Nat → Nat → Nat} {D : Nat → Bool} {s : Nat} {F : Nat → Prop}
theorem Pth.lt {i c : Nat} (h : Pth C D s F i c) : i < 12 ∧ i ≠ s ∧ 0 < c := by
  cases h with
  | one _ h1 h2 h3 _ => exact ⟨h1, h2, by omega⟩
  | step a _ c _ _ h1 h2 h3 => exact ⟨h1, h2, by omega⟩
theorem Pth.mono {G : Nat → Prop} (hg : ∀ k, F k → G k) {i c : Nat} (h : Pth C D s F i c) : Pth C D s G i c := by
  induction h with
  | one k h1 h2 h3 h4 => exact .one k h1 h2 h3 (hg k h4)
  | step a b c _ h1 h2 h3 h4 ih => exact .step a b c ih h1 h2 h3 h4
theorem Pth.first {i c : Nat} (h : Pth C D s F i c) : ∃ k, F k ∧ k < 12 ∧ k ≠ s ∧ C s k ≠ 0 ∧ Pth C D s (· = k) i c := by
  induction h with
  | one k h1 h2 h3 h4 => exact ⟨k, h4, h1, h2, h3, .one k h1 h2 h3 rfl⟩
  | step a b c _ h1 h2 h3 h4 ih =>
    obtain ⟨k, hk, h5, h6, h7, hp⟩ := ih
    exact ⟨k, hk, h5, h6, h7, .step a b c hp h1 h2 h3 h4⟩

/-- the least cost of a way -/
def Mn (C : Nat → Nat → Nat) (D : Nat → Bool) (s : Nat) (F : Nat → Prop) (i m : Nat) : Prop := Pth C D s F i m ∧ ∀ c, Pth C D s F i c → m ≤ c
theorem mn_ex {i : Nat} : ∀ (n c : Nat), c < n → Pth C D s F i c → ∃ m, m ≤ c ∧ Mn C D s F i m
  | 0, c, h, _ => by omega
  | n + 1, c, h, hp => by
    by_cases hc : ∃ d, d < c ∧ Pth C D s F i d
    · obtain ⟨d, hd, hpd⟩ := hc
      obtain ⟨m, hm, hM⟩ := mn_ex n d (by omega) hpd
      exact ⟨m, by omega, hM⟩
    · refine ⟨c, Nat.le_refl _, hp, fun d hd => ?_⟩
      rcases Nat.lt_or_ge d c with h1 | h1
      · exact absurd ⟨d, h1, hd⟩ hc
      · exact h1
theorem Mn.uniq {i m m' : Nat} (h : Mn C D s F i m) (h' : Mn C D s F i m') : m = m' := Nat.le_antisymm (h.2 _ h'.1) (h'.2 _ h.1)

theorem count_lt {α : Type} {p q : α → Bool} : ∀ {l : List α}, (∀ x ∈ l, p x = true → q x = true) → (∃ x ∈ l, q x = true ∧ p x = false) → l.countP p < l.countP q
  | [], _, ⟨x, h, _⟩ => by simp at h
  | y :: l, h, ⟨x, hx, hq, hp⟩ => by
    have hle : l.countP p ≤ l.countP q := List.countP_mono_left fun z hz => h z (by simp [hz])
    rcases List.mem_cons.1 hx with rfl | hx
    · simp only [List.countP_cons, hq, hp]
      simp; omega
    · have := count_lt (l := l) (fun z hz => h z (by simp [hz])) ⟨x, hx, hq, hp⟩
      have hy := h y (by simp)
      simp only [List.countP_cons]
      rcases e : p y with _ | _
      · simp; omega
      · simp [hy e]; omega
/-- how many nodes lie nearer -/
noncomputable def rank (C : Nat → Nat → Nat) (D : Nat → Bool) (s : Nat) (F : Nat → Prop) (m : Nat) : Nat := (List.range 12).countP fun j => @decide (∃ c, c < m ∧ Pth C D s F j c) (Classical.propDecidable _)
theorem rank_le (m : Nat) : rank C D s F m ≤ 12 := by
  have := List.countP_le_length (p := fun j => @decide (∃ c, c < m ∧ Pth C D s F j c) (Classical.propDecidable _)) (l := List.range 12)
  simpa [rank] using this
theorem rank_lt {a m n : Nat} (h : Mn C D s F a m) (hmn : m < n) : rank C D s F m < rank C D s F n := by
  unfold rank
  apply count_lt
  · intro x _ hx
    simp only [decide_eq_true_eq] at hx ⊢
    obtain ⟨c, hc, hp⟩ := hx
    exact ⟨c, by omega, hp⟩
  · refine ⟨a, by simpa using h.1.lt.1, ?_, ?_⟩
    · simp only [decide_eq_true_eq]; exact ⟨m, hmn, h.1⟩
    · simp only [decide_eq_false_iff_not]
      rintro ⟨c, hc, hp⟩
      have := h.2 c hp
      omega
end

def gI (l : List Int) (i : Nat) : Int := l.getD i (-1)
theorem gI_set (l : List Int) (i j : Nat) (v : Int) (h : i < l.length) : gI (l.set i v) j = if i = j then v else gI l j := by
  unfold gI
  rw [List.getD_eq_getElem?_getD, List.getD_eq_getElem?_getD, List.getElem?_set]
  by_cases e : i = j
  · subst e; simp [h]
  · simp [e]
def relax (C : Nat → Nat → Nat) (D : Nat → Bool) (s : Nat) (l : List Int) (a b : Nat) : List Int :=
  if a = s ∨ b = s ∨ gI l a < 0 ∨ D a = true ∨ C a b = 0 then l
  else if gI l b < 0 ∨ gI l a + C a b < gI l b then l.set b (gI l a + C a b) else l
def rowTo (C : Nat → Nat → Nat) (D : Nat → Bool) (s : Nat) (l : List Int) (a : Nat) : Nat → List Int
  | 0 => l
  | n + 1 => relax C D s (rowTo C D s l a n) a n
def rndTo (C : Nat → Nat → Nat) (D : Nat → Bool) (s : Nat) (l : List Int) : Nat → List Int
  | 0 => l
  | n + 1 => rowTo C D s (rndTo C D s l n) n 12
def rnds (C : Nat → Nat → Nat) (D : Nat → Bool) (s : Nat) (l : List Int) : Nat → List Int
  | 0 => l
  | n + 1 => rndTo C D s (rnds C D s l n) 12
def iniB (C : Nat → Nat → Nat) (s : Nat) (F : Nat → Bool) : List Int := (List.range 12).map fun i => if i ≠ s ∧ C s i ≠ 0 ∧ F i = true then (C s i : Int) else -1

section
variable {C : Nat → Nat → Nat} {D : Nat → Bool} {s : Nat} {F : Nat → Bool}
def Snd (C : Nat → Nat → Nat) (D : Nat → Bool) (s : Nat) (F : Nat → Bool) (l : List Int) : Prop :=
  l.length = 12 ∧ ∀ i, -1 ≤ gI l i ∧ (0 ≤ gI l i → Pth C D s (fun k => F k = true) i (gI l i).toNat)
def LeB (l m : List Int) : Prop := ∀ i, 0 ≤ gI l i → 0 ≤ gI m i ∧ gI m i ≤ gI l i
theorem LeB.rfl' (l : List Int) : LeB l l := fun _ h => ⟨h, Int.le_refl _⟩
theorem LeB.trans {l m n : List Int} (h : LeB l m) (h' : LeB m n) : LeB l n := fun i hi => by
  obtain ⟨h1, h2⟩ := h i hi
  obtain ⟨h3, h4⟩ := h' i h1
  exact ⟨h3, by omega⟩
theorem gI_out {l : List Int} {i : Nat} (h : l.length ≤ i) : gI l i = -1 := by
  unfold gI; rw [List.getD_eq_getElem?_getD, List.getElem?_eq_none h]; rfl
theorem relax_snd {l : List Int} (h : Snd C D s F l) (a b : Nat) (hb : b < 12) : Snd C D s F (relax C D s l a b) := by
  unfold relax
  split
  · exact h
  · rename_i hc
    split
    · refine ⟨by simp [h.1], fun i => ?_⟩
      rw [gI_set _ _ _ _ (by rw [h.1]; exact hb)]
      have ha : 0 ≤ gI l a := by
        rcases Int.lt_or_le (gI l a) 0 with e | e
        · exact absurd (.inr (.inr (.inl e))) hc
        · exact e
      split
      · rename_i e; subst e
        refine ⟨by omega, fun _ => ?_⟩
        have e2 : (gI l a + (C a b : Int)).toNat = (gI l a).toNat + C a b := by omega
        rw [e2]
        refine .step a b _ ((h.2 a).2 ha) ?_ hb ?_ ?_
        · rcases e : D a with _ | _
          · rfl
          · exact absurd (.inr (.inr (.inr (.inl e)))) hc
        · exact fun e => hc (.inr (.inl e))
        · exact fun e => hc (.inr (.inr (.inr (.inr e))))
      · exact h.2 i
    · exact h
theorem relax_len {l : List Int} (a b : Nat) : (relax C D s l a b).length = l.length := by
  unfold relax
  split
  · rfl
  · split <;> simp
theorem relax_le {l : List Int} (a b : Nat) (hb : b < l.length) : LeB l (relax C D s l a b) := by
  intro i hi
  unfold relax
  split
  · exact ⟨hi, Int.le_refl _⟩
  · rename_i hc
    split
    · rename_i h2
      rw [gI_set _ _ _ _ hb]
      have ha : 0 ≤ gI l a := by
        rcases Int.lt_or_le (gI l a) 0 with e | e
        · exact absurd (.inr (.inr (.inl e))) hc
        · exact e
      split
      · rename_i e; subst e; omega
      · exact ⟨hi, Int.le_refl _⟩
    · exact ⟨hi, Int.le_refl _⟩
theorem relax_hit {l : List Int} {a b : Nat} (hb : b < l.length) (h1 : a ≠ s) (h2 : b ≠ s) (h3 : 0 ≤ gI l a) (h4 : D a = false) (h5 : C a b ≠ 0) :
    0 ≤ gI (relax C D s l a b) b ∧ gI (relax C D s l a b) b ≤ gI l a + C a b := by
  unfold relax
  rw [if_neg (by rw [h4]; rintro (e | e | e | e | e)
                 · exact h1 e
                 · exact h2 e
                 · omega
                 · cases e
                 · exact h5 e)]
  split
  · rw [gI_set _ _ _ _ hb, if_pos rfl]; omega
  · omega
theorem rowTo_len {l : List Int} (a : Nat) : ∀ n, (rowTo C D s l a n).length = l.length
  | 0 => rfl
  | n + 1 => by unfold rowTo; rw [relax_len, rowTo_len a n]
theorem rowTo_snd {l : List Int} (h : Snd C D s F l) (a : Nat) : ∀ n, n ≤ 12 → Snd C D s F (rowTo C D s l a n)
  | 0, _ => h
  | n + 1, hn => relax_snd (rowTo_snd h a n (by omega)) a n (by omega)
theorem rowTo_le {l : List Int} (a k : Nat) : ∀ n, k + n ≤ l.length → LeB (rowTo C D s l a k) (rowTo C D s l a (k + n))
  | 0, _ => LeB.rfl' _
  | n + 1, hn => (rowTo_le a k n (by omega)).trans (relax_le a (k + n) (by rw [rowTo_len]; omega))
theorem rndTo_len {l : List Int} : ∀ n, (rndTo C D s l n).length = l.length
  | 0 => rfl
  | n + 1 => by unfold rndTo; rw [rowTo_len, rndTo_len n]
theorem rndTo_snd {l : List Int} (h : Snd C D s F l) : ∀ n, Snd C D s F (rndTo C D s l n)
  | 0 => h
  | n + 1 => rowTo_snd (rndTo_snd h n) n 12 (Nat.le_refl _)
theorem rndTo_le {l : List Int} (hl : l.length = 12) (k : Nat) : ∀ n, LeB (rndTo C D s l k) (rndTo C D s l (k + n))
  | 0 => LeB.rfl' _
  | n + 1 => (rndTo_le hl k n).trans (by
      have := rowTo_le (C := C) (D := D) (s := s) (l := rndTo C D s l (k + n)) (k + n) 0 12 (by rw [rndTo_len, hl]; omega)
      exact this)
theorem rnd_hit {l : List Int} (hl : l.length = 12) {a b : Nat} (ha : a < 12) (hb : b < 12) (h1 : a ≠ s) (h2 : b ≠ s) (h3 : 0 ≤ gI l a) (h4 : D a = false) (h5 : C a b ≠ 0) :
    0 ≤ gI (rndTo C D s l 12) b ∧ gI (rndTo C D s l 12) b ≤ gI l a + C a b := by
  have s1 := rndTo_le (C := C) (D := D) (s := s) hl 0 a
  rw [Nat.zero_add] at s1
  obtain ⟨e1, e2⟩ := s1 a h3
  have hl2 : (rndTo C D s l a).length = 12 := by rw [rndTo_len, hl]
  have s2 := rowTo_le (C := C) (D := D) (s := s) (l := rndTo C D s l a) a 0 b (by omega)
  rw [Nat.zero_add] at s2
  obtain ⟨e3, e4⟩ := s2 a e1
  have s3 := relax_hit (C := C) (D := D) (s := s) (l := rowTo C D s (rndTo C D s l a) a b) (by rw [rowTo_len, hl2]; exact hb) h1 h2 e3 h4 h5
  have s4 := rowTo_le (C := C) (D := D) (s := s) (l := rndTo C D s l a) a (b + 1) (12 - (b + 1)) (by omega)
  rw [show b + 1 + (12 - (b + 1)) = 12 by omega] at s4
  obtain ⟨e5, e6⟩ := s4 b s3.1
  have s5 := rndTo_le (C := C) (D := D) (s := s) hl (a + 1) (12 - (a + 1))
  rw [show a + 1 + (12 - (a + 1)) = 12 by omega] at s5
  obtain ⟨e7, e8⟩ := s5 b e5
  refine ⟨e7, ?_⟩
  have e9 : gI (rowTo C D s (rndTo C D s l a) a (b + 1)) b ≤ gI (rowTo C D s (rndTo C D s l a) a b) a + C a b := s3.2
  have e10 : gI (rndTo C D s l 12) b ≤ gI (rowTo C D s (rndTo C D s l a) a 12) b := e8
  have e12 : gI (rndTo C D s l 0) a = gI l a := rfl
  have e11 : gI (rowTo C D s (rndTo C D s l a) a 0) a = gI (rndTo C D s l a) a := rfl
  omega
theorem rnds_len {l : List Int} : ∀ n, (rnds C D s l n).length = l.length
  | 0 => rfl
  | n + 1 => by unfold rnds; rw [rndTo_len, rnds_len n]
theorem rnds_snd {l : List Int} (h : Snd C D s F l) : ∀ n, Snd C D s F (rnds C D s l n)
  | 0 => h
  | n + 1 => rndTo_snd (rnds_snd h n) 12
theorem rnds_le {l : List Int} (hl : l.length = 12) : ∀ n, LeB l (rnds C D s l n)
  | 0 => LeB.rfl' _
  | n + 1 => (rnds_le hl n).trans (by
      have := rndTo_le (C := C) (D := D) (s := s) (l := rnds C D s l n) (by rw [rnds_len, hl]) 0 12
      exact this)
theorem iniB_len : (iniB C s F).length = 12 := by simp [iniB]
theorem iniB_at {i : Nat} (h : i < 12) : gI (iniB C s F) i = if i ≠ s ∧ C s i ≠ 0 ∧ F i = true then (C s i : Int) else -1 := by
  unfold gI iniB
  rw [List.getD_eq_getElem?_getD, List.getElem?_map, List.getElem?_range h]; rfl
theorem iniB_snd : Snd C D s F (iniB C s F) := by
  refine ⟨iniB_len, fun i => ?_⟩
  by_cases h : i < 12
  · rw [iniB_at h]
    split
    · rename_i hc
      refine ⟨by omega, fun _ => ?_⟩
      rw [Int.toNat_natCast]
      exact .one i h hc.1 hc.2.1 hc.2.2
    · exact ⟨by omega, fun e => absurd e (by omega)⟩
  · rw [gI_out (by rw [iniB_len]; omega)]
    exact ⟨by omega, fun e => absurd e (by omega)⟩
theorem rnds_hit : ∀ (r i m : Nat), Mn C D s (fun k => F k = true) i m → rank C D s (fun k => F k = true) m ≤ r →
    0 ≤ gI (rnds C D s (iniB C s F) r) i ∧ gI (rnds C D s (iniB C s F) r) i ≤ m := by
  intro r
  induction r with
  | zero =>
    intro i m hm hr
    cases hm.1 with
    | one _ h1 h2 h3 h4 =>
      show 0 ≤ gI (iniB C s F) i ∧ gI (iniB C s F) i ≤ ((C s i : Nat) : Int)
      rw [iniB_at h1, if_pos ⟨h2, h3, h4⟩]; omega
    | step a _ c hp h1 h2 h3 h4 =>
      obtain ⟨ma, hma, hM⟩ := mn_ex (c + 1) c (by omega) hp
      have := rank_lt hM (n := c + C a i) (by omega)
      omega
  | succ r ih =>
    intro i m hm hr
    cases hm.1 with
    | one _ h1 h2 h3 h4 =>
      have e : 0 ≤ gI (iniB C s F) i ∧ gI (iniB C s F) i ≤ ((C s i : Nat) : Int) := by
        rw [iniB_at h1, if_pos ⟨h2, h3, h4⟩]; omega
      have := rnds_le (C := C) (D := D) (s := s) (l := iniB C s F) iniB_len (r + 1) i e.1
      omega
    | step a _ c hp h1 h2 h3 h4 =>
      obtain ⟨ma, hma, hM⟩ := mn_ex (c + 1) c (by omega) hp
      have hlt := rank_lt hM (n := c + C a i) (by omega)
      obtain ⟨e1, e2⟩ := ih a ma hM (by omega)
      have := rnd_hit (C := C) (D := D) (s := s) (l := rnds C D s (iniB C s F) r) (by rw [rnds_len, iniB_len]) hp.lt.1 h2 hp.lt.2.1 h3 e1 h1 h4
      refine ⟨this.1, Int.le_trans this.2 ?_⟩
      omega
/-- WHAT THE ROUNDS FIND -/
theorem rounds_find (i : Nat) : (gI (rnds C D s (iniB C s F) 12) i = -1 ∧ ∀ c, ¬ Pth C D s (fun k => F k = true) i c) ∨
    ∃ m : Nat, gI (rnds C D s (iniB C s F) 12) i = m ∧ Mn C D s (fun k => F k = true) i m := by
  have hs := rnds_snd (C := C) (D := D) (s := s) (F := F) iniB_snd 12
  by_cases h : ∃ c, Pth C D s (fun k => F k = true) i c
  · obtain ⟨c, hc⟩ := h
    obtain ⟨m, _, hM⟩ := mn_ex (c + 1) c (by omega) hc
    obtain ⟨e1, e2⟩ := rnds_hit 12 i m hM (rank_le m)
    have e3 := hM.2 _ ((hs.2 i).2 e1)
    exact .inr ⟨m, by omega, hM⟩
  · left
    have h' : ∀ c, ¬ Pth C D s (fun k => F k = true) i c := fun c hc => h ⟨c, hc⟩
    refine ⟨?_, h'⟩
    have h1 := hs.2 i
    rcases Int.lt_or_le (gI (rnds C D s (iniB C s F) 12) i) 0 with e | e
    · omega
    · exact absurd (h1.2 e) (h' _)
end
end Go.Proofs.YtcbkimbeljhbhaaGreatDoor
