/-
  
-/
import Derived.Test.YtojojpjldkpmoaaGreatDoorGSpec
set_option linter.unusedVariables false
set_option linter.unusedSimpArgs false
set_option maxHeartbeats 16000000
namespace Go.Proofs.YtojojpjldkpmoaaGreatDoor
open Go.RowKit
def ltE (a b : Entry) : Prop := ltB a.key b.key = true
structure OkS (l : List Entry) : Prop where
 len : l.length <= 60
 ok : ∀ e ∈ l, entryOk e = true
 ord : l.Pairwise ltE
theorem if7 : ∀ (b : Bool) (z : Int), (if b = true then 7 else z) = 0 -> b = false /\ z = 0
 | true, _, h => by simp at h
 | false, z, h => ⟨rfl, by simpa using h⟩
theorem chk_zero (l : List Entry) : ∀ n k, l.length <= n + k -> chk l n k = 0 -> ∀ j, k <= j -> (h : j < l.length) -> entryOk l[j] = true /\ ∀ m, (hm : m + 1 = j) -> ltB l[m].key l[j].key = true := by
 intro n
 induction n with
 | zero => intro k hk _ j hj h; omega
 | succ n ih =>
   intro k hk h0 j hj h
   have hkl : k < l.length := by omega
   unfold chk at h0
   rw [zac hkl] at h0
   simp only at h0
   by_cases hok : entryOk l[k] = false
   · rw [if_pos hok] at h0; cases h0
   · rw [if_neg hok] at h0
     have hok' : entryOk l[k] = true := by simpa using hok
     obtain ⟨ho, h1⟩ := if7 _ _ h0
     by_cases e : k = j
     · subst e
       refine ⟨hok', fun m hm => ?_⟩
       subst hm
       have h1 : l[m]? = some l[m] := zac (by omega)
       simpa [h1] using ho
     · exact ih (k + 1) (by omega) h1 j (by omega) h
theorem chk_all (l : List Entry) (hok : ∀ j, (h : j < l.length) -> entryOk l[j] = true) (ho : ∀ m, (h : m + 1 < l.length) -> ltB l[m].key l[m + 1].key = true) : ∀ n k, chk l n k = 0 := by
 intro n
 induction n with
 | zero => intro k; rfl
 | succ n ih =>
   intro k
   unfold chk
   by_cases hk : k < l.length
   · rw [zac hk]
     simp only [hok k hk]
     rw [if_neg (by simp)]
     rw [if_neg ?_]
     · exact ih _
     · cases k with
       | zero => simp
       | succ m =>
         have h1 : l[m]? = some l[m] := zac (by omega)
         simp [h1, ho m hk]
   · rw [zbG (by omega)]
theorem okS_of {l : List Entry} (h : checkS l = 0) : OkS l := by
 unfold checkS at h
 split at h
 · cases h
 · rename_i h60
   have hz := chk_zero l l.length 0 (by omega) h
   refine ⟨by omega, fun e he => ?_, ?_⟩
   · obtain ⟨j, hj, rfl⟩ := zaj he
     exact (hz j (by omega) hj).1
   · rw [zaF]
     intro i j hi hj hij
     have key : ∀ d i, (h : i + d + 1 < l.length) -> ltB l[i].key l[i + d + 1].key = true := by
      intro d
      induction d with
      | zero => intro i h; exact (hz (i + 1) (by omega) h).2 i rfl
      | succ d ih => intro i h; exact ltB_trans (ih i (by omega)) ((hz (i + (d + 1) + 1) (by omega) h).2 (i + d + 1) (by omega))
     have := key (j - i - 1) i (by omega)
     have e : i + (j - i - 1) + 1 = j := by omega
     unfold ltE
     simpa only [e] using this
theorem OkS.check {l : List Entry} (h : OkS l) : checkS l = 0 := by
 unfold checkS
 rw [if_neg (by have := h.len; omega)]
 refine chk_all l (fun j hj => h.ok _ (zas hj)) (fun m hm => ?_) _ _
 have := zaF.1 h.ord m (m + 1) (by omega) hm (by omega)
 exact this
theorem OkS.nil : OkS [] := ⟨by simp, by simp, List.Pairwise.nil⟩
def lbE (l : List Entry) (k : ByteArray) : Nat := (l.takeWhile fun e => ltB e.key k).length
def hasE (l : List Entry) (k : ByteArray) : Bool := l.any fun e => decide (e.key = k)
def findE (l : List Entry) (k : ByteArray) : Option Entry := l.find? fun e => decide (e.key = k)
theorem lbE_le (l : List Entry) (k : ByteArray) : lbE l k <= l.length := by
 unfold lbE
 induction l with
 | nil => simp
 | cons a r ih => rw [zbe]; split <;> simp <;> omega
theorem lbE_lt : ∀ (l : List Entry) (k : ByteArray) (j : Nat) (h : j < l.length), j < lbE l k -> ltB l[j].key k = true
 | [], _, _, h, _ => by simp at h
 | a :: r, k, j, h, hj => by
   unfold lbE at hj
   rw [zbe] at hj
   split at hj
   · rename_i ha
     cases j with
     | zero => exact ha
     | succ j => exact lbE_lt r k j (by simpa using h) (by simp at hj; exact hj)
   · simp at hj
theorem lbE_at : ∀ (l : List Entry) (k : ByteArray) (h : lbE l k < l.length), ltB l[lbE l k].key k = false
 | [], _, h => by simp at h
 | a :: r, k, h => by
   unfold lbE at h ⊢
   rcases ha : ltB a.key k with _ | _
   · simp only [zbe, ha]
     simpa using ha
   · simp only [zbe, ha] at h ⊢
     simp only [if_pos, zaw, zbK]
     exact lbE_at r k (by unfold lbE; simpa using h)
theorem lbE_eq : ∀ (l : List Entry) (k : ByteArray) (i : Nat), i <= l.length -> (∀ j, (h : j < l.length) -> j < i -> ltB l[j].key k = true) -> ((h : i < l.length) -> ltB l[i].key k = false) -> lbE l k = i := by
 intro l k i hi h1 h2
 rcases Nat.lt_trichotomy (lbE l k) i with h | h | h
 · have := h1 (lbE l k) (by omega) h
   rw [lbE_at l k (by omega)] at this; cases this
 · exact h
 · have hl := lbE_le l k
   have := lbE_lt l k i (by omega) h
   rw [h2 (by omega)] at this; cases this
theorem Pairwise_lt {l : List Entry} (h : l.Pairwise ltE) {i j : Nat} (hij : i < j) (hj : j < l.length) : ltB l[i].key l[j].key = true :=
 zaF.1 h i j (by omega) hj hij
theorem lt_iff {l : List Entry} (h : l.Pairwise ltE) {k : ByteArray} {i j : Nat} (hij : i <= j) (hj : j < l.length) (hl : ltB l[j].key k = true) : ltB l[i].key k = true := by
 rcases Nat.lt_or_eq_of_le hij with e | e
 · exact ltB_trans (Pairwise_lt h e hj) hl
 · subst e; exact hl
theorem hasE_at {l : List Entry} (h : l.Pairwise ltE) (k : ByteArray) {j : Nat} (hj : j < l.length) (he : l[j].key = k) : lbE l k = j := by
 refine lbE_eq l k j (by omega) (fun i hi hij => ?_) (fun _ => ?_)
 · rw [<- he]; exact Pairwise_lt h hij hj
 · rw [he]; exact ltB_irrefl k
theorem hasE_iff {l : List Entry} (h : l.Pairwise ltE) (k : ByteArray) : hasE l k = true ↔ ∃ hl : lbE l k < l.length, l[lbE l k].key = k := by
 unfold hasE
 rw [zbo]
 constructor
 · rintro ⟨e, he, hk⟩
   obtain ⟨j, hj, rfl⟩ := zaj he
   have hk' := of_decide_eq_true hk
   have e1 := hasE_at h k hj hk'
   exact ⟨by omega, by simpa only [e1] using hk'⟩
 · rintro ⟨hl, hk⟩
   exact ⟨_, zas hl, decide_eq_true hk⟩
theorem findE_some {l : List Entry} (h : l.Pairwise ltE) (k : ByteArray) (hl : lbE l k < l.length) (hk : l[lbE l k].key = k) : findE l k = some l[lbE l k] := by
 unfold findE
 rw [List.find?_eq_some_iff_getElem]
 refine ⟨decide_eq_true hk, lbE l k, hl, rfl, fun j hj => ?_⟩
 have := lbE_lt l k j (by omega) hj
 simp only [Bool.not_eq_true', decide_eq_false_iff_not]
 intro e
 rw [e, ltB_irrefl] at this; cases this
theorem findE_none {l : List Entry} {k : ByteArray} (h : hasE l k = false) : findE l k = none := by
 unfold findE
 unfold hasE at h
 rw [zbR]
 intro e he hk
 have := List.any_eq_false.1 h e he
 exact this hk
def withE (l : List Entry) (x : Entry) : List Entry := l.take (lbE l x.key) ++ x :: l.drop (lbE l x.key + if hasE l x.key then 1 else 0)
theorem withE_len {l : List Entry} (h : l.Pairwise ltE) (x : Entry) : (withE l x).length = l.length + if hasE l x.key then 0 else 1 := by
 unfold withE
 have hle := lbE_le l x.key
 rcases e : hasE l x.key with _ | _
 · simp; omega
 · obtain ⟨hl, _⟩ := (hasE_iff h _).1 e
   simp; omega
theorem withE_ord {l : List Entry} (h : l.Pairwise ltE) (x : Entry) : (withE l x).Pairwise ltE := by
 unfold withE
 have hle := lbE_le l x.key
 rw [List.pairwise_append]
 refine ⟨h.sublist (List.take_sublist _ _), ?_, ?_⟩
 · rw [zaA]
   refine ⟨fun e he => ?_, h.sublist (List.drop_sublist _ _)⟩
   by_cases e' : hasE l x.key = true
   · obtain ⟨hl, hk⟩ := (hasE_iff h _).1 e'
     rw [if_pos e'] at he
     obtain ⟨j, hj, rfl⟩ := zaj he
     rw [zaQ] at hj
     have := Pairwise_lt h (i := lbE l x.key) (j := lbE l x.key + 1 + j) (by omega) (by omega)
     rw [hk] at this
     unfold ltE
     rw [zbI]
     exact this
   · rw [if_neg e', zbE] at he
     obtain ⟨j, hj, rfl⟩ := zaj he
     rw [zaQ] at hj
     have hlt : lbE l x.key < l.length := by omega
     have h0 := lbE_at l x.key hlt
     have hne : ¬ l[lbE l x.key].key = x.key := fun hk => e' ((hasE_iff h x.key).2 ⟨hlt, hk⟩)
     have h1 : ltB x.key l[lbE l x.key].key = true := by
      rcases e2 : ltB x.key l[lbE l x.key].key with _ | _
      · exact absurd (ltB_total h0 e2) hne
      · rfl
     unfold ltE
     rw [zbI]
     rcases zaJ j with hz | hz
     · subst hz; simpa using h1
     · exact ltB_trans h1 (Pairwise_lt h (by omega) (by omega))
 · intro a ha b hb
   obtain ⟨i, hi, rfl⟩ := zaj ha
   rw [zaq] at hi
   rw [zbs]
   have h1 := lbE_lt l x.key i (by omega) (by omega)
   rw [zaB] at hb
   rcases hb with rfl | hb
   · exact h1
   · obtain ⟨j, hj, rfl⟩ := zaj hb
     rw [zaQ] at hj
     rw [zbI]
     exact Pairwise_lt h (by omega) (by omega)
theorem withE_ok {l : List Entry} (h : OkS l) {x : Entry} (hx : entryOk x = true) (hroom : hasE l x.key = true ∨ l.length < 60) : OkS (withE l x) := by
 refine ⟨?_, fun e he => ?_, withE_ord h.ord x⟩
 · rw [withE_len h.ord]
   have := h.len
   rcases hroom with e | e
   · simp [e]; omega
   · split <;> omega
 · unfold withE at he
   rw [zaI, zaB] at he
   rcases he with he | rfl | he
   · exact h.ok _ (zbh he)
   · exact hx
   · exact h.ok _ (zbi he)
end Go.Proofs.YtojojpjldkpmoaaGreatDoor
