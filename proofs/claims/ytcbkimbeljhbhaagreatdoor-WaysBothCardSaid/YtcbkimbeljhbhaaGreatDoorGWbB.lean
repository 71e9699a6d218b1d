/-
  A store whose sides all cost the same: it is a good store, and its ways lead back. Plain lemmas, no program in sight.
-/
import Derived.Test.YtcbkimbeljhbhaaGreatDoorGKmC
import Derived.Test.YtcbkimbeljhbhaaGreatDoorGTxD
import Derived.Test.YtcbkimbeljhbhaaGreatDoorGWbA
import Derived.Test.YtcbkimbeljhbhaaGreatDoorGSrt2
import Derived.Test.YtcbkimbeljhbhaaGreatDoorGTaE
set_option linter.unusedVariables false
set_option linter.unusedSimpArgs false
namespace Go.Proofs.YtcbkimbeljhbhaaGreatDoor
open Go

def costC (c : Int) (s : Side) : Side := ⟨s.node, c⟩
def fixE (c : Int) (e : Entry) : Entry :=
  if e.key.data[0]? = some 97 ∧ (readAdj e.value.data.toList).2.2 = 0 then { e with value := bOf (adjT (readAdj e.value.data.toList).1 ((readAdj e.value.data.toList).2.1.map (costC c))) } else e
theorem sides_pair {l : List Side} (h : chkSides l = 0) : l.Pairwise fun a b => sideOrd a b = true := by
  rw [List.pairwise_iff_getElem]
  intro i j hi hj hij
  have key : ∀ d, (hd : i + d + 1 < l.length) → l[i].node < l[i + d + 1].node := by
    intro d
    induction d with
    | zero =>
      intro hd
      have := (sc_zero l (l.length - 0) 0 h (by omega) (i + 0 + 1) (Nat.zero_le _) hd).2 i (by omega)
      unfold sideOrd at this
      simpa using this
    | succ d ih =>
      intro hd
      have h1 := ih (by omega)
      have h2 := (sc_zero l (l.length - 0) 0 h (by omega) (i + (d + 1) + 1) (Nat.zero_le _) hd).2 (i + d + 1) (by omega)
      unfold sideOrd at h2
      simp at h2
      omega
  have := key (j - i - 1) (by omega)
  have e : i + (j - i - 1) + 1 = j := by omega
  unfold sideOrd
  simp only [e] at this
  exact decide_eq_true this
theorem chk_cost {l : List Side} (h : chkSides l = 0) {c : Int} (h1 : 1 ≤ c) (h2 : c ≤ 1000) : chkSides (l.map (costC c)) = 0 := by
  unfold chkSides
  refine seq_zero _ (fun s hs => ?_) ?_ _ _
  · obtain ⟨x, hx, rfl⟩ := List.mem_map.1 hs
    obtain ⟨i, hi, rfl⟩ := List.getElem_of_mem hx
    obtain ⟨a1, a2, _, _⟩ := sides_all h i hi
    unfold sideBad costC
    rw [if_pos ⟨a1, a2, h1, h2⟩]
  · rw [List.pairwise_map]
    exact sides_pair h
theorem readAdj_err {s : List UInt8} (h : (readAdj s).2.2 ≠ 0) : (readAdj s).2.1 = [] := by
  unfold readAdj at h ⊢
  split
  · rfl
  · rename_i l hl
    rw [hl] at h
    split
    · rename_i hc; simp only [hc, if_true] at h; exact absurd rfl h
    · rfl
theorem fix_key (c : Int) (e : Entry) : (fixE c e).key = e.key := by unfold fixE; split <;> rfl
theorem find_fix (m : List Entry) (c : Int) (k : ByteArray) : findE (m.map (fixE c)) k = (findE m k).map (fixE c) := by
  unfold findE
  induction m with
  | nil => rfl
  | cons e m ih =>
    rw [List.map_cons, List.find?_cons, List.find?_cons, fix_key]
    cases decide (e.key = k) with
    | true => rfl
    | false => exact ih
theorem keyA_first (n : Nat) : (keyA n).data[0]? = some 97 := by unfold keyA bOf; rfl
theorem fix_cost {m : List Entry} {c : Int} (h1 : 1 ≤ c) (h2 : c ≤ 1000) (n : Nat) : ∀ x ∈ (adjAt (m.map (fixE c)) n).2, x.cost = c := by
  unfold adjAt
  rw [find_fix]
  cases hf : findE m (keyA n) with
  | none => intro x hx; cases hx
  | some e =>
    have hk := (findE_key hf).1
    have h0 : e.key.data[0]? = some 97 := by rw [hk]; exact keyA_first n
    simp only [Option.map_some]
    unfold fixE
    by_cases hr : (readAdj e.value.data.toList).2.2 = 0
    · rw [if_pos ⟨h0, hr⟩]
      simp only
      rw [bOf_list, adj_read (chk_cost (adj_back hr).1 h1 h2)]
      intro x hx
      obtain ⟨y, _, rfl⟩ := List.mem_map.1 hx
      rfl
    · rw [if_neg (fun h => hr h.2), readAdj_err hr]
      intro x hx; cases hx
theorem sideC_same {l : List Side} {c : Int} (h : ∀ x ∈ l, x.cost = c) (t : Int) : sideC l t = c ∨ sideC l t = 0 := by
  unfold sideC
  split
  · rename_i x hx
    exact .inl (h x (List.mem_of_find?_eq_some hx))
  · exact .inr rfl
theorem fix_sym {m : List Entry} {c : Int} (h1 : 1 ≤ c) (h2 : c ≤ 1000) (a b : Nat) : linkC (m.map (fixE c)) a b = linkC (m.map (fixE c)) b a := by
  unfold linkC
  by_cases e : a = b
  · rw [if_pos (.inl e), if_pos (.inl e.symm)]
  · have e' : ¬ b = a := fun x => e x.symm
    rcases sideC_same (fix_cost (m := m) h1 h2 a) b with ha | ha <;> rcases sideC_same (fix_cost (m := m) h1 h2 b) a with hb | hb <;> rw [ha, hb] <;> simp [e, e'] <;> omega
theorem fix_ok {m : List Entry} (h : OkS m) {c : Int} (h1 : 1 ≤ c) (h2 : c ≤ 1000) : OkS (m.map (fixE c)) := by
  refine ⟨by rw [List.length_map]; exact h.len, fun e he => ?_, ?_⟩
  · obtain ⟨x, hx, rfl⟩ := List.mem_map.1 he
    have hok := h.ok x hx
    unfold fixE
    split
    · rename_i hc
      have hs := adjT_short (readAdj x.value.data.toList).1 (chk_cost (adj_back hc.2).1 h1 h2)
      unfold entryOk at hok ⊢
      simp only [Bool.and_eq_true, decide_eq_true_eq] at hok ⊢
      exact ⟨hok.1, by rw [bOf_size]; omega⟩
    · exact hok
  · rw [List.pairwise_map]
    refine h.ord.imp (fun {a b} hab => ?_)
    unfold ltE at hab ⊢
    rw [fix_key, fix_key]; exact hab
end Go.Proofs.YtcbkimbeljhbhaaGreatDoor
