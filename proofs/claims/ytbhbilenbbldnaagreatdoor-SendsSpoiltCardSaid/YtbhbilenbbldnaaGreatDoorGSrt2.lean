/-
  
-/
import Derived.Test.YtbhbilenbbldnaaGreatDoorGSrt
set_option linter.unusedVariables false
set_option linter.unusedSimpArgs false
namespace Go.Proofs.YtbhbilenbbldnaaGreatDoor
open Go.RowKit
def putS (xs : List Entry) (node : Int) (key value : ByteArray) : List Entry × Int :=
 if checkS xs ≠ 0 then ([], checkS xs) else
 if node < 0 ∨ 11 < node then ([], 2) else
 if keyOk key = false then ([], 4) else
 if 120 < value.size then ([], 1) else
 match findE xs key with
 | none => if 60 ≤ xs.length then ([], 1) else (withE xs ⟨key, 1, node, value⟩, 0)
 | some e => if e.version = 1099511627776 then ([], 2) else (withE xs ⟨key, e.version + 1, node, value⟩, 0)
theorem put_bad {xs : List Entry} {node : Int} {key value : ByteArray} (h : checkS xs ≠ 0) : putS xs node key value = ([], checkS xs) := by unfold putS; rw [if_pos h]
theorem put_node {xs : List Entry} {node : Int} {key value : ByteArray} (h : checkS xs = 0) (h2 : node < 0 ∨ 11 < node) : putS xs node key value = ([], 2) := by
 unfold putS; rw [if_neg (by simp [h]), if_pos h2]
theorem put_key {xs : List Entry} {node : Int} {key value : ByteArray} (h : checkS xs = 0) (h2 : 0 ≤ node ∧ node ≤ 11) (h3 : keyOk key = false) : putS xs node key value = ([], 4) := by
 unfold putS; rw [if_neg (by simp [h]), if_neg (by omega), if_pos h3]
theorem put_size {xs : List Entry} {node : Int} {key value : ByteArray} (h : checkS xs = 0) (h2 : 0 ≤ node ∧ node ≤ 11) (h3 : keyOk key = true) (h4 : 120 < value.size) : putS xs node key value = ([], 1) := by
 unfold putS; rw [if_neg (by simp [h]), if_neg (by omega), if_neg (by simp [h3]), if_pos h4]
theorem put_full {xs : List Entry} {node : Int} {key value : ByteArray} (h : checkS xs = 0) (h2 : 0 ≤ node ∧ node ≤ 11) (h3 : keyOk key = true) (h4 : value.size ≤ 120) (h5 : hasE xs key = false) (h6 : 60 ≤ xs.length) : putS xs node key value = ([], 1) := by
 unfold putS; rw [if_neg (by simp [h]), if_neg (by omega), if_neg (by simp [h3]), if_neg (by omega), findE_none h5]; simp only; rw [if_pos h6]
theorem put_new {xs : List Entry} {node : Int} {key value : ByteArray} (h : checkS xs = 0) (h2 : 0 ≤ node ∧ node ≤ 11) (h3 : keyOk key = true) (h4 : value.size ≤ 120) (h5 : hasE xs key = false) (h6 : xs.length < 60) : putS xs node key value = (withE xs ⟨key, 1, node, value⟩, 0) := by
 unfold putS; rw [if_neg (by simp [h]), if_neg (by omega), if_neg (by simp [h3]), if_neg (by omega), findE_none h5]; simp only; rw [if_neg (by omega)]
theorem put_most {xs : List Entry} {node : Int} {key value : ByteArray} (h : checkS xs = 0) (h2 : 0 ≤ node ∧ node ≤ 11) (h3 : keyOk key = true) (h4 : value.size ≤ 120) {e : Entry} (h5 : findE xs key = some e) (h6 : e.version = 1099511627776) : putS xs node key value = ([], 2) := by
 unfold putS; rw [if_neg (by simp [h]), if_neg (by omega), if_neg (by simp [h3]), if_neg (by omega), h5]; simp only; rw [if_pos h6]
theorem put_old {xs : List Entry} {node : Int} {key value : ByteArray} (h : checkS xs = 0) (h2 : 0 ≤ node ∧ node ≤ 11) (h3 : keyOk key = true) (h4 : value.size ≤ 120) {e : Entry} (h5 : findE xs key = some e) (h6 : e.version ≠ 1099511627776) : putS xs node key value = (withE xs ⟨key, e.version + 1, node, value⟩, 0) := by
 unfold putS; rw [if_neg (by simp [h]), if_neg (by omega), if_neg (by simp [h3]), if_neg (by omega), h5]; simp only; rw [if_neg h6]
theorem withE_new {l : List Entry} {x : Entry} (h : hasE l x.key = false) : withE l x = l.take (lbE l x.key) ++ x :: l.drop (lbE l x.key) := by unfold withE; rw [h]; simp
theorem withE_old {l : List Entry} {x : Entry} (hl : lbE l x.key < l.length) (h : hasE l x.key = true) : withE l x = l.set (lbE l x.key) x := by
 unfold withE
 rw [h, if_pos rfl, List.set_eq_take_append_cons_drop, if_pos hl]
def mergeStep (above : Entry → Entry → Bool) (p : List Entry × List ByteArray) (e : Entry) : List Entry × List ByteArray :=
 match findE p.1 e.key with
 | some o => if above e o = true then (withE p.1 e, p.2 ++ [e.key]) else p
 | none => if p.1.length < 60 then (withE p.1 e, p.2 ++ [e.key]) else p
def mergeS (above : Entry → Entry → Bool) (a b : List Entry) : List Entry × List ByteArray × Int :=
 if checkS a ≠ 0 then ([], [], checkS a) else if checkS b ≠ 0 then ([], [], checkS b) else
 ((b.foldl (mergeStep above) (a, [])).1, (b.foldl (mergeStep above) (a, [])).2, 0)
theorem findE_key {l : List Entry} {k : ByteArray} {e : Entry} (h : findE l k = some e) : e.key = k ∧ e ∈ l := by
 unfold findE at h
 have h1 := List.find?_some h
 exact ⟨by simpa using h1, List.mem_of_find?_eq_some h⟩
theorem hasE_find {l : List Entry} {k : ByteArray} {e : Entry} (h : findE l k = some e) : hasE l k = true := by
 obtain ⟨h1, h2⟩ := findE_key h
 unfold hasE
 rw [List.any_eq_true]
 exact ⟨e, h2, decide_eq_true h1⟩
theorem mergeStep_ok {above : Entry → Entry → Bool} {p : List Entry × List ByteArray} {e : Entry} (h : OkS p.1) (he : entryOk e = true) : OkS (mergeStep above p e).1 := by
 unfold mergeStep
 split
 · rename_i o ho
   split
   · exact withE_ok h he (.inl (hasE_find ho))
   · exact h
 · split
   · exact withE_ok h he (.inr (by assumption))
   · exact h
theorem foldl_ok {above : Entry → Entry → Bool} : ∀ (b : List Entry) (p : List Entry × List ByteArray), OkS p.1 → (∀ e ∈ b, entryOk e = true) → OkS (b.foldl (mergeStep above) p).1
 | [], _, h, _ => h
 | e :: b, p, h, hb => foldl_ok b _ (mergeStep_ok h (hb e (by simp))) (fun x hx => hb x (by simp [hx]))
end Go.Proofs.YtbhbilenbbldnaaGreatDoor
