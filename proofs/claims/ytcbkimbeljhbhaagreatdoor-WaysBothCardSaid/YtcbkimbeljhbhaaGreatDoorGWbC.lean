/-
  A cell of an own row of flat elements laid anew; the first byte of a key.
-/
import Derived.Test.YtcbkimbeljhbhaaGreatDoorGTbE
import Derived.Test.YtcbkimbeljhbhaaGreatDoorGWbB
import Derived.Test.YtcbkimbeljhbhaaGreatDoorGDoX
set_option linter.unusedVariables false
set_option linter.unusedSimpArgs false
namespace Go.Proofs.YtcbkimbeljhbhaaGreatDoor
open Go Go.RowKit Go.Deep

theorem OwR.setFlat {α : Type} {k : Nat} {enc : α → List Value} {ok : α → Prop} {h1 : ∀ x, (enc x).length = k} {h2 : ∀ x, ∀ u ∈ enc x, u.oneCell' = true} {E base : Nat} {w : World} {g n cap : Nat} {xs : List α}
    (h : OwR (flatR k enc ok h1 h2) E base w (.slice (some ⟨g, 0, none⟩) n cap) xs) {i j : Nat} (hi : i < xs.length) (hj : j < k) {u : Value} (hu : u.oneCell' = true) {y : α} (hy : enc y = (enc xs[i]).set j u) (hok : ok y) :
    OwR (flatR k enc ok h1 h2) E base (w.setCell ⟨g, i * k + j, none⟩ u) (.slice (some ⟨g, 0, none⟩) n cap) (xs.set i y) := by
  obtain ⟨css, c1, c2, c3⟩ := h.css
  have hi' : i < css.length := by omega
  have s : OwR (cellR k) E base (w.setCell ⟨g, i * k + j, none⟩ u) (.slice (some ⟨g, 0, none⟩) n cap) (css.set i (css[i].set j u)) := OwR.setRaw (k := k) c3 hi' hj hu
  refine OwR.of_css (css := css.set i (css[i].set j u)) (by simp [c1]) (fun m cs x hcs hx => ?_) s
  by_cases e : m = i
  · subst e
    rw [List.getElem?_set_self (by omega)] at hcs hx
    injection hcs with hcs; injection hx with hx
    subst hcs hx
    have := c2 m css[m] xs[m] (List.getElem?_eq_getElem hi') (List.getElem?_eq_getElem hi)
    exact ⟨by rw [this.1, hy], hok⟩
  · rw [List.getElem?_set_ne (fun x => e x.symm)] at hcs hx
    exact c2 m cs x hcs hx
theorem OwR.setCost {base : Nat} {w : World} {g n cap : Nat} {xs : List Side} (h : OwR sideR 57 base w (.slice (some ⟨g, 0, none⟩) n cap) xs) {i : Nat} (hi : i < xs.length) {c : Int} (hc : inR c) :
    OwR sideR 57 base (w.setCell ⟨g, i * 2 + 1, none⟩ (.int .i64 c)) (.slice (some ⟨g, 0, none⟩) n cap) (xs.set i (costC c xs[i])) := by
  have hok : inR xs[i].node ∧ inR xs[i].cost := by
    obtain ⟨css, c1, c2, _⟩ := h.css
    exact (c2 i (css[i]'(by omega)) xs[i] (List.getElem?_eq_getElem (by omega)) (List.getElem?_eq_getElem hi)).2
  exact OwR.setFlat h hi (by decide) rfl (y := costC c xs[i]) rfl ⟨hok.1, hc⟩
theorem OwR.setValue {base : Nat} {w : World} {g n cap : Nat} {xs : List Entry} (h : OwR entR 50 base w (.slice (some ⟨g, 0, none⟩) n cap) xs) {i : Nat} (hi : i < xs.length) {s : ByteArray} (hs : ({ xs[i] with value := s } : Entry).wf) :
    OwR entR 50 base (w.setCell ⟨g, i * 4 + 3, none⟩ (.string s)) (.slice (some ⟨g, 0, none⟩) n cap) (xs.set i { xs[i] with value := s }) :=
  OwR.setFlat h hi (by decide) rfl (y := { xs[i] with value := s }) rfl hs

theorem OwR.at0 {α : Type} {r : Rep α} {E base : Nat} {w : World} {A : Option Addr} {c : Nat} {xs : List α} (h : OwR r E base w (.slice A xs.length c) xs) (hx : 0 < xs.length) :
    ∃ g, A = some ⟨g, 0, none⟩ ∧ base ≤ g ∧ g < w.heap.size ∧ ∀ j, w.frozen? ⟨g, j, none⟩ = false := by
  obtain ⟨css, c1, _, c3, _⟩ := h
  rcases c3.2 with ⟨_, h0⟩ | ⟨g, cap, cur, e, hbg, hgc, _⟩
  · omega
  · injection e with e1 _ _
    subst e1
    exact ⟨g, rfl, hbg, (c3.lt g rfl).2, fun j => c3.frozenAt j⟩

/-- a list of which the first k are done -/
def mixL {α : Type} (f : α → α) (l : List α) (k : Nat) : List α := (l.take k).map f ++ l.drop k
theorem mix_len {α : Type} (f : α → α) (l : List α) (k : Nat) : (mixL f l k).length = l.length := by
  unfold mixL; simp; omega
theorem mix_zero {α : Type} (f : α → α) (l : List α) : mixL f l 0 = l := by unfold mixL; simp
theorem mix_all {α : Type} (f : α → α) (l : List α) : mixL f l l.length = l.map f := by unfold mixL; simp
theorem mix_get {α : Type} (f : α → α) (l : List α) {k : Nat} (h : k < l.length) : (mixL f l k)[k]'(by rw [mix_len]; exact h) = l[k] := by
  have h1 : ((l.take k).map f).length = k := by simp; omega
  unfold mixL
  rw [List.getElem_append_right (by omega)]
  simp only [h1, Nat.sub_self, List.getElem_drop, Nat.add_zero]
theorem mix_set {α : Type} (f : α → α) (l : List α) {k : Nat} (h : k < l.length) : (mixL f l k).set k (f l[k]) = mixL f l (k + 1) := by
  have h1 : ((l.take k).map f).length = k := by simp; omega
  unfold mixL
  rw [List.set_append_right _ _ (by omega), h1, Nat.sub_self, List.drop_eq_getElem_cons h, List.set_cons_zero, List.take_succ_eq_append_getElem h, List.map_append, List.append_assoc]
  rfl
theorem mix_same {α : Type} (f : α → α) (l : List α) {k : Nat} (h : k < l.length) (he : f l[k] = l[k]) : mixL f l (k + 1) = mixL f l k := by
  have := mix_set f l h
  rw [he] at this
  rw [← this]
  have hg := mix_get f l h
  conv => lhs; rw [← hg]
  exact List.set_getElem_self _
theorem first_run {s : ByteArray} (h : 0 < s.size) (w : World) : (Instr.index 9 (.string s) (.int .i64 0)).run Tryz.prog w = .ok (.int .u8 (s.data[0]'(by simpa using h)).toNat) w := by
  simp [Instr.index, run_underlying Tryz.underlying9, asIntOf, part, h, go_sem]
  rfl
end Go.Proofs.YtcbkimbeljhbhaaGreatDoor
