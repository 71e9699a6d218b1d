/-
  slices.Grow of nothing, slices.Concat of two, joined: walked.
  slices.Concat of two rows of numbers; joined.
  A route's place in a table; slices.BinarySearchFunc over routes, walked.
-/
import Derived.Test.YtcbkimbeljhbhaaGreatDoorGInsR
import Derived.Test.YtcbkimbeljhbhaaGreatDoorGTaD
import Derived.Test.YtcbkimbeljhbhaaGreatDoorGShf
import Derived.Sort.Row
import Derived.Sort.Grow
import Derived.Lib.AppendZeros
import Derived.Test.YtcbkimbeljhbhaaGreatDoorGApp
import Derived.Test.YtcbkimbeljhbhaaGreatDoorGTaE
import Derived.Lib.QuietBelow
set_option linter.unusedVariables false
set_option linter.unusedSimpArgs false
namespace Go.Proofs.YtcbkimbeljhbhaaGreatDoor
open Go.RowKit Go.Deep Go.Sort

theorem heap_putRow {w : World} {g : Nat} {cur : Array Value} {E : TypeId} {fz : Nat × Nat} (h : w.heap[g]? = some (.cells cur E fz)) (q : Nat) (ys : Array Int) (os : Array Obj) :
    (grow (putRow (Value.int .i64) (Sort.ahead w q) g 0 ys) os).heap[g]? = some (.cells (putCells (Value.int .i64) 0 ys cur) E fz) := by
  have hl : g < w.heap.size := by
    rcases Nat.lt_or_ge g w.heap.size with h1 | h1
    · exact h1
    · rw [Array.getElem?_eq_none h1] at h; cases h
  have h1 : (putRow (Value.int .i64) (Sort.ahead w q) g 0 ys).heap[g]? = some (.cells (putCells (Value.int .i64) 0 ys cur) E fz) := by
    unfold putRow mapBlock
    show (Array.modify (Sort.ahead w q).heap g _)[g]? = _
    rw [Array.getElem?_modify, if_pos rfl]
    show Option.map _ w.heap[g]? = _
    rw [h]; rfl
  show ((putRow (Value.int .i64) (Sort.ahead w q) g 0 ys).heap ++ os)[g]? = _
  rw [Array.getElem?_append_left (by rw [size_putRow]; exact hl)]
  exact h1
theorem heap_putRow_other {w : World} {g k : Nat} (hk : k < w.heap.size) (hne : k ≠ g) (q : Nat) (ys : Array Int) (os : Array Obj) :
    (grow (putRow (Value.int .i64) (Sort.ahead w q) g 0 ys) os).heap[k]? = w.heap[k]? := by
  show ((putRow (Value.int .i64) (Sort.ahead w q) g 0 ys).heap ++ os)[k]? = _
  rw [Array.getElem?_append_left (by rw [size_putRow]; exact hk)]
  unfold putRow mapBlock
  show (Array.modify (Sort.ahead w q).heap g _)[k]? = _
  rw [Array.getElem?_modify, if_neg (fun e => hne e.symm)]
  rfl
theorem grown_putRow (w : World) (g q : Nat) (ys : Array Int) (os : Array Obj) : w.grownBy (grow (putRow (Value.int .i64) (Sort.ahead w q) g 0 ys) os) (some g) :=
  ⟨rfl, rfl, rfl, by show _ ≤ ((putRow (Value.int .i64) (Sort.ahead w q) g 0 ys).heap ++ os).size; rw [Array.size_append, size_putRow]; show w.heap.size ≤ w.heap.size + _; omega, fun k hk hne => heap_putRow_other hk (fun e => hne (by rw [e])) q ys os⟩
theorem putCells_take {cur : Array Value} {ys : List Int} {m : Nat} (hm : m ≤ ys.length) (hc : ys.length ≤ cur.size) : (putCells (Value.int .i64) 0 ys.toArray cur).toList.take m = (ys.take m).map (Value.int .i64) := by
  refine List.ext_getElem ?_ fun i h1 h2 => ?_
  · simp [putCells]; omega
  · have hi : i < m := by simp at h2; omega
    have hiy : i < ys.length := by omega
    rw [List.getElem_take, Array.getElem_toList, List.getElem_map, List.getElem_take]
    unfold putCells
    rw [Array.getElem_mapIdx, if_pos (by simp; omega)]
    rw [getElem!_pos _ (i - 0) (by simpa using hiy)]
    simp
theorem own_ints {E base : Nat} {w : World} {v : Value} {xs : List Int} (h : OwR intR E base w v xs) : w.ownsRow base E 1 v xs.length (xs.map (Value.int .i64)) ∧ (∀ x ∈ xs, inR x) ∧ base ≤ w.heap.size := by
  obtain ⟨h1, h2, h3⟩ := OwR.to_flat h
  exact ⟨by rw [← flatten_one]; exact h1, h2, h3⟩
theorem ints_own {E base : Nat} {w : World} {v : Value} {xs : List Int} (h : w.ownsRow base E 1 v xs.length (xs.map (Value.int .i64))) (hr : ∀ x ∈ xs, inR x) (hb : base ≤ w.heap.size) : OwR intR E base w v xs :=
  OwR.of_flat (by rw [← flatten_one] at h; exact h) hr hb
/-- an own row laid anew, and cut -/
theorem put_own {E base : Nat} {w : World} {g n cap : Nat} {xs : List Int} (h : OwR intR E base w (.slice (some ⟨g, 0, none⟩) n cap) xs) (ys : List Int) (m q : Nat) (os : Array Obj) (hy : ys.length = xs.length) (hm : m ≤ ys.length) (hr : ∀ y ∈ ys, inR y) :
    OwR intR E base (grow (putRow (Value.int .i64) (Sort.ahead w q) g 0 ys.toArray) os) (.slice (some ⟨g, 0, none⟩) m cap) (ys.take m) := by
  obtain ⟨⟨h0, h1⟩, _, hb⟩ := own_ints h
  rcases h1 with ⟨e, _⟩ | ⟨g', cap', cur, e, hbg, hg, hnc, hcm, hcs, htk⟩
  · cases e
  · injection e with e1 e2 e3
    injection e1 with e1
    injection e1 with e1 _ _
    subst e1 e3
    have hl : (ys.take m).length = m := by rw [List.length_take]; omega
    refine ints_own ⟨by simp, .inr ⟨g, cap, _, by rw [hl], hbg, heap_putRow hg q ys.toArray os, by rw [hl]; omega, hcm, by simp [putCells, hcs], ?_⟩⟩ (fun y hy => hr y (List.mem_of_mem_take hy)) (Nat.le_trans hb (grown_putRow w g q ys.toArray os).size)
    rw [hl, Nat.mul_one, putCells_take hm (by omega)]
theorem own_holds {E base : Nat} {w : World} {g n cap : Nat} {xs : List Int} (h : OwR intR E base w (.slice (some ⟨g, 0, none⟩) n cap) xs) : Holds (Value.int .i64) w g 0 xs.toArray ∧ g < w.heap.size ∧ n = xs.length ∧ xs.length ≤ cap ∧ base ≤ g := by
  obtain ⟨h1, _, _⟩ := own_ints h
  have hlt := (h1.lt g rfl).2
  have hs := h.sl (by decide)
  rcases h1.2 with ⟨e, _⟩ | ⟨g', cap', cur, e, hbg, hg, hnc, hcm, hcs, htk⟩
  · cases e
  · injection e with e1 e2 e3
    injection e1 with e1
    injection e1 with e1 _ _
    subst e1 e2 e3
    refine ⟨fun j hj => ?_, hlt, rfl, hnc, hbg⟩
    have hj' : j < xs.length := by simpa using hj
    refine ⟨?_, h1.frozenAt (0 + j)⟩
    rw [getElem!_pos _ j hj]
    exact (hs.int hj').1

set_option maxRecDepth 100000 in
set_option maxHeartbeats 1000000 in
/-- slices.Grow of the nil slice -/
theorem growI_any (n : Nat) (w : World) (hn : n ≤ 1000000) :
    Calls Tryz.prog 121 #[.slice none 0 0, .int .i64 (n : Nat)] w fun e w' => ∃ v, e = .returned v ∧ OwR intR 3 w.heap.size w' v [] ∧ Below w.heap.size w w' := by
  by_cases h0 : n = 0
  · subst h0
    go_enter Tryz.func121, Tryz.ntmps121
    go_wp2_with fail
    go_ret
    exact ⟨_, rfl, OwR.nil _ _ (Nat.le_refl _), Below.refl _ _⟩
  · obtain ⟨ii, z, q1, q2, q3, q4, q5⟩ := elt_int.info
    have hpos : (0 : Int) < (n : Int) := by omega
    have hnn : ¬ ((n : Int) < 0) := by omega
    obtain ⟨G, hG⟩ : ∃ G, G = grownCap w n 0 3 := ⟨_, rfl⟩
    obtain ⟨ROW, hROW⟩ : ∃ ROW : Array Value, ROW = Builtin.zeroCells z.cells n ++ Builtin.zeroCells z.cells (G - n) := ⟨_, rfl⟩
    have hGn : n ≤ G := by rw [hG]; exact grownCap_ge w _ _ _
    have hGm : G ≤ maxLen := by rw [hG]; exact grownCap_le_maxLen w _ _ _ (by unfold maxLen; omega)
    have hrz : ∀ ty, (Builtin.append_ #[35, 3] ty #[.slice none 0 0, .int .i64 (n : Nat)]).run Tryz.prog w = .ok (.slice (some ⟨w.heap.size, 0, none⟩) n G) (w.drew.alloc (.cells ROW 3)) := fun ty => by
      have h := Lib.run_append_nil_zeros (P := Tryz.prog) w 35 3 ty 3 ii z .i64 .i64 Tryz.underlying35 Tryz.underlying3 q1 q2 n (by omega) (by omega) (by omega) (by rw [q4]; omega)
      rw [← hG, ← hROW] at h
      exact h
    have hRl : ROW.size = G := by
      rw [hROW]
      simp only [Array.size_append, size_zeroCells, q5]
      omega
    have hown : OwR intR 3 w.heap.size (w.drew.alloc (.cells ROW 3)) (.slice (some ⟨w.heap.size, 0, none⟩) 0 G) [] :=
      ints_own ⟨by simp, .inr ⟨w.heap.size, G, ROW, rfl, Nat.le_refl _, heap_alloc_new w.drew _, Nat.zero_le _, hGm, by rw [hRl, Nat.mul_one], by simp⟩⟩ (fun x hx => by cases hx) (by simp)
    have HOWN := Go.Lib.hid hown
    have HB := Go.Lib.hid (((Below.refl w.heap.size w).drew).alloc (Nat.le_refl _) (.cells ROW 3))
    clear hown hRl hROW hG q1 q2 q3 q4 q5
    go_enter Tryz.func121, Tryz.ntmps121
    go_wp2_with (at_builtin; refine Lib.wpList_append_run _ rfl _ _ _ _ rfl _ _ rfl rfl _ _ (hrz _) ?_)
    go_ret
    exact ⟨_, rfl, HOWN.out, HB.out⟩
end Go.Proofs.YtcbkimbeljhbhaaGreatDoor

namespace Go.Proofs.YtcbkimbeljhbhaaGreatDoor
open Go.RowKit Go.Deep Go.Sort

def cat2 (xs ys : List Int) : Nat → List Int
  | 0 => []
  | 1 => xs
  | _ => xs ++ ys

set_option maxRecDepth 100000 in
set_option maxHeartbeats 1000000 in
theorem concat2_any (v1 v2 : Value) (xs ys : List Int) (B : Nat) (w : World) (h1 : Sl intR w v1 xs) (h2 : Sl intR w v2 ys) (c1 : w.cell? ⟨B, 0, none⟩ = some v1) (c2 : w.cell? ⟨B, 1, none⟩ = some v2) (hl1 : xs.length ≤ 1000) (hl2 : ys.length ≤ 1000) :
    Calls Tryz.prog 94 #[.slice (some ⟨B, 0, none⟩) 2 2] w fun e w' => ∃ v, e = .returned v ∧ OwR intR 3 w.heap.size w' v (xs ++ ys) ∧ Below w.heap.size w w' := by
  obtain ⟨A1, k1, rfl⟩ := h1.form
  obtain ⟨A2, k2, rfl⟩ := h2.form
  have H1 := Go.Lib.hid h1
  have H2 := Go.Lib.hid h2
  have C1 := Go.Lib.hid c1
  have C2 := Go.Lib.hid c2
  clear h1 h2
  go_enter Tryz.func94, Tryz.ntmps94
  go_wp2_with fail
  go_loopw [3, 11] (fun s i wr => ∃ k : Nat, k ≤ 2 ∧ i = .int .i64 k ∧ s = .int .i64 ((cat2 xs ys k).length : Nat) ∧ wr = w) (fun _ i _ => 2 - (intOf i).toNat)
  case atStart => exact ⟨0, Nat.zero_le _, rfl, rfl, rfl⟩
  case round =>
    obtain ⟨k, hk, rfl, rfl, rfl⟩ := hrel
    have hcase : k = 0 ∨ k = 1 ∨ k = 2 := by omega
    rcases hcase with rfl | rfl | rfl
    · have hz : ((cat2 xs ys 0).length : Nat) = 0 := rfl
      rw [hz]
      go_wp2_with fail
      go_roundw
      case rel => exact ⟨1, by omega, by first | rfl | go_num, by first | rfl | (show _ = Value.int .i64 ((xs.length : Nat) : Int); go_num), by first | rfl | trivial⟩
      case measure => simp [intOf]
    · have hz : ((cat2 xs ys 1).length : Nat) = xs.length := rfl
      rw [hz]
      have hs : ((xs.length : Int) + (ys.length : Int)) = (((xs ++ ys).length : Nat) : Int) := by rw [List.length_append]; omega
      have HS := Go.Lib.hid hs
      have hx9 : (xs.length : Int) ≤ 1000 := by omega
      have hy9 : (ys.length : Int) ≤ 1000 := by omega
      clear hs
      go_wp2_with fail
      go_roundw
      case rel => exact ⟨2, by omega, by first | rfl | go_num, by first | rfl | (show _ = Value.int .i64 (((xs ++ ys).length : Nat) : Int); rw [← HS.out]), by first | rfl | trivial⟩
      case measure => simp [intOf]
    · have hz : ((cat2 xs ys 2).length : Nat) = (xs ++ ys).length := rfl
      rw [hz]
      obtain ⟨W, hW⟩ : ∃ x, x = wr := ⟨_, rfl⟩
      subst hW
      have HG := Go.Lib.hid (growI_any (xs ++ ys).length W (by rw [List.length_append]; omega))
      generalize (xs ++ ys).length = n at HG ⊢
      go_wp2_with (go_at_call 121; refine HG.out.mono ?_; rintro e w1 ⟨v1, rfl, ho1, hb1⟩)
      have HO1 := Go.Lib.hid ho1
      have HB1 := Go.Lib.hid hb1
      clear ho1 hb1 c1 c2
      go_loopw [6, 27] (fun o i wr => ∃ k : Nat, k ≤ 2 ∧ i = .int .i64 k ∧ OwR intR 3 W.heap.size wr o (cat2 xs ys k) ∧ Below W.heap.size W wr) (fun _ i _ => 2 - (intOf i).toNat)
      case atStart => exact ⟨0, Nat.zero_le _, rfl, HO1.out, HB1.out⟩
      case round =>
        obtain ⟨k, hk, rfl, ho, hb⟩ := hrel
        have HO := Go.Lib.hid ho
        have HB := Go.Lib.hid hb
        have c1 := cell_keep hb C1.out
        have c2 := cell_keep hb C2.out
        clear ho hb HO1 HB1
        have hcase : k = 0 ∨ k = 1 ∨ k = 2 := by omega
        rcases hcase with rfl | rfl | rfl
        · go_wp2_with (at_builtin; refine wpList_gen (base := W.heap.size) elt_int rfl _ _ rfl HO.out (H1.out.below HB.out) (fun _ _ h => h) rfl rfl (by show 0 + xs.length ≤ _; omega) (by decide) ?_; intro v5 w5 ho5 hg5)
          go_roundw
          case rel => exact ⟨1, by omega, by first | rfl | go_num, by simpa [cat2] using ho5, HO.out.below_grown HB.out hg5.grown⟩
          case measure => simp [intOf]
        · go_wp2_with (at_builtin; refine wpList_gen (base := W.heap.size) elt_int rfl _ _ rfl HO.out (H2.out.below HB.out) (fun _ _ h => h) rfl rfl (by show xs.length + ys.length ≤ _; omega) (by decide) ?_; intro v5 w5 ho5 hg5)
          go_roundw
          case rel => exact ⟨2, by omega, by first | rfl | go_num, by simpa [cat2] using ho5, HO.out.below_grown HB.out hg5.grown⟩
          case measure => simp [intOf]
        · go_wp2_with fail
          go_ret
          exact ⟨_, rfl, HO.out, HB.out⟩

theorem compact_le (zs : List Int) : (Lib.compact zs).length ≤ zs.length := Lib.compact_length_le zs
theorem own_form {E base : Nat} {w : World} {v : Value} {xs : List Int} (h : OwR intR E base w v xs) : (xs = [] ∧ ∃ A c, v = .slice A 0 c) ∨ (0 < xs.length ∧ ∃ g c, v = .slice (some ⟨g, 0, none⟩) xs.length c) := by
  obtain ⟨h1, _, _⟩ := own_ints h
  rcases h1.2 with ⟨rfl, hn⟩ | ⟨g, cap, cur, rfl, _⟩
  · exact .inl ⟨List.eq_nil_of_length_eq_zero hn, none, 0, rfl⟩
  · rcases Nat.eq_zero_or_pos xs.length with h0 | h0
    · exact .inl ⟨List.eq_nil_of_length_eq_zero h0, some ⟨g, 0, none⟩, cap, by rw [h0]⟩
    · exact .inr ⟨h0, g, cap, rfl⟩

set_option maxRecDepth 100000 in
set_option maxHeartbeats 1000000 in
theorem joined_any (v1 v2 : Value) (xs ys : List Int) (w : World) (h1 : Sl intR w v1 xs) (h2 : Sl intR w v2 ys) (hx : ∀ x ∈ xs, 0 ≤ x ∧ x ≤ 11) (hy : ∀ x ∈ ys, 0 ≤ x ∧ x ≤ 11) (hl1 : xs.length ≤ 1000) (hl2 : ys.length ≤ 1000) :
    Calls Tryz.prog 65 #[v1, v2] w fun e w' => ∃ v, e = .returned v ∧ OwR intR 3 w.heap.size w' v (joinS xs ys) ∧ Below w.heap.size w w' := by
  have hj := join_sort hx hy
  have hr : ∀ x ∈ xs ++ ys, inR x := by
    intro x hxy
    unfold inR
    rcases List.mem_append.1 hxy with h | h
    · have := hx x h; omega
    · have := hy x h; omega
  have hal := (Below.refl w.heap.size w).alloc (Nat.le_refl _) (.cells #[v1, v2] 35)
  have HC := Go.Lib.hid (concat2_any v1 v2 xs ys w.heap.size (w.alloc (.cells #[v1, v2] 35)) (h1.below hal) (h2.below hal) (by rw [World.cell?_alloc_at _ _ _ _ rfl]; rfl) (by rw [World.cell?_alloc_at _ _ _ _ rfl]; rfl) hl1 hl2)
  have HAL := Go.Lib.hid hal
  have HLN := Go.Lib.hid (show (xs ++ ys).length ≤ 2000 by rw [List.length_append]; omega)
  obtain ⟨A1, k1, rfl⟩ := h1.form
  obtain ⟨A2, k2, rfl⟩ := h2.form
  have HJ := Go.Lib.hid hj
  have HR := Go.Lib.hid hr
  clear h1 h2 hal hj hr hx hy
  generalize xs ++ ys = zs at HC HJ HR HLN
  go_enter Tryz.func65, Tryz.ntmps65
  go_wp2_with (go_at_call 94; refine HC.out.mono ?_; rintro e w1 ⟨v5, rfl, ho1, hb1⟩; have HO1 := Go.Lib.hid ho1; have HB1 := Go.Lib.hid (HAL.out.trans (hb1.mono HAL.out.size)); have HSZ := Go.Lib.hid (show w.heap.size ≤ (w.alloc (.cells #[.slice A1 xs.length k1, .slice A2 ys.length k2] 35)).heap.size from HAL.out.size); clear ho1 hb1)
  rcases own_form HO1.out with ⟨h0, A, c, rfl⟩ | ⟨hpos, g, c, rfl⟩
  · subst h0
    refine (Tryz.slices_Sort_int_none A c w1).mono ?_
    rintro e w' ⟨rfl, rfl⟩
    go_wp2_with (go_at_call 96; refine (Tryz.slices_Compact_int_empty A c w').mono ?_; rintro e w5 ⟨rfl, rfl⟩)
    go_ret
    have hnil : ([] : List Int) = joinS xs ys := by rw [← HJ.out]; simp [Lib.compact, Lib.compactUpTo]
    exact ⟨_, rfl, by rw [← hnil]; exact HO1.out.lower HSZ.out, HB1.out⟩
  · obtain ⟨k1', k2', -, k4', k5'⟩ := own_holds HO1.out
    obtain ⟨S, hS⟩ : ∃ S, S = zs.mergeSort fun x y => decide (x ≤ y) := ⟨_, rfl⟩
    have hSl : S.length = zs.length := by rw [hS]; exact List.length_mergeSort zs
    have hSr : ∀ x ∈ S, inR x := fun x hx => HR.out x (by rw [hS] at hx; exact List.mem_mergeSort.1 hx)
    refine (Tryz.slices_Sort_int g 0 c zs w1 k1' k2' (by have := HLN.out; omega)).mono ?_
    rintro e w' ⟨rfl, q, os, hw'⟩
    rw [← hS] at hw'
    have ho2 := put_own HO1.out S S.length q os hSl (Nat.le_refl _) hSr
    have hb2 := HB1.out.grown (grown_putRow w1 g q S.toArray os) HB1.out.size (fun k hk => by injection hk with hk; have := HSZ.out; omega)
    rw [← hw', List.take_length, hSl] at ho2
    rw [← hw'] at hb2
    have HO2 := Go.Lib.hid ho2
    have HB2 := Go.Lib.hid hb2
    clear hw' ho2 hb2 k1' k2' HR
    obtain ⟨m1, m2, -, m4, m5⟩ := own_holds HO2.out
    have hcm := Tryz.slices_Compact_int g 0 c S w' m1 (by have := HLN.out; omega) m4
    rw [hSl, ← hSl] at hcm
    have hcr : ∀ y ∈ Lib.compact S ++ List.replicate (S.length - (Lib.compact S).length) 0, inR y := by
      intro y hy
      rcases List.mem_append.1 hy with h | h
      · exact hSr y (compact_mem.1 h)
      · rw [(List.mem_replicate.1 h).2]; unfold inR; omega
    have hcl := compact_le S
    obtain ⟨Z, hZ⟩ : ∃ Z, Z = Lib.compact S ++ List.replicate (S.length - (Lib.compact S).length) 0 := ⟨_, rfl⟩
    rw [← hZ] at hcr hcm
    have hZl : Z.length = S.length := by rw [hZ, List.length_append, List.length_replicate]; omega
    obtain ⟨D, hD⟩ : ∃ D, D = Lib.compact S := ⟨_, rfl⟩
    have hZt : Z.take D.length = D := by rw [hZ, ← hD, List.take_left]
    rw [← hD] at hcm hcl
    have HFIN := Go.Lib.hid (fun q2 => And.intro (put_own HO2.out Z D.length q2 #[] hZl (by omega) hcr) (HB2.out.grown (grown_putRow w' g q2 Z.toArray #[]) HB2.out.size (fun k hk => by injection hk with hk; have := HSZ.out; omega)))
    have HZT := Go.Lib.hid hZt
    have HCM := Go.Lib.hid hcm
    rw [hSl] at HCM
    have HJ2 := Go.Lib.hid (show D = joinS xs ys by rw [hD, hS]; exact HJ.out)
    clear hcm hcr hcl m1 m2 m4 hSr hS hSl HJ hZ hZl hZt hD
    go_wp2_with (go_at_call 96; refine HCM.out.mono ?_; rintro e w5 ⟨rfl, q2, hw5⟩)
    go_ret
    obtain ⟨f1, f2⟩ := HFIN.out q2
    rw [grow_empty] at f1 f2
    rw [HZT.out] at f1
    exact ⟨_, rfl, by rw [← HJ2.out]; exact f1.lower HSZ.out, f2⟩
end Go.Proofs.YtcbkimbeljhbhaaGreatDoor

namespace Go.Proofs.YtcbkimbeljhbhaaGreatDoor
open Go Go.RowKit Go.Deep

def lbP (l : List Route) (p : Prefix) : Nat := (l.takeWhile fun x => prefOrd x.pre p).length
def hasP (l : List Route) (p : Prefix) : Bool := l.any fun x => sameP x.pre p
theorem tw_le {α : Type} (P : α → Bool) : ∀ l : List α, (l.takeWhile P).length ≤ l.length
  | [] => by simp
  | a :: r => by rw [List.takeWhile_cons]; have := tw_le P r; split <;> simp <;> omega
theorem tw_eq {α : Type} (P : α → Bool) : ∀ (l : List α) (i : Nat), i ≤ l.length → (∀ j, (h : j < l.length) → j < i → P l[j] = true) → ((h : i < l.length) → P l[i] = false) → (l.takeWhile P).length = i
  | [], i, hi, _, _ => by simp at hi; subst hi; rfl
  | a :: r, 0, _, _, h2 => by
    have := h2 (by simp)
    rw [List.takeWhile_cons]; simp at this; rw [this]; rfl
  | a :: r, i + 1, hi, h1, h2 => by
    have h0 := h1 0 (by simp) (by omega)
    simp at h0
    rw [List.takeWhile_cons, h0]
    have := tw_eq P r i (by simpa using hi) (fun j hj hji => by have := h1 (j + 1) (by simp; omega) (by omega); rw [List.getElem_cons_succ] at this; exact this) (fun h => by have := h2 (by simp; omega); rw [List.getElem_cons_succ] at this; exact this)
    simp [this]
theorem lbP_iff {l : List Route} (h : SortedR l) {p : Prefix} {i j : Nat} (hij : i ≤ j) (hj : j < l.length) (hl : prefOrd l[j].pre p = true) : prefOrd (l[i]'(by omega)).pre p = true := by
  rcases Nat.lt_or_eq_of_le hij with e | e
  · exact ord_trans (List.pairwise_iff_getElem.1 h i j (by omega) hj e) hl
  · subst e; exact hl
theorem lbP_of {l : List Route} (h : SortedR l) {p : Prefix} {i : Nat} (hi : i < l.length) (he : l[i].pre = p) : lbP l p = i := by
  refine tw_eq _ l i (by omega) (fun j hj hji => ?_) (fun _ => ?_)
  · rw [← he]; exact List.pairwise_iff_getElem.1 h j i hj hi hji
  · rw [he]; exact ord_irr p
theorem hasP_iff {l : List Route} (h : SortedR l) (p : Prefix) : hasP l p = true ↔ ∃ hl : lbP l p < l.length, l[lbP l p].pre = p := by
  unfold hasP
  rw [List.any_eq_true]
  constructor
  · rintro ⟨x, hx, hs⟩
    obtain ⟨i, hi, rfl⟩ := List.getElem_of_mem hx
    have he := (sameP_iff _ _).1 hs
    have := lbP_of h hi he
    exact ⟨by omega, by simp only [this]; exact he⟩
  · rintro ⟨hl, he⟩
    exact ⟨_, List.getElem_mem hl, by rw [he]; exact sameP_refl p⟩
theorem addR_no : ∀ {l : List Route} {r : Route}, SortedR l → hasP l r.pre = false → addR l r = l.take (lbP l r.pre) ++ r :: l.drop (lbP l r.pre)
  | [], r, _, _ => rfl
  | x :: l, r, hs, hp => by
    obtain ⟨h1, h2⟩ := List.pairwise_cons.1 hs
    have hpx : sameP x.pre r.pre = false ∧ hasP l r.pre = false := by unfold hasP at hp ⊢; simpa using hp
    unfold addR lbP
    rw [List.takeWhile_cons]
    by_cases ho : prefOrd x.pre r.pre = true
    · rw [if_pos ho, ho]
      simp only [if_true, List.length_cons, List.take_succ_cons, List.drop_succ_cons, List.cons_append]
      rw [addR_no h2 hpx.2]; rfl
    · have ho' : prefOrd x.pre r.pre = false := by simpa using ho
      rw [if_neg ho, if_neg (by rw [hpx.1]; simp), ho']
      rfl
theorem addR_yes : ∀ {l : List Route} {r : Route}, SortedR l → hasP l r.pre = true → ∃ h : lbP l r.pre < l.length, l[lbP l r.pre].pre = r.pre ∧ addR l r = l.set (lbP l r.pre) (updR l[lbP l r.pre] r)
  | [], r, _, hp => by unfold hasP at hp; simp at hp
  | x :: l, r, hs, hp => by
    obtain ⟨h1, h2⟩ := List.pairwise_cons.1 hs
    by_cases ho : prefOrd x.pre r.pre = true
    · have hne := ord_ne ho
      have hp2 : hasP l r.pre = true := by unfold hasP at hp ⊢; rw [List.any_cons, hne, Bool.false_or] at hp; exact hp
      obtain ⟨hl, he, ha⟩ := addR_yes h2 hp2
      have hlb : lbP (x :: l) r.pre = lbP l r.pre + 1 := by unfold lbP; rw [List.takeWhile_cons, ho]; rfl
      refine ⟨by rw [hlb]; simpa using hl, by simp only [hlb]; simpa using he, ?_⟩
      unfold addR
      rw [if_pos ho, ha]
      simp only [hlb, List.set_cons_succ, List.getElem_cons_succ]
    · have ho' : prefOrd x.pre r.pre = false := by simpa using ho
      have hsm : sameP x.pre r.pre = true := by
        unfold hasP at hp
        rw [List.any_cons] at hp
        cases hx : sameP x.pre r.pre with
        | true => rfl
        | false =>
          rw [hx, Bool.false_or, List.any_eq_true] at hp
          obtain ⟨y, hy, hys⟩ := hp
          have h3 := h1 y hy
          rw [(sameP_iff _ _).1 hys] at h3
          rw [ho'] at h3; cases h3
      have hlb : lbP (x :: l) r.pre = 0 := by unfold lbP; rw [List.takeWhile_cons, ho']; rfl
      refine ⟨by rw [hlb]; simp, by simp only [hlb]; exact (sameP_iff _ _).1 hsm, ?_⟩
      unfold addR
      rw [if_neg ho, if_pos hsm]
      simp only [hlb, List.set_cons_zero, List.getElem_cons_zero]
theorem cmpP_bounds {a b : Prefix} (ha : prefBad a = 0) (hb : prefBad b = 0) : (cmpP a b < 0 ↔ prefOrd a b = true) ∧ (cmpP a b = 0 ↔ a = b) ∧ -1000 ≤ cmpP a b ∧ cmpP a b ≤ 1000 := by
  have h1 := prefBad_ok ha
  have h2 := prefBad_ok hb
  have hw : ∀ x : Int, -1000 ≤ x → x ≤ 1000 → wrap64 x = x := by
    intro x h3 h4
    unfold wrap64
    omega
  unfold cmpP
  by_cases e : a.addr = b.addr
  · rw [if_neg (by simpa using e), hw _ (by omega) (by omega), prefOrd_iff]
    refine ⟨by omega, ⟨fun h => ?_, fun h => by rw [h]; omega⟩, by omega, by omega⟩
    cases a; cases b
    simp at e h ⊢
    exact ⟨e, by omega⟩
  · rw [if_pos e, hw _ (by omega) (by omega), prefOrd_iff]
    refine ⟨by omega, ⟨fun h => by omega, fun h => by rw [h] at e; exact absurd rfl e⟩, by omega, by omega⟩

set_option maxHeartbeats 400000 in
theorem cmpCA_any (x : Route) (p : Prefix) (v : Value) (w : World) (h : Sl intR w v x.hops) :
    Calls Tryz.prog 64 #[x.agg v, .agg #[.int .i64 p.addr, .int .i64 p.bits]] w fun e w' => e = .returned (.int .i64 (cmpP x.pre p)) ∧ Below w.heap.size w w' := by
  obtain ⟨A, c, rfl⟩ := h.form
  obtain ⟨hs, hhs⟩ : ∃ l, x.hops = l := ⟨_, rfl⟩
  unfold Route.agg
  rw [hhs]
  have hb : Below w.heap.size w ((w.alloc (.cells #[.int .i64 x.pre.addr, .int .i64 x.pre.bits, .bool x.here, .int .i64 x.cost, .slice A hs.length c] 64)).alloc (.cells #[.int .i64 p.addr, .int .i64 p.bits] 62)) := ((Below.refl _ _).alloc (Nat.le_refl _) _).alloc (by simp) _
  have HB := Go.Lib.hid hb
  clear h hhs hb
  go_enter Tryz.func64, Tryz.ntmps64
  go_wp2_with fail
  refine (ribCompare_any x.pre p _).mono ?_
  rintro e w1 ⟨rfl, hb1⟩
  have HB1 := Go.Lib.hid (HB.out.trans (hb1.mono HB.out.size))
  clear hb1
  go_wp2_with fail
  go_ret
  exact ⟨rfl, HB1.out⟩
set_option maxHeartbeats 400000 in
theorem cmpCP_any (x : Route) (p : Prefix) (v : Value) (w : World) (h : Sl intR w v x.hops) :
    Calls Tryz.prog 57 #[x.agg v, .agg #[.int .i64 p.addr, .int .i64 p.bits]] w fun e w' => e = .returned (.int .i64 (cmpP x.pre p)) ∧ Below w.heap.size w w' := by
  obtain ⟨A, c, rfl⟩ := h.form
  obtain ⟨hs, hhs⟩ : ∃ l, x.hops = l := ⟨_, rfl⟩
  unfold Route.agg
  rw [hhs]
  have hb : Below w.heap.size w ((w.alloc (.cells #[.int .i64 x.pre.addr, .int .i64 x.pre.bits, .bool x.here, .int .i64 x.cost, .slice A hs.length c] 64)).alloc (.cells #[.int .i64 p.addr, .int .i64 p.bits] 62)) := ((Below.refl _ _).alloc (Nat.le_refl _) _).alloc (by simp) _
  have HB := Go.Lib.hid hb
  clear h hhs hb
  go_enter Tryz.func57, Tryz.ntmps57
  go_wp2_with fail
  refine (ribCompare_any x.pre p _).mono ?_
  rintro e w1 ⟨rfl, hb1⟩
  have HB1 := Go.Lib.hid (HB.out.trans (hb1.mono HB.out.size))
  clear hb1
  go_wp2_with fail
  go_ret
  exact ⟨rfl, HB1.out⟩

set_option maxRecDepth 100000 in
set_option maxHeartbeats 2000000 in
theorem bsearchRA_any (v : Value) (xs : List Route) (p : Prefix) (w : World) (h : Sl routeR w v xs) (hord : SortedR xs) (hbad : ∀ x ∈ xs, prefBad x.pre = 0) (hp : prefBad p = 0) (hl : xs.length ≤ 1000000) :
    Calls Tryz.prog 56 #[v, .agg #[.int .i64 p.addr, .int .i64 p.bits], .func (.func 64) #[] #[]] w fun e w' => e = .returned (.tuple #[.int .i64 (lbP xs p : Nat), .bool (hasP xs p)]) ∧ Below w.heap.size w w' := by
  obtain ⟨A, c, rfl⟩ := h.form
  have hal := (Below.refl w.heap.size w).alloc (Nat.le_refl _) (.cells #[.int .i64 p.addr, .int .i64 p.bits] 62)
  have H := Go.Lib.hid (h.below hal)
  have HAL := Go.Lib.hid hal
  have HO := Go.Lib.hid hord
  have HG := Go.Lib.hid hbad
  have HPB := Go.Lib.hid hp
  have q0 : (w.alloc (.cells #[.int .i64 p.addr, .int .i64 p.bits] 62)).cell? ⟨w.heap.size, 0, none⟩ = some (.int .i64 p.addr) := by rw [World.cell?_alloc_at _ _ _ _ rfl]; rfl
  have q1 : (w.alloc (.cells #[.int .i64 p.addr, .int .i64 p.bits] 62)).cell? ⟨w.heap.size, 1, none⟩ = some (.int .i64 p.bits) := by rw [World.cell?_alloc_at _ _ _ _ rfl]; rfl
  have HQ0 := Go.Lib.hid q0
  have HQ1 := Go.Lib.hid q1
  have HLT := Go.Lib.hid (show w.heap.size < (w.alloc (.cells #[.int .i64 p.addr, .int .i64 p.bits] 62)).heap.size by simp)
  obtain ⟨W, hW⟩ : ∃ W, W = w.alloc (.cells #[.int .i64 p.addr, .int .i64 p.bits] 62) := ⟨_, rfl⟩
  rw [← hW] at H HAL HQ0 HQ1 HLT
  clear h hord hbad hp hal q0 q1
  go_enter Tryz.func56, Tryz.ntmps56
  go_wp2_with fail
  rw [← hW]
  clear hW
  obtain ⟨B, hB⟩ : ∃ B, B = w.heap.size := ⟨_, rfl⟩
  rw [← hB] at HQ0 HQ1 HLT
  rw [← hB]
  clear hB
  go_loopw [9, 10, 11] (fun i j _ wr => ∃ lo hi : Nat, i = .int .i64 lo ∧ j = .int .i64 hi ∧ lo ≤ hi ∧ hi ≤ xs.length ∧ Below W.heap.size W wr ∧ (∀ t, (h : t < xs.length) → t < lo → prefOrd xs[t].pre p = true) ∧ (∀ t, (h : t < xs.length) → hi ≤ t → prefOrd xs[t].pre p = false)) (fun i j _ _ => (intOf j).toNat - (intOf i).toNat)
  case atStart => exact ⟨0, xs.length, rfl, rfl, Nat.zero_le _, Nat.le_refl _, Below.refl _ _, fun t _ ht => absurd ht (Nat.not_lt_zero _), fun t h1 h2 => by omega⟩
  case round =>
    obtain ⟨lo, hi, rfl, rfl, hlh, hin, hBB, hI1, hI2⟩ := hrel
    have I1 := Go.Lib.hid hI1
    have I2 := Go.Lib.hid hI2
    have HBB := Go.Lib.hid hBB
    have p0 := cell_keep hBB HQ0.out
    have p1 := cell_keep hBB HQ1.out
    clear hI1 hI2 hBB
    by_cases hlt : lo < hi
    · obtain ⟨md, hmd⟩ : ∃ md, md = (lo + hi) / 2 := ⟨_, rfl⟩
      have hm : md < xs.length := by omega
      obtain ⟨b, off, rfl, hb⟩ := H.out.at_ hm
      obtain ⟨vh, f1, f2, f3, f4, f5, hs, _⟩ := (H.out.below HBB.out).route hm
      obtain ⟨y, hy⟩ : ∃ y, xs[md] = y := ⟨_, rfl⟩
      rw [hy] at f1 f2 f3 f4 hs
      have hyb := HG.out _ (List.getElem_mem hm)
      rw [hy] at hyb
      have HCB := Go.Lib.hid (cmpP_bounds hyb HPB.out)
      have Y := Go.Lib.hid hy
      have HHS := Go.Lib.hid hs
      have cS : ∀ d os, Calls Tryz.prog 64 #[.agg #[.int .i64 y.pre.addr, .int .i64 y.pre.bits, .bool y.here, .int .i64 y.cost, vh], .agg #[.int .i64 p.addr, .int .i64 p.bits]] (Sort.grow (redrawn wr d) os) fun e w'' => e = .returned (.int .i64 (cmpP y.pre p)) ∧ ∃ q : Regrown, w'' = Sort.grow (redrawn wr q.d) q.os := fun d os => Calls.regrown_of (cmpCA_any y p vh _ (HHS.out.below (below_regrown wr d os)))
      have l1 := cell_regrown f1
      have l2 := cell_regrown f2
      have l3 := cell_regrown f3
      have l4 := cell_regrown f4
      have l5 := cell_regrown f5
      have m1 := cell_regrown p0
      have m2 := cell_regrown p1
      have hdiv : ((lo : Int) + (hi : Int)) / 2 = (((lo + hi) / 2 : Nat) : Int) := by omega
      rw [← hmd] at hdiv
      have HMD := Go.Lib.hid hmd
      have hmb : md ≤ 1000000 := by omega
      clear hmd
      clear hy hyb hs f1 f2 f3 f4 f5 p0 p1
      go_wp2_with fail
      refine wp_region_quiet_below (by kernel_rfl) (by kernel_rfl) ?_
      repeat (quiet_step (fail))
      quiet_step (exact cS _ _)
      repeat (quiet_step (fail))
      refine wpQuiet_nil ?_
      intro _ hw'
      obtain ⟨⟨dq, osq⟩, hw''⟩ := hw'
      subst hw''
      have HB1 := Go.Lib.hid (HBB.out.trans ((below_regrown wr dq osq).mono HBB.out.size))
      clear cS l1 l2 l3 l4 l5 m1 m2
      generalize Sort.grow (redrawn wr dq) osq = w5 at HB1 ⊢
      by_cases hc : cmpP y.pre p < 0
      · have HL := Go.Lib.hid (HCB.out.1.1 hc)
        go_wp2_with fail
        go_roundw
        case rel =>
          refine ⟨md + 1, hi, by first | rfl | go_num, rfl, by have := HMD.out; omega, hin, HB1.out, fun t ht htl => ?_, I2.out⟩
          exact lbP_iff HO.out (by omega) hm (by rw [Y.out]; exact HL.out)
        case measure => have := HMD.out; simp [intOf]; omega
      · have HL := Go.Lib.hid (show prefOrd y.pre p = false by rw [Bool.eq_false_iff]; exact fun e => hc (HCB.out.1.2 e))
        go_wp2_with fail
        go_roundw
        case rel =>
          refine ⟨lo, md, rfl, by first | rfl | go_num, by have := HMD.out; omega, by have := HMD.out; omega, HB1.out, I1.out, fun t ht htl => ?_⟩
          rw [Bool.eq_false_iff]
          intro e
          have := lbP_iff HO.out htl ht e
          rw [Y.out, HL.out] at this
          cases this
        case measure => have := HMD.out; simp [intOf]; omega
    · obtain rfl : lo = hi := by omega
      have hlb : lbP xs p = lo := tw_eq _ xs lo hin I1.out (fun h => I2.out lo h (Nat.le_refl _))
      have HLB := Go.Lib.hid hlb
      clear hlb
      by_cases hn : lo < xs.length
      · obtain ⟨b, off, rfl, hb⟩ := H.out.at_ hn
        obtain ⟨vh, f1, f2, f3, f4, f5, hs, _⟩ := (H.out.below HBB.out).route hn
        have hhas := hasP_iff HO.out p
        simp only [HLB.out] at hhas
        obtain ⟨y, hy⟩ : ∃ y, xs[lo] = y := ⟨_, rfl⟩
        rw [hy] at f1 f2 f3 f4 hs
        have hyb := HG.out _ (List.getElem_mem hn)
        rw [hy] at hyb
        have hcb := cmpP_bounds hyb HPB.out
        have HH := Go.Lib.hid (show hasP xs p = (cmpP y.pre p == 0) by
          rw [Bool.eq_iff_iff, hhas, beq_iff_eq, hcb.2.1, ← hy]; exact ⟨fun ⟨_, h⟩ => h, fun h => ⟨hn, h⟩⟩)
        have HHS := Go.Lib.hid hs
        have cS : ∀ d os, Calls Tryz.prog 64 #[.agg #[.int .i64 y.pre.addr, .int .i64 y.pre.bits, .bool y.here, .int .i64 y.cost, vh], .agg #[.int .i64 p.addr, .int .i64 p.bits]] (Sort.grow (redrawn wr d) os) fun e w'' => e = .returned (.int .i64 (cmpP y.pre p)) ∧ ∃ q : Regrown, w'' = Sort.grow (redrawn wr q.d) q.os := fun d os => Calls.regrown_of (cmpCA_any y p vh _ (HHS.out.below (below_regrown wr d os)))
        have l1 := cell_regrown f1
        have l2 := cell_regrown f2
        have l3 := cell_regrown f3
        have l4 := cell_regrown f4
        have l5 := cell_regrown f5
        have m1 := cell_regrown p0
        have m2 := cell_regrown p1
        have hni : (lo : Int) < (xs.length : Int) := by omega
        clear hhas hcb hy hyb hs f1 f2 f3 f4 f5 p0 p1
        go_wp2_with fail
        refine wp_region_quiet_below (by kernel_rfl) (by kernel_rfl) ?_
        repeat (quiet_step (fail))
        quiet_step (exact cS _ _)
        repeat (quiet_step (fail))
        refine wpQuiet_nil ?_
        intro _ hw'
        obtain ⟨⟨dq, osq⟩, hw''⟩ := hw'
        subst hw''
        have HB1 := Go.Lib.hid (HBB.out.trans ((below_regrown wr dq osq).mono HBB.out.size))
        clear cS l1 l2 l3 l4 l5 m1 m2
        go_wp2_with fail
        go_ret2
        refine ⟨?_, HAL.out.trans (HB1.out.mono HAL.out.size)⟩
        rw [HLB.out, HH.out]
        rfl
      · have hni : ¬ (lo : Int) < (xs.length : Int) := by omega
        have HH := Go.Lib.hid (show hasP xs p = false by
          rw [Bool.eq_false_iff]
          intro e
          obtain ⟨h1, _⟩ := (hasP_iff HO.out p).1 e
          rw [HLB.out] at h1
          exact hn h1)
        go_wp2_with fail
        go_quiet (fail)
        go_wp2_with fail
        go_ret2
        refine ⟨by rw [HLB.out, HH.out]; rfl, HAL.out.trans ((bDrewN HBB.out _).mono HAL.out.size)⟩
set_option maxRecDepth 100000 in
set_option maxHeartbeats 2000000 in
theorem bsearchRP_any (v : Value) (xs : List Route) (p : Prefix) (w : World) (h : Sl routeR w v xs) (hord : SortedR xs) (hbad : ∀ x ∈ xs, prefBad x.pre = 0) (hp : prefBad p = 0) (hl : xs.length ≤ 1000000) :
    Calls Tryz.prog 56 #[v, .agg #[.int .i64 p.addr, .int .i64 p.bits], .func (.func 57) #[] #[]] w fun e w' => e = .returned (.tuple #[.int .i64 (lbP xs p : Nat), .bool (hasP xs p)]) ∧ Below w.heap.size w w' := by
  obtain ⟨A, c, rfl⟩ := h.form
  have hal := (Below.refl w.heap.size w).alloc (Nat.le_refl _) (.cells #[.int .i64 p.addr, .int .i64 p.bits] 62)
  have H := Go.Lib.hid (h.below hal)
  have HAL := Go.Lib.hid hal
  have HO := Go.Lib.hid hord
  have HG := Go.Lib.hid hbad
  have HPB := Go.Lib.hid hp
  have q0 : (w.alloc (.cells #[.int .i64 p.addr, .int .i64 p.bits] 62)).cell? ⟨w.heap.size, 0, none⟩ = some (.int .i64 p.addr) := by rw [World.cell?_alloc_at _ _ _ _ rfl]; rfl
  have q1 : (w.alloc (.cells #[.int .i64 p.addr, .int .i64 p.bits] 62)).cell? ⟨w.heap.size, 1, none⟩ = some (.int .i64 p.bits) := by rw [World.cell?_alloc_at _ _ _ _ rfl]; rfl
  have HQ0 := Go.Lib.hid q0
  have HQ1 := Go.Lib.hid q1
  have HLT := Go.Lib.hid (show w.heap.size < (w.alloc (.cells #[.int .i64 p.addr, .int .i64 p.bits] 62)).heap.size by simp)
  obtain ⟨W, hW⟩ : ∃ W, W = w.alloc (.cells #[.int .i64 p.addr, .int .i64 p.bits] 62) := ⟨_, rfl⟩
  rw [← hW] at H HAL HQ0 HQ1 HLT
  clear h hord hbad hp hal q0 q1
  go_enter Tryz.func56, Tryz.ntmps56
  go_wp2_with fail
  rw [← hW]
  clear hW
  obtain ⟨B, hB⟩ : ∃ B, B = w.heap.size := ⟨_, rfl⟩
  rw [← hB] at HQ0 HQ1 HLT
  rw [← hB]
  clear hB
  go_loopw [9, 10, 11] (fun i j _ wr => ∃ lo hi : Nat, i = .int .i64 lo ∧ j = .int .i64 hi ∧ lo ≤ hi ∧ hi ≤ xs.length ∧ Below W.heap.size W wr ∧ (∀ t, (h : t < xs.length) → t < lo → prefOrd xs[t].pre p = true) ∧ (∀ t, (h : t < xs.length) → hi ≤ t → prefOrd xs[t].pre p = false)) (fun i j _ _ => (intOf j).toNat - (intOf i).toNat)
  case atStart => exact ⟨0, xs.length, rfl, rfl, Nat.zero_le _, Nat.le_refl _, Below.refl _ _, fun t _ ht => absurd ht (Nat.not_lt_zero _), fun t h1 h2 => by omega⟩
  case round =>
    obtain ⟨lo, hi, rfl, rfl, hlh, hin, hBB, hI1, hI2⟩ := hrel
    have I1 := Go.Lib.hid hI1
    have I2 := Go.Lib.hid hI2
    have HBB := Go.Lib.hid hBB
    have p0 := cell_keep hBB HQ0.out
    have p1 := cell_keep hBB HQ1.out
    clear hI1 hI2 hBB
    by_cases hlt : lo < hi
    · obtain ⟨md, hmd⟩ : ∃ md, md = (lo + hi) / 2 := ⟨_, rfl⟩
      have hm : md < xs.length := by omega
      obtain ⟨b, off, rfl, hb⟩ := H.out.at_ hm
      obtain ⟨vh, f1, f2, f3, f4, f5, hs, _⟩ := (H.out.below HBB.out).route hm
      obtain ⟨y, hy⟩ : ∃ y, xs[md] = y := ⟨_, rfl⟩
      rw [hy] at f1 f2 f3 f4 hs
      have hyb := HG.out _ (List.getElem_mem hm)
      rw [hy] at hyb
      have HCB := Go.Lib.hid (cmpP_bounds hyb HPB.out)
      have Y := Go.Lib.hid hy
      have HHS := Go.Lib.hid hs
      have cS : ∀ d os, Calls Tryz.prog 57 #[.agg #[.int .i64 y.pre.addr, .int .i64 y.pre.bits, .bool y.here, .int .i64 y.cost, vh], .agg #[.int .i64 p.addr, .int .i64 p.bits]] (Sort.grow (redrawn wr d) os) fun e w'' => e = .returned (.int .i64 (cmpP y.pre p)) ∧ ∃ q : Regrown, w'' = Sort.grow (redrawn wr q.d) q.os := fun d os => Calls.regrown_of (cmpCP_any y p vh _ (HHS.out.below (below_regrown wr d os)))
      have l1 := cell_regrown f1
      have l2 := cell_regrown f2
      have l3 := cell_regrown f3
      have l4 := cell_regrown f4
      have l5 := cell_regrown f5
      have m1 := cell_regrown p0
      have m2 := cell_regrown p1
      have hdiv : ((lo : Int) + (hi : Int)) / 2 = (((lo + hi) / 2 : Nat) : Int) := by omega
      rw [← hmd] at hdiv
      have HMD := Go.Lib.hid hmd
      have hmb : md ≤ 1000000 := by omega
      clear hmd
      clear hy hyb hs f1 f2 f3 f4 f5 p0 p1
      go_wp2_with fail
      refine wp_region_quiet_below (by kernel_rfl) (by kernel_rfl) ?_
      repeat (quiet_step (fail))
      quiet_step (exact cS _ _)
      repeat (quiet_step (fail))
      refine wpQuiet_nil ?_
      intro _ hw'
      obtain ⟨⟨dq, osq⟩, hw''⟩ := hw'
      subst hw''
      have HB1 := Go.Lib.hid (HBB.out.trans ((below_regrown wr dq osq).mono HBB.out.size))
      clear cS l1 l2 l3 l4 l5 m1 m2
      generalize Sort.grow (redrawn wr dq) osq = w5 at HB1 ⊢
      by_cases hc : cmpP y.pre p < 0
      · have HL := Go.Lib.hid (HCB.out.1.1 hc)
        go_wp2_with fail
        go_roundw
        case rel =>
          refine ⟨md + 1, hi, by first | rfl | go_num, rfl, by have := HMD.out; omega, hin, HB1.out, fun t ht htl => ?_, I2.out⟩
          exact lbP_iff HO.out (by omega) hm (by rw [Y.out]; exact HL.out)
        case measure => have := HMD.out; simp [intOf]; omega
      · have HL := Go.Lib.hid (show prefOrd y.pre p = false by rw [Bool.eq_false_iff]; exact fun e => hc (HCB.out.1.2 e))
        go_wp2_with fail
        go_roundw
        case rel =>
          refine ⟨lo, md, rfl, by first | rfl | go_num, by have := HMD.out; omega, by have := HMD.out; omega, HB1.out, I1.out, fun t ht htl => ?_⟩
          rw [Bool.eq_false_iff]
          intro e
          have := lbP_iff HO.out htl ht e
          rw [Y.out, HL.out] at this
          cases this
        case measure => have := HMD.out; simp [intOf]; omega
    · obtain rfl : lo = hi := by omega
      have hlb : lbP xs p = lo := tw_eq _ xs lo hin I1.out (fun h => I2.out lo h (Nat.le_refl _))
      have HLB := Go.Lib.hid hlb
      clear hlb
      by_cases hn : lo < xs.length
      · obtain ⟨b, off, rfl, hb⟩ := H.out.at_ hn
        obtain ⟨vh, f1, f2, f3, f4, f5, hs, _⟩ := (H.out.below HBB.out).route hn
        have hhas := hasP_iff HO.out p
        simp only [HLB.out] at hhas
        obtain ⟨y, hy⟩ : ∃ y, xs[lo] = y := ⟨_, rfl⟩
        rw [hy] at f1 f2 f3 f4 hs
        have hyb := HG.out _ (List.getElem_mem hn)
        rw [hy] at hyb
        have hcb := cmpP_bounds hyb HPB.out
        have HH := Go.Lib.hid (show hasP xs p = (cmpP y.pre p == 0) by
          rw [Bool.eq_iff_iff, hhas, beq_iff_eq, hcb.2.1, ← hy]; exact ⟨fun ⟨_, h⟩ => h, fun h => ⟨hn, h⟩⟩)
        have HHS := Go.Lib.hid hs
        have cS : ∀ d os, Calls Tryz.prog 57 #[.agg #[.int .i64 y.pre.addr, .int .i64 y.pre.bits, .bool y.here, .int .i64 y.cost, vh], .agg #[.int .i64 p.addr, .int .i64 p.bits]] (Sort.grow (redrawn wr d) os) fun e w'' => e = .returned (.int .i64 (cmpP y.pre p)) ∧ ∃ q : Regrown, w'' = Sort.grow (redrawn wr q.d) q.os := fun d os => Calls.regrown_of (cmpCP_any y p vh _ (HHS.out.below (below_regrown wr d os)))
        have l1 := cell_regrown f1
        have l2 := cell_regrown f2
        have l3 := cell_regrown f3
        have l4 := cell_regrown f4
        have l5 := cell_regrown f5
        have m1 := cell_regrown p0
        have m2 := cell_regrown p1
        have hni : (lo : Int) < (xs.length : Int) := by omega
        clear hhas hcb hy hyb hs f1 f2 f3 f4 f5 p0 p1
        go_wp2_with fail
        refine wp_region_quiet_below (by kernel_rfl) (by kernel_rfl) ?_
        repeat (quiet_step (fail))
        quiet_step (exact cS _ _)
        repeat (quiet_step (fail))
        refine wpQuiet_nil ?_
        intro _ hw'
        obtain ⟨⟨dq, osq⟩, hw''⟩ := hw'
        subst hw''
        have HB1 := Go.Lib.hid (HBB.out.trans ((below_regrown wr dq osq).mono HBB.out.size))
        clear cS l1 l2 l3 l4 l5 m1 m2
        go_wp2_with fail
        go_ret2
        refine ⟨?_, HAL.out.trans (HB1.out.mono HAL.out.size)⟩
        rw [HLB.out, HH.out]
        rfl
      · have hni : ¬ (lo : Int) < (xs.length : Int) := by omega
        have HH := Go.Lib.hid (show hasP xs p = false by
          rw [Bool.eq_false_iff]
          intro e
          obtain ⟨h1, _⟩ := (hasP_iff HO.out p).1 e
          rw [HLB.out] at h1
          exact hn h1)
        go_wp2_with fail
        go_quiet (fail)
        go_wp2_with fail
        go_ret2
        refine ⟨by rw [HLB.out, HH.out]; rfl, HAL.out.trans ((bDrewN HBB.out _).mono HAL.out.size)⟩
end Go.Proofs.YtcbkimbeljhbhaaGreatDoor
