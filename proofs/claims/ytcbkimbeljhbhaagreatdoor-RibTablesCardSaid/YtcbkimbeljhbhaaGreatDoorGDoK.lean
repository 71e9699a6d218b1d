/-
  What may be told is short: lengths of the texts of links and prefixes. Plain lemmas, no program in sight.
  Showing prefixes as text: ShowPrefixes and PrefixesText, walked.
  What a store tells of a node's links: placeOf, adjIn, sideOf, LinkCost, walked.
-/
import Derived.Test.YtcbkimbeljhbhaaGreatDoorGTxB
import Derived.Test.YtcbkimbeljhbhaaGreatDoorGDoB
import Derived.Test.YtcbkimbeljhbhaaGreatDoorGDoF
import Derived.Test.YtcbkimbeljhbhaaGreatDoorGSrt
import Derived.Test.YtcbkimbeljhbhaaGreatDoorGEq
set_option linter.unusedVariables false
set_option linter.unusedSimpArgs false
namespace Go.Proofs.YtcbkimbeljhbhaaGreatDoor
open Go Go.RowKit

section
variable {α : Type} {bad : α → Int} {ord : α → α → Bool}
theorem sc_zero (l : List α) : ∀ (n k : Nat), seqChk bad ord l n k = 0 → k + n = l.length → ∀ i, k ≤ i → (h : i < l.length) → bad l[i] = 0 ∧ (∀ j, (hj : j + 1 = i) → ord (l[j]'(by omega)) l[i] = true)
  | 0, k, _, hk, i, hi, h => by omega
  | n + 1, k, hs, hk, i, hi, h => by
    have hlt : k < l.length := by omega
    have hb : bad l[k] = 0 := by
      rcases Classical.em (bad l[k] = 0) with e | e
      · exact e
      · have := sc_bad (bad := bad) (ord := ord) l k hlt e
        rw [show l.length - k = n + 1 by omega, hs] at this
        exact absurd this.symm e
    have hnext : seqChk bad ord l n (k + 1) = 0 ∧ ∀ j, (hj : j + 1 = k) → ord (l[j]'(by omega)) l[k] = true := by
      rcases Nat.eq_zero_or_pos k with h0 | h0
      · subst h0
        have := sc_first (bad := bad) (ord := ord) l hlt hb
        rw [show l.length - 0 = n + 1 by omega, hs, show l.length - 1 = n by omega] at this
        exact ⟨this.symm, fun j hj => by omega⟩
      · obtain ⟨m, rfl⟩ : ∃ m, k = m + 1 := ⟨k - 1, by omega⟩
        rcases ho : ord l[m] l[m + 1] with _ | _
        · have := sc_order (bad := bad) (ord := ord) l m hlt hb ho
          rw [show l.length - (m + 1) = n + 1 by omega, hs] at this
          cases this
        · have := sc_next (bad := bad) (ord := ord) l m hlt hb ho
          rw [show l.length - (m + 1) = n + 1 by omega, hs, show l.length - (m + 1 + 1) = n by omega] at this
          refine ⟨this.symm, fun j hj => ?_⟩
          obtain rfl : j = m := by omega
          exact ho
    rcases Nat.lt_or_ge k i with hki | hki
    · exact sc_zero l n (k + 1) hnext.1 (by omega) i hki h
    · obtain rfl : i = k := by omega
      exact ⟨hb, hnext.2⟩
end
theorem sides_all {l : List Side} (h : chkSides l = 0) : ∀ i, (hi : i < l.length) → 0 ≤ l[i].node ∧ l[i].node ≤ 11 ∧ 1 ≤ l[i].cost ∧ l[i].cost ≤ 1000 := by
  intro i hi
  have h1 := (sc_zero l (l.length - 0) 0 h (by omega) i (Nat.zero_le _) hi).1
  unfold sideBad at h1
  split at h1
  · assumption
  · cases h1
theorem sides_ord {l : List Side} (h : chkSides l = 0) : ∀ i, (hi : i + 1 < l.length) → l[i].node < l[i + 1].node := by
  intro i hi
  have h1 := (sc_zero l (l.length - 0) 0 h (by omega) (i + 1) (Nat.zero_le _) hi).2 i rfl
  unfold sideOrd at h1
  exact of_decide_eq_true h1
theorem sides_node {l : List Side} (h : chkSides l = 0) : ∀ (i : Nat) (hi : i < l.length), (i : Int) ≤ l[i].node
  | 0, hi => (sides_all h 0 hi).1
  | i + 1, hi => by
    have h1 := sides_node h i (by omega)
    have h2 := sides_ord h i hi
    omega
theorem sides_len {l : List Side} (h : chkSides l = 0) : l.length ≤ 12 := by
  rcases Nat.lt_or_ge 12 l.length with h1 | h1
  · have h2 := sides_node h 12 h1
    have h3 := (sides_all h 12 h1).2.1
    omega
  · exact h1
theorem prefs_len {l : List Prefix} (h : chkPrefs l = 0) : l.length ≤ 6 := by
  unfold chkPrefs at h
  split at h
  · cases h
  · omega
theorem prefs_all {l : List Prefix} (h : chkPrefs l = 0) : ∀ i, (hi : i < l.length) → 0 ≤ l[i].bits ∧ l[i].bits ≤ 8 ∧ 0 ≤ l[i].addr ∧ l[i].addr ≤ 255 := by
  intro i hi
  have h0 := prefs_len h
  unfold chkPrefs at h
  rw [if_neg (by omega)] at h
  have h1 := (sc_zero l (l.length - 0) 0 h (by omega) i (Nat.zero_le _) hi).1
  unfold prefBad at h1
  split at h1
  · assumption
  · cases h1

theorem join_len (m : Nat) : ∀ l : List (List UInt8), (∀ x ∈ l, x.length ≤ m) → (Lib.join l [44]).length ≤ l.length * (m + 1)
  | [], _ => by simp [Lib.join_nil]
  | [x], h => by rw [Lib.join_one]; have := h x (by simp); simp; omega
  | x :: y :: l, h => by
    have e : Lib.join (x :: y :: l) [44] = x ++ 44 :: Lib.join (y :: l) [44] := by simp [Lib.join, List.intercalate]
    have h1 := join_len m (y :: l) (fun z hz => h z (by simp [hz]))
    have h2 := h x (by simp)
    rw [e, List.length_append, List.length_cons, List.length_cons, Nat.succ_mul]
    omega
theorem pair_len (b : UInt8) (x y : Int) (hx : 0 ≤ x) (hx2 : x ≤ 1000) (hy : 0 ≤ y) (hy2 : y ≤ 1000) : (pairT b x y).length ≤ 20 := by
  unfold pairT
  have h1 := dec_len 4 x.toNat (by omega)
  have h2 := dec_len 4 y.toNat (by omega)
  simp; omega
theorem itoa_pos {n : Int} (h : 0 ≤ n) : Lib.itoa n = Lib.decDigits n.toNat := by
  obtain ⟨m, rfl⟩ := Int.eq_ofNat_of_zero_le h
  rw [itoa_nat]; rfl
/-- a pair's text, put together -/
theorem pair_cat (b : UInt8) (x y : Int) : bOf (Lib.decDigits x.toNat) ++ ⟨#[b]⟩ ++ bOf (Lib.decDigits y.toNat) = bOf (pairT b x y) := by
  unfold pairT bOf
  rw [Go.ByteArray.mk_append_mk (Lib.decDigits x.toNat) [b], Go.ByteArray.mk_append_mk]
  simp
/-- the text of the first k -/
def adjTo (l : List (List UInt8)) (k : Nat) : List UInt8 := Lib.join (l.take k) [44]
theorem adjTo_first {l : List (List UInt8)} (h : 0 < l.length) : adjTo l 1 = l[0] := by
  unfold adjTo
  rw [List.take_succ_eq_append_getElem h]; simp [Lib.join_one]
theorem adjTo_next {l : List (List UInt8)} {k : Nat} (hk : 0 < k) (h : k < l.length) : adjTo l (k + 1) = adjTo l k ++ [44] ++ l[k] := by
  unfold adjTo
  rw [List.take_succ_eq_append_getElem h, join_snoc, if_neg (by intro e; have := congrArg List.length e; rw [List.length_take, List.length_nil] at this; omega)]
theorem adjTo_all (l : List (List UInt8)) {k : Nat} (h : l.length ≤ k) : adjTo l k = Lib.join l [44] := by
  unfold adjTo; rw [List.take_of_length_le h]
end Go.Proofs.YtcbkimbeljhbhaaGreatDoor

namespace Go.Proofs.YtcbkimbeljhbhaaGreatDoor
open Go Go.RowKit

def TPref (xs : List Prefix) (e : Ending) : Prop := e = .returned (.tuple #[.string (if chkPrefs xs = 0 then bOf (prefsT xs) else ⟨#[]⟩), .int .i64 (chkPrefs xs)])
theorem tp_good {xs : List Prefix} (h : chkPrefs xs = 0) : TPref xs (.returned (.tuple #[.string (bOf (prefsT xs)), .int .i64 0])) := by unfold TPref; rw [if_pos h, h]
theorem tp_bad {xs : List Prefix} (h : chkPrefs xs ≠ 0) : TPref xs (.returned (.tuple #[.string ⟨#[]⟩, .int .i64 (chkPrefs xs)])) := by unfold TPref; rw [if_neg h]

/-- strings.Join of a row of texts -/
theorem join_any (v : Value) (l : List (List UInt8)) (w : World) (h : Sl strR w v (l.map bOf)) (hl : l.length ≤ 100) (hx : ∀ x ∈ l, x.length ≤ 20) :
    Calls Tryz.prog 47 #[v, .string ⟨#[44]⟩] w fun e w' => e = .returned (.string (bOf (Lib.join l [44]))) ∧ Below w.heap.size w w' := by
  obtain ⟨A, c, hv, h1, h2, h3⟩ := h
  subst hv
  rcases Nat.eq_zero_or_pos l.length with h0 | h0
  · have : l = [] := List.eq_nil_of_length_eq_zero h0
    subst this
    refine (Tryz.strings_Join_none A c ⟨#[44]⟩ w).mono ?_
    rintro e w' ⟨rfl, rfl⟩
    exact ⟨rfl, Below.refl _ _⟩
  · obtain ⟨b, off, cs, e1, _, e3, _, _⟩ := h3 0 (bOf l[0]) (by rw [List.getElem?_map, List.getElem?_eq_getElem h0]; rfl)
    subst e1
    have hm : (l.map bOf).map (·.data.toList) = l := by rw [List.map_map]; conv => rhs; rw [← List.map_id l]
                                                        apply List.map_congr_left; intro x _; exact bOf_list x
    have hj := join_len 20 l hx
    have hc := Tryz.strings_Join b off c (l.map bOf) ⟨#[44]⟩ w (fun j x hx => by
        obtain ⟨b', off', cs', e1', _, _, e4', e5'⟩ := h3 j x hx
        injection e1' with e1'
        injection e1' with e6 e7
        subst e6 e7
        obtain ⟨rfl, _⟩ := e4'
        have := e5' 0 _ rfl
        simpa [strR, flatR] using this) e3 (by rw [List.length_map]; omega) h1 (by rw [hm]; show (Lib.join l [44]).length ≤ _; omega)
    rw [hm] at hc
    exact hc

/-- a pair's text, put together in a loop -/
theorem pair_app (S : List UInt8) (b : UInt8) (x y : Int) : bOf S ++ bOf (Lib.decDigits x.toNat) ++ ⟨#[b]⟩ ++ bOf (Lib.decDigits y.toNat) = bOf (S ++ pairT b x y) := by
  have e : (⟨#[b]⟩ : ByteArray) = bOf [b] := rfl
  rw [e, bOf_app, bOf_app, bOf_app]
  unfold pairT
  simp
theorem after_app2 {w2 w4 : World} {u v2 : Value} {n : Nat} {o : Obj} (hn : n < w2.heap.size) (hg : GrowTo (w2.alloc o) u w4 v2) (hu : ∀ k, u.ownBlock = some k → k < n) : ∀ i, w4.cell? ⟨n, i, none⟩ = w2.cell? ⟨n, i, none⟩ := by
  intro i
  apply World.cell?_of_block
  show w4.heap[n]? = w2.heap[n]?
  rw [hg.grown.block n (by simp; omega) (fun e => by have := hu n e.symm; omega)]
  exact Below.heap_alloc _ _ _ hn


set_option maxRecDepth 50000 in
set_option maxHeartbeats 2000000 in
theorem showPrefs_any (v : Value) (xs : List Prefix) (w : World) (h : Sl prefR w v xs) (hE : EnvT w) :
    Calls Tryz.prog 35 #[v] w fun e w' => TPref xs e ∧ Below w.heap.size w w' := by
  have hl := h.len_le
  obtain ⟨A, c, rfl⟩ := h.form
  have H := Go.Lib.hid h
  have HE := Go.Lib.hid hE
  have HCK := Go.Lib.hid (checkPrefs_any _ xs w h)
  clear h hE
  by_cases hc : chkPrefs xs = 0
  · have HC := Go.Lib.hid hc
    have hn6 := prefs_len hc
    have HALL := Go.Lib.hid (prefs_all hc)
    rw [hc] at HCK
    clear hc
    go_enter Tryz.func35, Tryz.ntmps35
    go_wp2_with (go_at_call 49; refine HCK.out.mono ?_; rintro e w1 ⟨rfl, hb1⟩; have HB1 := Go.Lib.hid hb1; clear hb1)
    have HV1 := Go.Lib.hid (H.out.below HB1.out)
    go_loopw [5, 15] (fun o i wr => ∃ k : Nat, k ≤ xs.length ∧ i = .int .i64 k ∧ OwR strR 9 w1.heap.size wr o (((xs.take k).map prefT).map bOf) ∧ Below w1.heap.size w1 wr) (fun _ i _ => xs.length - (intOf i).toNat)
    case atStart => exact ⟨0, Nat.zero_le _, rfl, OwR.nil _ _ (Nat.le_refl _), Below.refl _ _⟩
    case round =>
      obtain ⟨k, hk, rfl, ho, hB⟩ := hrel
      have HO := Go.Lib.hid ho
      have HB := Go.Lib.hid hB
      clear ho hB
      by_cases hlt : k < xs.length
      · obtain ⟨b, off, rfl, hb⟩ := HV1.out.at_ hlt
        obtain ⟨f1, f2, i1, i2⟩ := (HV1.out.below HB.out).pref hlt
        obtain ⟨a1, a2, a3, a4⟩ := HALL.out k hlt
        have HT := Go.Lib.hid (show prefT xs[k] = pairT 47 xs[k].addr xs[k].bits from rfl)
        have hsuc : ((xs.take (k + 1)).map prefT).map bOf = ((xs.take k).map prefT).map bOf ++ [bOf (prefT xs[k])] := by
          rw [List.take_succ_eq_append_getElem hlt, List.map_append, List.map_append]; rfl
        rw [HT.out] at hsuc
        have HSUC := Go.Lib.hid hsuc
        have hn1 : (((xs.take k).map prefT).map bOf).length + 1 ≤ 1000000000000 := by rw [List.length_map, List.length_map, List.length_take]; omega
        have HN1 := Go.Lib.hid hn1
        have hpl := pair_len 47 xs[k].addr xs[k].bits a3 (by omega) a1 (by omega)
        have ea := itoa_pos a3
        have eb := itoa_pos a1
        have la := dec_len 4 xs[k].addr.toNat (by omega)
        have lb := dec_len 4 xs[k].bits.toNat (by omega)
        generalize xs[k].addr = p at *
        generalize xs[k].bits = q at *
        have hpc := pair_cat 47 p q
        have HIA := Go.Lib.hid (fun w h => itoa_any p w i1 h)
        have HIB := Go.Lib.hid (fun w h => itoa_any q w i2 h)
        rw [ea] at HIA
        rw [eb] at HIB
        have HPL := Go.Lib.hid hpl
        have za : (bOf (Lib.decDigits p.toNat)).size ≤ 5 := by rw [bOf_size]; exact la
        have zb : (bOf (Lib.decDigits q.toNat)).size ≤ 5 := by rw [bOf_size]; exact lb
        have r1 : ∀ w, (Op.stringOp .add (bOf (Lib.decDigits p.toNat)) ⟨#[47]⟩).run Tryz.prog w = .ok (.string (bOf (Lib.decDigits p.toNat) ++ ⟨#[47]⟩)) w := fun w => run_string_add_sum w _ _ (by show _ + 1 ≤ _; omega)
        have r2 : ∀ w, (Op.stringOp .add (bOf (Lib.decDigits p.toNat) ++ ⟨#[47]⟩) (bOf (Lib.decDigits q.toNat))).run Tryz.prog w = .ok (.string (bOf (pairT 47 p q))) w := fun w => by
          rw [run_string_add_sum w _ _ (by rw [ByteArray.size_append]; show _ + 1 + _ ≤ _; omega), hpc]
        have hz1 : w1.heap.size ≤ wr.heap.size := HB.out.size
        have hwf : (bOf (pairT 47 p q)).size ≤ maxLen := by rw [bOf_size]; unfold maxLen; omega
        have HWF := Go.Lib.hid hwf
        have HOWN := Go.Lib.hid (fun k (h : Value.ownBlock u5 = some k) => (HO.out.base_le k h).2)
        clear ea eb la lb hpc hpl hsuc hn1 a1 a2 a3 a4 i1 i2 hwf
        have hcl : ∀ w', Below (wr.heap.size + 1) (wr.alloc (.cells #[.int .i64 p, .int .i64 q] 62)) w' → w'.cell? ⟨wr.heap.size, 0, none⟩ = some (.int .i64 p) ∧ w'.cell? ⟨wr.heap.size, 1, none⟩ = some (.int .i64 q) ∧ EnvT w' ∧ Below w1.heap.size w1 w' ∧ OwR strR 9 w1.heap.size w' u5 (((xs.take k).map prefT).map bOf) ∧ wr.heap.size < w'.heap.size := by
          intro w' hb'
          have hq : Below wr.heap.size wr w' := ((Below.refl _ _).alloc (Nat.le_refl _) _).trans (hb'.mono (by omega))
          refine ⟨?_, ?_, (HE.out.below HB1.out).below (HB.out.trans (hq.mono hz1)), HB.out.trans (hq.mono hz1), HO.out.keep hq, by have := hb'.size; simp at this; omega⟩
          · rw [hb'.cell (p := ⟨wr.heap.size, 0, none⟩) (by simp), World.cell?_alloc_at _ _ _ _ rfl]; rfl
          · rw [hb'.cell (p := ⟨wr.heap.size, 1, none⟩) (by simp), World.cell?_alloc_at _ _ _ _ rfl]; rfl
        have HCL := Go.Lib.hid hcl
        have HB0 := Go.Lib.hid (Below.refl (wr.heap.size + 1) (wr.alloc (.cells #[.int .i64 p, .int .i64 q] 62))).drew
        clear hcl
        go_wp2_with fail
        go_region_held3 (fun w' => w'.cell? ⟨wr.heap.size, 0, none⟩ = some (.int .i64 p) ∧ w'.cell? ⟨wr.heap.size, 1, none⟩ = some (.int .i64 q)) (first | go_keep | exact ⟨k1, k2⟩)
          (first
            | (go_at_call 36; refine (HIA.out _ (HCL.out _ (by first | exact HBB.out | exact HB0.out)).2.2.1).mono ?_; rintro e w2 ⟨rfl, hb2⟩; have HBB := Go.Lib.hid (Below.trans (by first | exact HBB.out | exact HB0.out) (hb2.mono (HCL.out _ (by first | exact HBB.out | exact HB0.out)).2.2.2.2.2)); clear hb2; obtain ⟨k1, k2, _⟩ := HCL.out _ HBB.out)
            | (go_at_call 36; refine (HIB.out _ (HCL.out _ (by first | exact HBB.out | exact HB0.out)).2.2.1).mono ?_; rintro e w2 ⟨rfl, hb2⟩; have HBB := Go.Lib.hid (Below.trans (by first | exact HBB.out | exact HB0.out) (hb2.mono (HCL.out _ (by first | exact HBB.out | exact HB0.out)).2.2.2.2.2)); clear hb2; obtain ⟨k1, k2, _⟩ := HCL.out _ HBB.out)
            | (refine step_gen (base := w1.heap.size) elt_strA (by rfl) (.tmp 19) (.tmp 28) (by rfl) (ow_alloc (HCL.out _ HBB.out).2.2.2.2.1 _) (one_flat (r := strR) (cs := [.string (bOf (pairT 47 p q))]) (x := bOf (pairT 47 p q)) rfl ⟨rfl, HWF.out⟩) (fun _ _ h => h) (by rfl) (by rfl) HN1.out (by decide) ?_; intro v2 w4 ho2 hg2; have HG2 := Go.Lib.hid hg2; have k1 := (after_app2 (HCL.out _ HBB.out).2.2.2.2.2 hg2 HOWN.out 0).trans (HCL.out _ HBB.out).1; have k2 := (after_app2 (HCL.out _ HBB.out).2.2.2.2.2 hg2 HOWN.out 1).trans (HCL.out _ HBB.out).2.1; clear hg2))
        all_goals
          have hb4 := (ow_alloc (HCL.out _ HBB.out).2.2.2.2.1 (.cells #[.string (bOf (pairT 47 p q))] 9)).below_grown ((HCL.out _ HBB.out).2.2.2.1.alloc (HCL.out _ HBB.out).2.2.2.1.size (.cells #[.string (bOf (pairT 47 p q))] 9)) HG2.out.grown
          have HB4 := Go.Lib.hid hb4
          have HO2 := Go.Lib.hid ho2
          clear hb4 ho2 k1 k2
          go_wp2_with fail
          go_roundw
          case rel => exact ⟨k + 1, by omega, by go_num, by rw [HSUC.out]; exact HO2.out, HB4.out⟩
          case measure => simp [intOf]; omega
      · have hte : xs.take k = xs := List.take_of_length_le (by omega)
        rw [hte] at HO
        have hj := fun w h => join_any u5 (xs.map prefT) w h (by rw [List.length_map]; omega) (fun x hx => by
          obtain ⟨p, hp, rfl⟩ := List.mem_map.1 hx
          obtain ⟨i, hi, rfl⟩ := List.getElem_of_mem hp
          obtain ⟨a1, a2, a3, a4⟩ := HALL.out i hi
          exact pair_len 47 _ _ a3 (by omega) a1 (by omega))
        have HJ := Go.Lib.hid hj
        clear hj hte
        go_wp2_with (go_at_call 47; refine (HJ.out _ (HO.out.sl (by decide))).mono ?_; rintro e w3 ⟨rfl, hb3⟩)
        go_ret2
        exact ⟨tp_good HC.out, HB1.out.trans ((HB.out.trans (hb3.mono HB.out.size)).mono HB1.out.size)⟩
  · have hcb : (chkPrefs xs == 0) = false := by rw [beq_eq_false_iff_ne]; exact hc
    have HC := Go.Lib.hid hc
    clear hc
    go_enter Tryz.func35, Tryz.ntmps35
    go_wp2_with (go_at_call 49; refine HCK.out.mono ?_; rintro e w1 ⟨rfl, hb1⟩)
    go_ret2
    exact ⟨tp_bad HC.out, hb1⟩

theorem bOf_sep (S : List UInt8) (c : UInt8) : bOf S ++ ⟨#[c]⟩ = bOf (S ++ [c]) := bOf_app S [c]
theorem add_run (S T : List UInt8) (h : S.length + T.length ≤ 9223372036854775807) (w : World) : (Op.stringOp .add (bOf S) (bOf T)).run Tryz.prog w = .ok (.string (bOf (S ++ T))) w := by
  rw [run_string_add_sum w _ _ (by rw [bOf_size, bOf_size]; exact h), bOf_app]
theorem add_run1 (S : List UInt8) (c : UInt8) (h : S.length + 1 ≤ 9223372036854775807) (w : World) : (Op.stringOp .add (bOf S) ⟨#[c]⟩).run Tryz.prog w = .ok (.string (bOf (S ++ [c]))) w := add_run S [c] h w
theorem dec_int {n : Int} (h0 : 0 ≤ n) (h1 : n < 1000000000000) (w : World) : Calls Tryz.prog 70 #[.int .i64 n] w fun e w' => e = .returned (.string (bOf (Lib.decDigits n.toNat))) ∧ Below w.heap.size w w' := by
  obtain ⟨m, rfl⟩ := Int.eq_ofNat_of_zero_le h0
  exact dec_any m w (by omega)
theorem adjTo_len {l : List (List UInt8)} (h : ∀ x ∈ l, x.length ≤ 20) (hl : l.length ≤ 20) (k : Nat) : (adjTo l k).length ≤ 420 := by
  unfold adjTo
  have h1 := join_len 20 (l.take k) (fun x hx => h x (List.mem_of_mem_take hx))
  have h2 : (l.take k).length ≤ 20 := by rw [List.length_take]; omega
  have h3 : (l.take k).length * (20 + 1) ≤ 20 * 21 := Nat.mul_le_mul h2 (Nat.le_refl _)
  omega


end Go.Proofs.YtcbkimbeljhbhaaGreatDoor

namespace Go.Proofs.YtcbkimbeljhbhaaGreatDoor
open Go Go.RowKit

theorem place_hitA {xs : List Entry} {k : ByteArray} {p : Nat} (hp : p < xs.length) (h : ∀ j, (h : j < xs.length) → j < p → xs[j].key ≠ k) (he : xs[p].key = k) : placeE xs k = p := by
  unfold placeE
  have : (xs.findIdx? fun e => decide (e.key = k)) = some p := by
    rw [List.findIdx?_eq_some_iff_getElem]
    exact ⟨hp, decide_eq_true he, fun j hj => by have := h j (by omega) hj; simpa using this⟩
  rw [this]
theorem place_missA {xs : List Entry} {k : ByteArray} (h : ∀ j, (h : j < xs.length) → xs[j].key ≠ k) : placeE xs k = -1 := by
  refine placeE_none ?_
  unfold hasE
  rw [List.any_eq_false]
  intro e he
  obtain ⟨j, hj, rfl⟩ := List.getElem_of_mem he
  simpa using h j hj

set_option maxHeartbeats 1000000 in
theorem place_anyA (v : Value) (xs : List Entry) (k : ByteArray) (w : World) (h : Sl entR w v xs) :
    Calls Tryz.prog 69 #[v, .string k] w fun e w' => e = .returned (.int .i64 (placeE xs k)) ∧ w = w' := by
  have hl := h.len_le
  obtain ⟨A, c, rfl⟩ := h.form
  have H := Go.Lib.hid h
  clear h
  go_enter Tryz.func69, Tryz.ntmps69
  go_wp2_with fail
  go_loop [5] (fun i => ∃ p : Nat, p ≤ xs.length ∧ i = .int .i64 p ∧ ∀ j, (h : j < xs.length) → j < p → xs[j].key ≠ k) (fun i => xs.length - (intOf i).toNat)
  case atStart => exact ⟨0, Nat.zero_le _, rfl, fun j _ h => absurd h (by omega)⟩
  case round =>
    obtain ⟨p, hp, rfl, hall⟩ := hrel
    have HA := Go.Lib.hid hall
    clear hall
    by_cases hlt : p < xs.length
    · obtain ⟨b, off, rfl, hb⟩ := H.out.at_ hlt
      obtain ⟨f1, _, _, _, _⟩ := H.out.ent hlt
      go_wp2_with fail
      · go_ret
        have he : xs[p].key = k := by
          have := ‹(xs[p].key.toList == k.toList) = true›
          exact toList_inj (eq_of_beq this)
        exact ⟨ei (place_hitA hlt HA.out he).symm, rfl⟩
      · go_round
        case rel =>
          refine ⟨p + 1, by omega, by go_num, fun j hj hjp => ?_⟩
          by_cases e : j = p
          · subst e
            intro he
            have := ‹(xs[j].key.toList == k.toList) = false›
            rw [he] at this
            simp at this
          · exact HA.out j hj (by omega)
        case measure => simp [intOf]; omega
    · go_wp2_with fail
      go_ret
      exact ⟨ei (place_missA fun j hj => HA.out j hj (by omega)).symm, rfl⟩


def keyA (n : Nat) : ByteArray := bOf (97 :: 58 :: Lib.decDigits n)
theorem key_run (n : Nat) (h : (Lib.decDigits n).length ≤ 20) (w : World) : (Op.stringOp .add ⟨#[97, 58]⟩ (bOf (Lib.decDigits n))).run Tryz.prog w = .ok (.string (keyA n)) w := add_run [97, 58] (Lib.decDigits n) (by show 2 + _ ≤ _; omega) w
def adjAt (l : List Entry) (n : Nat) : Bool × List Side := match findE l (keyA n) with
  | none => (false, [])
  | some e => ((readAdj e.value.data.toList).1, (readAdj e.value.data.toList).2.1)
theorem readAdj_chk (s : List UInt8) : chkSides (readAdj s).2.1 = 0 := by
  unfold readAdj
  split
  · rfl
  · split
    · assumption
    · rfl
theorem adjAt_chk (l : List Entry) (n : Nat) : chkSides (adjAt l n).2 = 0 := by
  unfold adjAt
  split
  · rfl
  · exact readAdj_chk _
theorem adjAt_none {l : List Entry} {n : Nat} (h : placeE l (keyA n) = -1) : adjAt l n = (false, []) := by
  unfold adjAt
  have : findE l (keyA n) = none := by
    unfold placeE at h
    unfold findE
    rw [List.find?_eq_none]
    rcases hf : (l.findIdx? fun e => decide (e.key = keyA n)) with _ | i
    · rw [List.findIdx?_eq_none_iff] at hf
      intro x hx
      have := hf x hx
      simpa using this
    · rw [hf] at h; simp only at h; omega
  rw [this]
theorem adjAt_some {l : List Entry} {n i : Nat} (h : placeE l (keyA n) = i) : ∃ hi : i < l.length, adjAt l n = ((readAdj l[i].value.data.toList).1, (readAdj l[i].value.data.toList).2.1) := by
  unfold placeE at h
  rcases hf : (l.findIdx? fun e => decide (e.key = keyA n)) with _ | j
  · rw [hf] at h; simp only at h; omega
  · rw [hf] at h; simp only at h
    obtain rfl : j = i := by omega
    obtain ⟨hj, h1, h2⟩ := List.findIdx?_eq_some_iff_getElem.1 hf
    refine ⟨hj, ?_⟩
    unfold adjAt
    have : findE l (keyA n) = some l[j] := by
      unfold findE
      rw [List.find?_eq_some_iff_getElem]
      exact ⟨h1, j, hj, rfl, fun k hk => by simpa using h2 k hk⟩
    rw [this]
theorem placeE_ge (l : List Entry) (k : ByteArray) : -1 ≤ placeE l k := by
  unfold placeE
  split <;> omega
def sideC (l : List Side) (tgt : Int) : Int := match l.find? fun x => decide (x.node = tgt) with
  | some x => x.cost
  | none => 0
theorem sideC_hit {xs : List Side} {tgt : Int} {p : Nat} (hp : p < xs.length) (h : ∀ j, (h : j < xs.length) → j < p → xs[j].node ≠ tgt) (he : xs[p].node = tgt) : sideC xs tgt = xs[p].cost := by
  unfold sideC
  have : (xs.find? fun x => decide (x.node = tgt)) = some xs[p] := by
    rw [List.find?_eq_some_iff_getElem]
    exact ⟨decide_eq_true he, p, hp, rfl, fun k hk => by have := h k (by omega) hk; simpa using this⟩
  rw [this]
theorem sideC_miss {xs : List Side} {tgt : Int} (h : ∀ j, (h : j < xs.length) → xs[j].node ≠ tgt) : sideC xs tgt = 0 := by
  unfold sideC
  have : (xs.find? fun x => decide (x.node = tgt)) = none := by
    rw [List.find?_eq_none]
    intro x hx
    obtain ⟨j, hj, rfl⟩ := List.getElem_of_mem hx
    simpa using h j hj
  rw [this]
theorem sideC_le {xs : List Side} (h : chkSides xs = 0) (tgt : Int) : 0 ≤ sideC xs tgt ∧ sideC xs tgt ≤ 1000 := by
  unfold sideC
  split
  · rename_i x hx
    obtain ⟨i, hi, rfl⟩ := List.getElem_of_mem (List.mem_of_find?_eq_some hx)
    obtain ⟨_, _, h3, h4⟩ := sides_all h i hi
    omega
  · omega
def linkC (l : List Entry) (a b : Nat) : Nat := if a = b ∨ sideC (adjAt l b).2 a = 0 then 0 else (sideC (adjAt l a).2 b).toNat
theorem linkC_le (l : List Entry) (a b : Nat) : linkC l a b ≤ 1000 := by
  unfold linkC
  split
  · omega
  · have := sideC_le (adjAt_chk l a) b; omega

set_option maxRecDepth 50000 in
set_option maxHeartbeats 1000000 in
theorem sideOf_any (d : Bool) (v : Value) (xs : List Side) (tgt : Int) (w : World) (h : Sl sideR w v xs) :
    Calls Tryz.prog 125 #[.agg #[.bool d, v], .int .i64 tgt] w fun e w' => e = .returned (.int .i64 (sideC xs tgt)) ∧ Below w.heap.size w w' := by
  have hl := h.len_le
  obtain ⟨A, c, rfl⟩ := h.form
  have H := Go.Lib.hid h
  clear h
  go_enter Tryz.func125, Tryz.ntmps125
  go_wp2_with fail
  go_loopw [5] (fun i wr => ∃ p : Nat, p ≤ xs.length ∧ i = .int .i64 p ∧ Below w.heap.size w wr ∧ wr.cell? ⟨w.heap.size, 1, none⟩ = some (.slice A xs.length c) ∧ ∀ j, (h : j < xs.length) → j < p → xs[j].node ≠ tgt) (fun i _ => xs.length - (intOf i).toNat)
  case atStart =>
    refine ⟨0, Nat.zero_le _, rfl, (Below.refl _ _).alloc (Nat.le_refl _) _, ?_, fun j _ h => absurd h (by omega)⟩
    rw [World.cell?_alloc_at _ _ _ _ rfl]; rfl
  case round =>
    obtain ⟨p, hp, rfl, hB, hx, hall⟩ := hrel
    have HA := Go.Lib.hid hall
    have HB := Go.Lib.hid hB
    clear hall
    by_cases hlt : p < xs.length
    · obtain ⟨b, off, rfl, hb⟩ := H.out.at_ hlt
      obtain ⟨f1, f2, _, _⟩ := (H.out.below hB).side hlt
      have hlti : (p : Int) < (xs.length : Int) := by omega
      clear hB
      by_cases he : xs[p].node = tgt
      · have HS := Go.Lib.hid (sideC_hit hlt HA.out he)
        have heb : (xs[p].node == tgt) = true := by rw [beq_iff_eq]; exact he
        clear he
        go_wp2_with fail
        go_ret
        exact ⟨ei HS.out.symm, HB.out⟩
      · have HE := Go.Lib.hid he
        have heb : (xs[p].node == tgt) = false := by rw [beq_eq_false_iff_ne]; exact he
        clear he
        go_wp2_with fail
        go_roundw
        case rel =>
          refine ⟨p + 1, by omega, by go_num, HB.out, hx, fun j hj hjp => ?_⟩
          by_cases e : j = p
          · subst e; exact HE.out
          · exact HA.out j hj (by omega)
        case measure => simp [intOf]; omega
    · clear hB
      go_wp2_with fail
      go_ret
      exact ⟨ei (sideC_miss fun j hj => HA.out j hj (by omega)).symm, HB.out⟩

theorem sl_offS {w : World} {v : Value} {xs : List Side} {A : Nat} (h : Sl sideR w v xs) (hA : ∀ i k x, w.cell? ⟨A, i, none⟩ ≠ some (.int k x)) : SlR sideR w (fun k => k < w.heap.size ∧ k ≠ A) v xs := by
  obtain ⟨a, c, hv, h1, h2, h3⟩ := h
  refine ⟨a, c, hv, h1, h2, fun i x hx => ?_⟩
  obtain ⟨b, off, cs, e1, e2, e3, e4, e5⟩ := h3 i x hx
  refine ⟨b, off, cs, e1, ⟨e2, fun e => ?_⟩, e3, e4, e5⟩
  obtain ⟨rfl, _⟩ := e4
  subst e
  exact hA _ _ _ (e5 0 _ rfl)
theorem no_int {w1 w2 : World} {R : Nat} {d : Bool} (h : ∀ i, w1.cell? ⟨R, i, none⟩ = #[Value.bool d, .slice none 0 0][i]?) (hb : Below w1.heap.size w1 w2) (hR : R < w1.heap.size) (i : Nat) (k : IntKind) (x : Int) : w2.cell? ⟨R, i, none⟩ ≠ some (.int k x) := by
  rw [hb.cell (p := ⟨R, i, none⟩) hR, h i]
  match i with
  | 0 => simp
  | 1 => simp
  | i + 2 => simp

set_option maxRecDepth 50000 in
set_option maxHeartbeats 1000000 in
theorem adjIn_any (v : Value) (xs : List Entry) (n : Nat) (w : World) (h : Sl entR w v xs) (hn : n < 12) (hs : ∀ e ∈ xs, e.value.size < 4294967281) (hE : Env w) :
    Calls Tryz.prog 98 #[v, .int .i64 n] w fun e w' => (∃ v', e = .returned (.agg #[.bool (adjAt xs n).1, v']) ∧ Sl sideR w' v' (adjAt xs n).2) ∧ Below w.heap.size w w' := by
  have hl := h.len_le
  obtain ⟨A, c, rfl⟩ := h.form
  have H := Go.Lib.hid h
  have HE := Go.Lib.hid hE
  have HS := Go.Lib.hid hs
  clear h hE hs
  have RK := key_run n (by have := dec_len 4 n (by omega); omega)
  have HD := Go.Lib.hid (fun w => dec_any n w (by omega))
  have hb0 : Below w.heap.size w (w.alloc (.cells #[.bool false, .slice none 0 0] 53)) := (Below.refl _ _).alloc (Nat.le_refl _) _
  have HB0 := Go.Lib.hid hb0
  have hge := placeE_ge xs (keyA n)
  have HP := Go.Lib.hid (fun w h => place_anyA (.slice A xs.length c) xs (keyA n) w h)
  clear hb0
  by_cases hm : placeE xs (keyA n) = -1
  · have HA := Go.Lib.hid (adjAt_none hm)
    rw [hm] at HP
    clear hm hge
    go_enter Tryz.func98, Tryz.ntmps98
    go_wp2_with (first
      | (go_at_call 70; refine (HD.out _).mono ?_; rintro e w1 ⟨rfl, hb1⟩; obtain ⟨hA1, hN1, hF1, hS1⟩ := pastAlloc hb1; have z0 : w1.cell? ⟨w.heap.size, 0, none⟩ = some (.bool false) := hN1 0; have z1 : w1.cell? ⟨w.heap.size, 1, none⟩ = some (.slice none 0 0) := hN1 1; have z2 := hF1 0; have z3 := hF1 1; have HA1 := Go.Lib.hid hA1; clear hb1 hN1 hF1 hA1)
      | (go_at_call 69; refine (HP.out _ (H.out.below HA1.out)).mono ?_; rintro e w' ⟨rfl, rfl⟩))
    refine bodyPost_ret (v := .agg #[.bool false, .slice none 0 0]) (by simp [results, Tryz.results98, go_sem, z0, z1]) rfl ?_
    exact ⟨⟨_, by rw [HA.out], by rw [HA.out]; exact Sl.nil _ _⟩, (HA1.out.setCell (p := ⟨w.heap.size, 0, none⟩) (Nat.le_refl _) _).setCell (p := ⟨w.heap.size, 1, none⟩) (Nat.le_refl _) _⟩
  · obtain ⟨i, hi⟩ : ∃ i : Nat, placeE xs (keyA n) = i := ⟨(placeE xs (keyA n)).toNat, by omega⟩
    obtain ⟨hil, ha⟩ := adjAt_some hi
    have HA := Go.Lib.hid ha
    have HAO := Go.Lib.hid (fun w h => adjOf_any xs[i].value w (HS.out _ (List.getElem_mem hil)) h)
    rw [hi] at HP
    have hili : (i : Int) < (xs.length : Int) := by omega
    obtain ⟨b, off, rfl, hb⟩ := H.out.at_ hil
    obtain ⟨_, _, _, f3, _⟩ := H.out.ent hil
    have F3 := Go.Lib.hid f3
    clear hm hge hi ha f3
    go_enter Tryz.func98, Tryz.ntmps98
    go_wp2_with (first
      | (go_at_call 70; refine (HD.out _).mono ?_; rintro e w1 ⟨rfl, hb1⟩; obtain ⟨hA1, hN1, hF1, hS1⟩ := pastAlloc hb1; have z0 : w1.cell? ⟨w.heap.size, 0, none⟩ = some (.bool false) := hN1 0; have z1 : w1.cell? ⟨w.heap.size, 1, none⟩ = some (.slice none 0 0) := hN1 1; have z2 := hF1 0; have z3 := hF1 1; have f3 := cell_keep hA1 F3.out; have HA1 := Go.Lib.hid hA1; have BX0 := Go.Lib.hid hN1; have BX := Go.Lib.hid (show Box w1 w.heap.size false (.slice none 0 0) from ⟨z0, z1, hF1, hS1⟩); clear hb1 hN1 hF1 hA1)
      | (go_at_call 69; refine (HP.out _ (H.out.below HA1.out)).mono ?_; rintro e w' ⟨rfl, rfl⟩)
      | (go_at_call 124; refine (HAO.out _ (HE.out.below HA1.out)).mono ?_; rintro e w2 ⟨v2, rfl, hv2, hb2⟩; obtain ⟨A2, c2, rfl⟩ := hv2.form; have HV2 := Go.Lib.hid (hv2.below ((Below.refl w2.heap.size w2).alloc (Nat.le_refl _) (.cells #[.bool (readAdj xs[i].value.data.toList).1, .slice A2 (readAdj xs[i].value.data.toList).2.1.length c2] 53))); have hb3 := hb2.trans ((Below.refl w2.heap.size w2).alloc (Nat.le_refl _) (.cells #[.bool (readAdj xs[i].value.data.toList).1, .slice A2 (readAdj xs[i].value.data.toList).2.1.length c2] 53) |>.mono hb2.size); have HNI := Go.Lib.hid (fun i k x => no_int BX0.out hb3 hS1 i k x); obtain ⟨y0, y1, y2, y3⟩ := BX.out.below hb3; have y4 := y2 0; have y5 := y2 1; have HB3 := Go.Lib.hid (HA1.out.trans (hb3.mono HA1.out.size)); clear hb2 hb3 hv2 y2))
    refine bodyPost_ret (v := .agg #[.bool (readAdj xs[i].value.data.toList).1, .slice A2 (readAdj xs[i].value.data.toList).2.1.length c2]) (by simp [results, Tryz.results98, go_sem, y0, y1]) rfl ?_
    refine ⟨⟨_, by rw [HA.out], ?_⟩, (HB3.out.setCell (p := ⟨w.heap.size, 0, none⟩) (Nat.le_refl _) _).setCell (p := ⟨w.heap.size, 1, none⟩) (Nat.le_refl _) _⟩
    rw [HA.out]
    refine SlR.keep (sl_offS HV2.out (A := w.heap.size) (fun i k x => HNI.out i k x)) (fun q hq => ?_) (fun q hq => by simp [World.setCell]; have := hq.1; simpa using this)
    rw [Below.heap_setCell _ _ _ _ hq.2, Below.heap_setCell _ _ _ _ hq.2]

set_option maxRecDepth 50000 in
set_option maxHeartbeats 1000000 in
theorem link_any (v : Value) (xs : List Entry) (a b : Nat) (w : World) (h : Sl entR w v xs) (ha : a < 12) (hb : b < 12) (hs : ∀ e ∈ xs, e.value.size < 4294967281) (hE : Env w) :
    Calls Tryz.prog 99 #[v, .int .i64 a, .int .i64 b] w fun e w' => e = .returned (.int .i64 (linkC xs a b : Nat)) ∧ Below w.heap.size w w' := by
  have hl := h.len_le
  obtain ⟨A, c, rfl⟩ := h.form
  have H := Go.Lib.hid h
  have HE := Go.Lib.hid hE
  have HIN := Go.Lib.hid (fun n hn w' (hb : Below w.heap.size w w') => adjIn_any (.slice A xs.length c) xs n w' (h.below hb) hn hs (hE.below hb))
  clear h hE hs
  by_cases hab : a = b
  · have hi : ((a : Int) == (b : Int)) = true := by rw [beq_iff_eq]; omega
    have HL := Go.Lib.hid (show linkC xs a b = 0 by unfold linkC; rw [if_pos (.inl hab)])
    go_enter Tryz.func99, Tryz.ntmps99
    go_wp2_with fail
    go_ret
    exact ⟨by rw [HL.out]; rfl, Below.refl _ _⟩
  · have hi : ((a : Int) == (b : Int)) = false := by rw [beq_eq_false_iff_ne]; omega
    have HSA := Go.Lib.hid (sideC_le (adjAt_chk xs a) b)
    have HSB := Go.Lib.hid (sideC_le (adjAt_chk xs b) a)
    have hlk : linkC xs a b = if sideC (adjAt xs b).2 a = 0 then 0 else (sideC (adjAt xs a).2 b).toNat := by
      unfold linkC
      by_cases h0 : sideC (adjAt xs b).2 a = 0
      · rw [if_pos (.inr h0), if_pos h0]
      · rw [if_neg (by rintro (e | e); · exact hab e
                       · exact h0 e), if_neg h0]
    have HL := Go.Lib.hid hlk
    have HA := Go.Lib.hid (HIN.out a ha)
    have HB := Go.Lib.hid (HIN.out b hb)
    clear hlk
    by_cases h0 : sideC (adjAt xs b).2 a = 0
    · have HSO := Go.Lib.hid (fun d v w h => (by have := sideOf_any d v (adjAt xs b).2 a w h; rw [h0] at this; exact this : Calls Tryz.prog 125 #[.agg #[.bool d, v], .int .i64 a] w fun e w' => e = .returned (.int .i64 0) ∧ Below w.heap.size w w'))
      rw [if_pos h0] at HL
      clear h0
      go_enter Tryz.func99, Tryz.ntmps99
      go_wp2_with (first
        | (go_at_call 98; refine (HB.out _ (Below.refl _ _)).mono ?_; rintro e w1 ⟨⟨v1, rfl, hv1⟩, hb1⟩)
        | (go_at_call 125; refine (HSO.out _ _ _ hv1).mono ?_; rintro e w2 ⟨rfl, hb2⟩))
      go_ret
      exact ⟨by rw [HL.out]; rfl, hb1.trans (hb2.mono hb1.size)⟩
    · have h0b : (sideC (adjAt xs b).2 a == 0) = false := by rw [beq_eq_false_iff_ne]; exact h0
      have HSO := Go.Lib.hid (fun d v w h => sideOf_any d v (adjAt xs b).2 a w h)
      have HSP := Go.Lib.hid (fun d v w h => sideOf_any d v (adjAt xs a).2 b w h)
      rw [if_neg h0] at HL
      generalize sideC (adjAt xs b).2 a = X at *
      clear h0
      go_enter Tryz.func99, Tryz.ntmps99
      go_wp2_with (first
        | (go_at_call 98; have U' := U; refine (HA.out _ HX2.out).mono ?_; rintro e w3 ⟨⟨v3, rfl, hv3⟩, hb3⟩)
        | (go_at_call 98; refine (HB.out _ (Below.refl _ _)).mono ?_; rintro e w1 ⟨⟨v1, rfl, hv1⟩, hb1⟩)
        | (go_at_call 125; have U' := U; refine (HSP.out _ _ _ hv3).mono ?_; rintro e w4 ⟨rfl, hb4⟩)
        | (go_at_call 125; refine (HSO.out _ _ _ hv1).mono ?_; rintro e w2 ⟨rfl, hb2⟩; have U := trivial; have HX2 := Go.Lib.hid (hb1.trans (hb2.mono hb1.size))))
      go_ret
      have hx3 := HX2.out.trans (hb3.mono HX2.out.size)
      exact ⟨by rw [HL.out, Int.toNat_of_nonneg HSA.out.1]; rfl, hx3.trans (hb4.mono hx3.size)⟩
end Go.Proofs.YtcbkimbeljhbhaaGreatDoor
