/-
  What may be told is short: lengths of the texts of links and prefixes. Plain lemmas, no program in sight.
  Showing prefixes as text: ShowPrefixes and PrefixesText, walked.
-/
import Derived.Test.YtcbkimbeljhbhaaGreatDoorGTxB
import Derived.Test.YtcbkimbeljhbhaaGreatDoorGDoB
set_option linter.unusedVariables false
set_option linter.unusedSimpArgs false
namespace Go.Proofs.YtcbkimbeljhbhaaGreatDoor
open Go Go.RowKit

section
variable {α : Type} {bad : α → Int} {ord : α → α → Bool}
theorem sc_zero (l : List α) : ∀ (n k : Nat), seqChk bad ord l n k = 0 → k + n = l.length → ∀ i, k ≤ i → (h : i < l.length) → bad l[i] = 0 ∧ (∀ j, (hj : j + 1 = i) → ord (l[j]'(by omega)) l[i] = true)
  | 0, k, _, hk, i, hi, h => by omega
  | n + 1, k, hs, hk, i, hi, h => by
    have hlt : k < l.length := by omega
    have hb : bad l[k] = 0 := by
      rcases Classical.em (bad l[k] = 0) with e | e
      · exact e
      · have := sc_bad (bad := bad) (ord := ord) l k hlt e
        rw [show l.length - k = n + 1 by omega, hs] at this
        exact absurd this.symm e
    have hnext : seqChk bad ord l n (k + 1) = 0 ∧ ∀ j, (hj : j + 1 = k) → ord (l[j]'(by omega)) l[k] = true := by
      rcases Nat.eq_zero_or_pos k with h0 | h0
      · subst h0
        have := sc_first (bad := bad) (ord := ord) l hlt hb
        rw [show l.length - 0 = n + 1 by omega, hs, show l.length - 1 = n by omega] at this
        exact ⟨this.symm, fun j hj => by omega⟩
      · obtain ⟨m, rfl⟩ : ∃ m, k = m + 1 := ⟨k - 1, by omega⟩
        rcases ho : ord l[m] l[m + 1] with _ | _
        · have := sc_order (bad := bad) (ord := ord) l m hlt hb ho
          rw [show l.length - (m + 1) = n + 1 by omega, hs] at this
          cases this
        · have := sc_next (bad := bad) (ord := ord) l m hlt hb ho
          rw [show l.length - (m + 1) = n + 1 by omega, hs, show l.length - (m + 1 + 1) = n by omega] at this
          refine ⟨this.symm, fun j hj => ?_⟩
          obtain rfl : j = m := by omega
          exact ho
    rcases Nat.lt_or_ge k i with hki | hki
    · exact sc_zero l n (k + 1) hnext.1 (by omega) i hki h
    · obtain rfl : i = k := by omega
      exact ⟨hb, hnext.2⟩
end
theorem sides_all {l : List Side} (h : chkSides l = 0) : ∀ i, (hi : i < l.length) → 0 ≤ l[i].node ∧ l[i].node ≤ 11 ∧ 1 ≤ l[i].cost ∧ l[i].cost ≤ 1000 := by
  intro i hi
  have h1 := (sc_zero l (l.length - 0) 0 h (by omega) i (Nat.zero_le _) hi).1
  unfold sideBad at h1
  split at h1
  · assumption
  · cases h1
theorem sides_ord {l : List Side} (h : chkSides l = 0) : ∀ i, (hi : i + 1 < l.length) → l[i].node < l[i + 1].node := by
  intro i hi
  have h1 := (sc_zero l (l.length - 0) 0 h (by omega) (i + 1) (Nat.zero_le _) hi).2 i rfl
  unfold sideOrd at h1
  exact of_decide_eq_true h1
theorem sides_node {l : List Side} (h : chkSides l = 0) : ∀ (i : Nat) (hi : i < l.length), (i : Int) ≤ l[i].node
  | 0, hi => (sides_all h 0 hi).1
  | i + 1, hi => by
    have h1 := sides_node h i (by omega)
    have h2 := sides_ord h i hi
    omega
theorem sides_len {l : List Side} (h : chkSides l = 0) : l.length ≤ 12 := by
  rcases Nat.lt_or_ge 12 l.length with h1 | h1
  · have h2 := sides_node h 12 h1
    have h3 := (sides_all h 12 h1).2.1
    omega
  · exact h1
theorem prefs_len {l : List Prefix} (h : chkPrefs l = 0) : l.length ≤ 6 := by
  unfold chkPrefs at h
  split at h
  · cases h
  · omega
theorem prefs_all {l : List Prefix} (h : chkPrefs l = 0) : ∀ i, (hi : i < l.length) → 0 ≤ l[i].bits ∧ l[i].bits ≤ 8 ∧ 0 ≤ l[i].addr ∧ l[i].addr ≤ 255 := by
  intro i hi
  have h0 := prefs_len h
  unfold chkPrefs at h
  rw [if_neg (by omega)] at h
  have h1 := (sc_zero l (l.length - 0) 0 h (by omega) i (Nat.zero_le _) hi).1
  unfold prefBad at h1
  split at h1
  · assumption
  · cases h1

theorem join_len (m : Nat) : ∀ l : List (List UInt8), (∀ x ∈ l, x.length ≤ m) → (Lib.join l [44]).length ≤ l.length * (m + 1)
  | [], _ => by simp [Lib.join_nil]
  | [x], h => by rw [Lib.join_one]; have := h x (by simp); simp; omega
  | x :: y :: l, h => by
    have e : Lib.join (x :: y :: l) [44] = x ++ 44 :: Lib.join (y :: l) [44] := by simp [Lib.join, List.intercalate]
    have h1 := join_len m (y :: l) (fun z hz => h z (by simp [hz]))
    have h2 := h x (by simp)
    rw [e, List.length_append, List.length_cons, List.length_cons, Nat.succ_mul]
    omega
theorem pair_len (b : UInt8) (x y : Int) (hx : 0 ≤ x) (hx2 : x ≤ 1000) (hy : 0 ≤ y) (hy2 : y ≤ 1000) : (pairT b x y).length ≤ 20 := by
  unfold pairT
  have h1 := dec_len 4 x.toNat (by omega)
  have h2 := dec_len 4 y.toNat (by omega)
  simp; omega
theorem itoa_pos {n : Int} (h : 0 ≤ n) : Lib.itoa n = Lib.decDigits n.toNat := by
  obtain ⟨m, rfl⟩ := Int.eq_ofNat_of_zero_le h
  rw [itoa_nat]; rfl
/-- a pair's text, put together -/
theorem pair_cat (b : UInt8) (x y : Int) : bOf (Lib.decDigits x.toNat) ++ ⟨#[b]⟩ ++ bOf (Lib.decDigits y.toNat) = bOf (pairT b x y) := by
  unfold pairT bOf
  rw [Go.ByteArray.mk_append_mk (Lib.decDigits x.toNat) [b], Go.ByteArray.mk_append_mk]
  simp
/-- the text of the first k -/
def adjTo (l : List (List UInt8)) (k : Nat) : List UInt8 := Lib.join (l.take k) [44]
theorem adjTo_first {l : List (List UInt8)} (h : 0 < l.length) : adjTo l 1 = l[0] := by
  unfold adjTo
  rw [List.take_succ_eq_append_getElem h]; simp [Lib.join_one]
theorem adjTo_next {l : List (List UInt8)} {k : Nat} (hk : 0 < k) (h : k < l.length) : adjTo l (k + 1) = adjTo l k ++ [44] ++ l[k] := by
  unfold adjTo
  rw [List.take_succ_eq_append_getElem h, join_snoc, if_neg (by intro e; have := congrArg List.length e; rw [List.length_take, List.length_nil] at this; omega)]
theorem adjTo_all (l : List (List UInt8)) {k : Nat} (h : l.length ≤ k) : adjTo l k = Lib.join l [44] := by
  unfold adjTo; rw [List.take_of_length_le h]
end Go.Proofs.YtcbkimbeljhbhaaGreatDoor

namespace Go.Proofs.YtcbkimbeljhbhaaGreatDoor
open Go Go.RowKit

def TPref (xs : List Prefix) (e : Ending) : Prop := e = .returned (.tuple #[.string (if chkPrefs xs = 0 then bOf (prefsT xs) else ⟨#[]⟩), .int .i64 (chkPrefs xs)])
theorem tp_good {xs : List Prefix} (h : chkPrefs xs = 0) : TPref xs (.returned (.tuple #[.string (bOf (prefsT xs)), .int .i64 0])) := by unfold TPref; rw [if_pos h, h]
theorem tp_bad {xs : List Prefix} (h : chkPrefs xs ≠ 0) : TPref xs (.returned (.tuple #[.string ⟨#[]⟩, .int .i64 (chkPrefs xs)])) := by unfold TPref; rw [if_neg h]

/-- strings.Join of a row of texts -/
theorem join_any (v : Value) (l : List (List UInt8)) (w : World) (h : Sl strR w v (l.map bOf)) (hl : l.length ≤ 100) (hx : ∀ x ∈ l, x.length ≤ 20) :
    Calls Tryz.prog 47 #[v, .string ⟨#[44]⟩] w fun e w' => e = .returned (.string (bOf (Lib.join l [44]))) ∧ Below w.heap.size w w' := by
  obtain ⟨A, c, hv, h1, h2, h3⟩ := h
  subst hv
  rcases Nat.eq_zero_or_pos l.length with h0 | h0
  · have : l = [] := List.eq_nil_of_length_eq_zero h0
    subst this
    refine (Tryz.strings_Join_none A c ⟨#[44]⟩ w).mono ?_
    rintro e w' ⟨rfl, rfl⟩
    exact ⟨rfl, Below.refl _ _⟩
  · obtain ⟨b, off, cs, e1, _, e3, _, _⟩ := h3 0 (bOf l[0]) (by rw [List.getElem?_map, List.getElem?_eq_getElem h0]; rfl)
    subst e1
    have hm : (l.map bOf).map (·.data.toList) = l := by rw [List.map_map]; conv => rhs; rw [← List.map_id l]
                                                        apply List.map_congr_left; intro x _; exact bOf_list x
    have hj := join_len 20 l hx
    have hc := Tryz.strings_Join b off c (l.map bOf) ⟨#[44]⟩ w (fun j x hx => by
        obtain ⟨b', off', cs', e1', _, _, e4', e5'⟩ := h3 j x hx
        injection e1' with e1'
        injection e1' with e6 e7
        subst e6 e7
        obtain ⟨rfl, _⟩ := e4'
        have := e5' 0 _ rfl
        simpa [strR, flatR] using this) e3 (by rw [List.length_map]; omega) h1 (by rw [hm]; show (Lib.join l [44]).length ≤ _; omega)
    rw [hm] at hc
    exact hc

/-- a pair's text, put together in a loop -/
theorem pair_app (S : List UInt8) (b : UInt8) (x y : Int) : bOf S ++ bOf (Lib.decDigits x.toNat) ++ ⟨#[b]⟩ ++ bOf (Lib.decDigits y.toNat) = bOf (S ++ pairT b x y) := by
  have e : (⟨#[b]⟩ : ByteArray) = bOf [b] := rfl
  rw [e, bOf_app, bOf_app, bOf_app]
  unfold pairT
  simp
theorem after_app2 {w2 w4 : World} {u v2 : Value} {n : Nat} {o : Obj} (hn : n < w2.heap.size) (hg : GrowTo (w2.alloc o) u w4 v2) (hu : ∀ k, u.ownBlock = some k → k < n) : ∀ i, w4.cell? ⟨n, i, none⟩ = w2.cell? ⟨n, i, none⟩ := by
  intro i
  apply World.cell?_of_block
  show w4.heap[n]? = w2.heap[n]?
  rw [hg.grown.block n (by simp; omega) (fun e => by have := hu n e.symm; omega)]
  exact Below.heap_alloc _ _ _ hn


set_option maxRecDepth 50000 in
set_option maxHeartbeats 2000000 in
theorem showPrefs_any (v : Value) (xs : List Prefix) (w : World) (h : Sl prefR w v xs) (hE : EnvT w) :
    Calls Tryz.prog 35 #[v] w fun e w' => TPref xs e ∧ Below w.heap.size w w' := by
  have hl := h.len_le
  obtain ⟨A, c, rfl⟩ := h.form
  have H := Go.Lib.hid h
  have HE := Go.Lib.hid hE
  have HCK := Go.Lib.hid (checkPrefs_any _ xs w h)
  clear h hE
  by_cases hc : chkPrefs xs = 0
  · have HC := Go.Lib.hid hc
    have hn6 := prefs_len hc
    have HALL := Go.Lib.hid (prefs_all hc)
    rw [hc] at HCK
    clear hc
    go_enter Tryz.func35, Tryz.ntmps35
    go_wp2_with (go_at_call 49; refine HCK.out.mono ?_; rintro e w1 ⟨rfl, hb1⟩; have HB1 := Go.Lib.hid hb1; clear hb1)
    have HV1 := Go.Lib.hid (H.out.below HB1.out)
    go_loopw [5, 15] (fun o i wr => ∃ k : Nat, k ≤ xs.length ∧ i = .int .i64 k ∧ OwR strR 9 w1.heap.size wr o (((xs.take k).map prefT).map bOf) ∧ Below w1.heap.size w1 wr) (fun _ i _ => xs.length - (intOf i).toNat)
    case atStart => exact ⟨0, Nat.zero_le _, rfl, OwR.nil _ _ (Nat.le_refl _), Below.refl _ _⟩
    case round =>
      obtain ⟨k, hk, rfl, ho, hB⟩ := hrel
      have HO := Go.Lib.hid ho
      have HB := Go.Lib.hid hB
      clear ho hB
      by_cases hlt : k < xs.length
      · obtain ⟨b, off, rfl, hb⟩ := HV1.out.at_ hlt
        obtain ⟨f1, f2, i1, i2⟩ := (HV1.out.below HB.out).pref hlt
        obtain ⟨a1, a2, a3, a4⟩ := HALL.out k hlt
        have HT := Go.Lib.hid (show prefT xs[k] = pairT 47 xs[k].addr xs[k].bits from rfl)
        have hsuc : ((xs.take (k + 1)).map prefT).map bOf = ((xs.take k).map prefT).map bOf ++ [bOf (prefT xs[k])] := by
          rw [List.take_succ_eq_append_getElem hlt, List.map_append, List.map_append]; rfl
        rw [HT.out] at hsuc
        have HSUC := Go.Lib.hid hsuc
        have hn1 : (((xs.take k).map prefT).map bOf).length + 1 ≤ 1000000000000 := by rw [List.length_map, List.length_map, List.length_take]; omega
        have HN1 := Go.Lib.hid hn1
        have hpl := pair_len 47 xs[k].addr xs[k].bits a3 (by omega) a1 (by omega)
        have ea := itoa_pos a3
        have eb := itoa_pos a1
        have la := dec_len 4 xs[k].addr.toNat (by omega)
        have lb := dec_len 4 xs[k].bits.toNat (by omega)
        generalize xs[k].addr = p at *
        generalize xs[k].bits = q at *
        have hpc := pair_cat 47 p q
        have HIA := Go.Lib.hid (fun w h => itoa_any p w i1 h)
        have HIB := Go.Lib.hid (fun w h => itoa_any q w i2 h)
        rw [ea] at HIA
        rw [eb] at HIB
        have HPL := Go.Lib.hid hpl
        have za : (bOf (Lib.decDigits p.toNat)).size ≤ 5 := by rw [bOf_size]; exact la
        have zb : (bOf (Lib.decDigits q.toNat)).size ≤ 5 := by rw [bOf_size]; exact lb
        have r1 : ∀ w, (Op.stringOp .add (bOf (Lib.decDigits p.toNat)) ⟨#[47]⟩).run Tryz.prog w = .ok (.string (bOf (Lib.decDigits p.toNat) ++ ⟨#[47]⟩)) w := fun w => run_string_add_sum w _ _ (by show _ + 1 ≤ _; omega)
        have r2 : ∀ w, (Op.stringOp .add (bOf (Lib.decDigits p.toNat) ++ ⟨#[47]⟩) (bOf (Lib.decDigits q.toNat))).run Tryz.prog w = .ok (.string (bOf (pairT 47 p q))) w := fun w => by
          rw [run_string_add_sum w _ _ (by rw [ByteArray.size_append]; show _ + 1 + _ ≤ _; omega), hpc]
        have hz1 : w1.heap.size ≤ wr.heap.size := HB.out.size
        have hwf : (bOf (pairT 47 p q)).size ≤ maxLen := by rw [bOf_size]; unfold maxLen; omega
        have HWF := Go.Lib.hid hwf
        have HOWN := Go.Lib.hid (fun k (h : Value.ownBlock u5 = some k) => (HO.out.base_le k h).2)
        clear ea eb la lb hpc hpl hsuc hn1 a1 a2 a3 a4 i1 i2 hwf
        have hcl : ∀ w', Below (wr.heap.size + 1) (wr.alloc (.cells #[.int .i64 p, .int .i64 q] 62)) w' → w'.cell? ⟨wr.heap.size, 0, none⟩ = some (.int .i64 p) ∧ w'.cell? ⟨wr.heap.size, 1, none⟩ = some (.int .i64 q) ∧ EnvT w' ∧ Below w1.heap.size w1 w' ∧ OwR strR 9 w1.heap.size w' u5 (((xs.take k).map prefT).map bOf) ∧ wr.heap.size < w'.heap.size := by
          intro w' hb'
          have hq : Below wr.heap.size wr w' := ((Below.refl _ _).alloc (Nat.le_refl _) _).trans (hb'.mono (by omega))
          refine ⟨?_, ?_, (HE.out.below HB1.out).below (HB.out.trans (hq.mono hz1)), HB.out.trans (hq.mono hz1), HO.out.keep hq, by have := hb'.size; simp at this; omega⟩
          · rw [hb'.cell (p := ⟨wr.heap.size, 0, none⟩) (by simp), World.cell?_alloc_at _ _ _ _ rfl]; rfl
          · rw [hb'.cell (p := ⟨wr.heap.size, 1, none⟩) (by simp), World.cell?_alloc_at _ _ _ _ rfl]; rfl
        have HCL := Go.Lib.hid hcl
        have HB0 := Go.Lib.hid (Below.refl (wr.heap.size + 1) (wr.alloc (.cells #[.int .i64 p, .int .i64 q] 62))).drew
        clear hcl
        go_wp2_with fail
        go_region_held3 (fun w' => w'.cell? ⟨wr.heap.size, 0, none⟩ = some (.int .i64 p) ∧ w'.cell? ⟨wr.heap.size, 1, none⟩ = some (.int .i64 q)) (first | go_keep | exact ⟨k1, k2⟩)
          (first
            | (go_at_call 36; refine (HIA.out _ (HCL.out _ (by first | exact HBB.out | exact HB0.out)).2.2.1).mono ?_; rintro e w2 ⟨rfl, hb2⟩; have HBB := Go.Lib.hid (Below.trans (by first | exact HBB.out | exact HB0.out) (hb2.mono (HCL.out _ (by first | exact HBB.out | exact HB0.out)).2.2.2.2.2)); clear hb2; obtain ⟨k1, k2, _⟩ := HCL.out _ HBB.out)
            | (go_at_call 36; refine (HIB.out _ (HCL.out _ (by first | exact HBB.out | exact HB0.out)).2.2.1).mono ?_; rintro e w2 ⟨rfl, hb2⟩; have HBB := Go.Lib.hid (Below.trans (by first | exact HBB.out | exact HB0.out) (hb2.mono (HCL.out _ (by first | exact HBB.out | exact HB0.out)).2.2.2.2.2)); clear hb2; obtain ⟨k1, k2, _⟩ := HCL.out _ HBB.out)
            | (refine step_gen (base := w1.heap.size) elt_strA (by rfl) (.tmp 19) (.tmp 28) (by rfl) (ow_alloc (HCL.out _ HBB.out).2.2.2.2.1 _) (one_flat (r := strR) (cs := [.string (bOf (pairT 47 p q))]) (x := bOf (pairT 47 p q)) rfl ⟨rfl, HWF.out⟩) (fun _ _ h => h) (by rfl) (by rfl) HN1.out (by decide) ?_; intro v2 w4 ho2 hg2; have HG2 := Go.Lib.hid hg2; have k1 := (after_app2 (HCL.out _ HBB.out).2.2.2.2.2 hg2 HOWN.out 0).trans (HCL.out _ HBB.out).1; have k2 := (after_app2 (HCL.out _ HBB.out).2.2.2.2.2 hg2 HOWN.out 1).trans (HCL.out _ HBB.out).2.1; clear hg2))
        all_goals
          have hb4 := (ow_alloc (HCL.out _ HBB.out).2.2.2.2.1 (.cells #[.string (bOf (pairT 47 p q))] 9)).below_grown ((HCL.out _ HBB.out).2.2.2.1.alloc (HCL.out _ HBB.out).2.2.2.1.size (.cells #[.string (bOf (pairT 47 p q))] 9)) HG2.out.grown
          have HB4 := Go.Lib.hid hb4
          have HO2 := Go.Lib.hid ho2
          clear hb4 ho2 k1 k2
          go_wp2_with fail
          go_roundw
          case rel => exact ⟨k + 1, by omega, by go_num, by rw [HSUC.out]; exact HO2.out, HB4.out⟩
          case measure => simp [intOf]; omega
      · have hte : xs.take k = xs := List.take_of_length_le (by omega)
        rw [hte] at HO
        have hj := fun w h => join_any u5 (xs.map prefT) w h (by rw [List.length_map]; omega) (fun x hx => by
          obtain ⟨p, hp, rfl⟩ := List.mem_map.1 hx
          obtain ⟨i, hi, rfl⟩ := List.getElem_of_mem hp
          obtain ⟨a1, a2, a3, a4⟩ := HALL.out i hi
          exact pair_len 47 _ _ a3 (by omega) a1 (by omega))
        have HJ := Go.Lib.hid hj
        clear hj hte
        go_wp2_with (go_at_call 47; refine (HJ.out _ (HO.out.sl (by decide))).mono ?_; rintro e w3 ⟨rfl, hb3⟩)
        go_ret2
        exact ⟨tp_good HC.out, HB1.out.trans ((HB.out.trans (hb3.mono HB.out.size)).mono HB1.out.size)⟩
  · have hcb : (chkPrefs xs == 0) = false := by rw [beq_eq_false_iff_ne]; exact hc
    have HC := Go.Lib.hid hc
    clear hc
    go_enter Tryz.func35, Tryz.ntmps35
    go_wp2_with (go_at_call 49; refine HCK.out.mono ?_; rintro e w1 ⟨rfl, hb1⟩)
    go_ret2
    exact ⟨tp_bad HC.out, hb1⟩

theorem bOf_sep (S : List UInt8) (c : UInt8) : bOf S ++ ⟨#[c]⟩ = bOf (S ++ [c]) := bOf_app S [c]
theorem add_run (S T : List UInt8) (h : S.length + T.length ≤ 9223372036854775807) (w : World) : (Op.stringOp .add (bOf S) (bOf T)).run Tryz.prog w = .ok (.string (bOf (S ++ T))) w := by
  rw [run_string_add_sum w _ _ (by rw [bOf_size, bOf_size]; exact h), bOf_app]
theorem add_run1 (S : List UInt8) (c : UInt8) (h : S.length + 1 ≤ 9223372036854775807) (w : World) : (Op.stringOp .add (bOf S) ⟨#[c]⟩).run Tryz.prog w = .ok (.string (bOf (S ++ [c]))) w := add_run S [c] h w
theorem dec_int {n : Int} (h0 : 0 ≤ n) (h1 : n < 1000000000000) (w : World) : Calls Tryz.prog 70 #[.int .i64 n] w fun e w' => e = .returned (.string (bOf (Lib.decDigits n.toNat))) ∧ Below w.heap.size w w' := by
  obtain ⟨m, rfl⟩ := Int.eq_ofNat_of_zero_le h0
  exact dec_any m w (by omega)
theorem adjTo_len {l : List (List UInt8)} (h : ∀ x ∈ l, x.length ≤ 20) (hl : l.length ≤ 20) (k : Nat) : (adjTo l k).length ≤ 420 := by
  unfold adjTo
  have h1 := join_len 20 (l.take k) (fun x hx => h x (List.mem_of_mem_take hx))
  have h2 : (l.take k).length ≤ 20 := by rw [List.length_take]; omega
  have h3 : (l.take k).length * (20 + 1) ≤ 20 * 21 := Nat.mul_le_mul h2 (Nat.le_refl _)
  omega


end Go.Proofs.YtcbkimbeljhbhaaGreatDoor
