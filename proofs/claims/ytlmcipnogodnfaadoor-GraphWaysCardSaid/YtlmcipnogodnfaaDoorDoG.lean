/-
  Showing prefixes as text: ShowPrefixes and PrefixesText, walked.
-/
import Derived.Test.YtlmcipnogodnfaaDoorTxC
import Derived.Test.YtlmcipnogodnfaaDoorDoB
namespace Go.Proofs.YtlmcipnogodnfaaDoor
open Go Go.RowKit

def TPref (xs : List Prefix) (e : Ending) : Prop := e = .returned (.tuple #[.string (if chkPrefs xs = 0 then bOf (prefsT xs) else ⟨#[]⟩), .int .i64 (chkPrefs xs)])
theorem tp_good {xs : List Prefix} (h : chkPrefs xs = 0) : TPref xs (.returned (.tuple #[.string (bOf (prefsT xs)), .int .i64 0])) := by unfold TPref; rw [if_pos h, h]
theorem tp_bad {xs : List Prefix} (h : chkPrefs xs ≠ 0) : TPref xs (.returned (.tuple #[.string ⟨#[]⟩, .int .i64 (chkPrefs xs)])) := by unfold TPref; rw [if_neg h]

/-- strings.Join of a row of texts -/
theorem join_any (v : Value) (l : List (List UInt8)) (w : World) (h : Sl strR w v (l.map bOf)) (hl : l.length ≤ 100) (hx : ∀ x ∈ l, x.length ≤ 20) :
    Calls Tryd.prog 28 #[v, .string ⟨#[44]⟩] w fun e w' => e = .returned (.string (bOf (Lib.join l [44]))) ∧ Below w.heap.size w w' := by
  obtain ⟨A, c, hv, h1, h2, h3⟩ := h
  subst hv
  rcases Nat.eq_zero_or_pos l.length with h0 | h0
  · have : l = [] := List.eq_nil_of_length_eq_zero h0
    subst this
    refine (Tryd.strings_Join_none A c ⟨#[44]⟩ w).mono ?_
    rintro e w' ⟨rfl, rfl⟩
    exact ⟨rfl, Below.refl _ _⟩
  · obtain ⟨b, off, cs, e1, _, e3, _, _⟩ := h3 0 (bOf l[0]) (by rw [List.getElem?_map, List.getElem?_eq_getElem h0]; rfl)
    subst e1
    have hm : (l.map bOf).map (·.data.toList) = l := by rw [List.map_map]; conv => rhs; rw [← List.map_id l]
                                                        apply List.map_congr_left; intro x _; exact bOf_list x
    have hj := join_len 20 l hx
    have hc := Tryd.strings_Join b off c (l.map bOf) ⟨#[44]⟩ w (fun j x hx => by
        obtain ⟨b', off', cs', e1', _, _, e4', e5'⟩ := h3 j x hx
        injection e1' with e1'
        injection e1' with e6 e7
        subst e6 e7
        obtain ⟨rfl, _⟩ := e4'
        have := e5' 0 _ rfl
        simpa [strR, flatR] using this) e3 (by rw [List.length_map]; omega) h1 (by rw [hm]; show (Lib.join l [44]).length ≤ _; omega)
    rw [hm] at hc
    exact hc

/-- a pair's text, put together in a loop -/
theorem pair_app (S : List UInt8) (b : UInt8) (x y : Int) : bOf S ++ bOf (Lib.decDigits x.toNat) ++ ⟨#[b]⟩ ++ bOf (Lib.decDigits y.toNat) = bOf (S ++ pairT b x y) := by
  have e : (⟨#[b]⟩ : ByteArray) = bOf [b] := rfl
  rw [e, bOf_app, bOf_app, bOf_app]
  unfold pairT
  simp
theorem after_app2 {w2 w4 : World} {u v2 : Value} {n : Nat} {o : Obj} (hn : n < w2.heap.size) (hg : GrowTo (w2.alloc o) u w4 v2) (hu : ∀ k, u.ownBlock = some k → k < n) : ∀ i, w4.cell? ⟨n, i, none⟩ = w2.cell? ⟨n, i, none⟩ := by
  intro i
  apply World.cell?_of_block
  show w4.heap[n]? = w2.heap[n]?
  rw [hg.grown.block n (by simp; omega) (fun e => by have := hu n e.symm; omega)]
  exact Below.heap_alloc _ _ _ hn


set_option maxRecDepth 50000 in
set_option maxHeartbeats 2000000 in
theorem showPrefs_any (v : Value) (xs : List Prefix) (w : World) (h : Sl prefR w v xs) (hE : EnvT w) :
    Calls Tryd.prog 12 #[v] w fun e w' => TPref xs e ∧ Below w.heap.size w w' := by
  have hl := h.len_le
  obtain ⟨A, c, rfl⟩ := h.form
  have H := Go.Lib.hid h
  have HE := Go.Lib.hid hE
  have HCK := Go.Lib.hid (checkPrefs_any _ xs w h)
  clear h hE
  by_cases hc : chkPrefs xs = 0
  · have HC := Go.Lib.hid hc
    have hn6 := prefs_len hc
    have HALL := Go.Lib.hid (prefs_all hc)
    rw [hc] at HCK
    clear hc
    go_enter Tryd.func12, Tryd.ntmps12
    go_wp2_with (go_at_call 31; refine HCK.out.mono ?_; rintro e w1 ⟨rfl, hb1⟩; have HB1 := Go.Lib.hid hb1; clear hb1)
    have HV1 := Go.Lib.hid (H.out.below HB1.out)
    go_loopw [5, 15] (fun o i wr => ∃ k : Nat, k ≤ xs.length ∧ i = .int .i64 k ∧ OwR strR 9 w1.heap.size wr o (((xs.take k).map prefT).map bOf) ∧ Below w1.heap.size w1 wr) (fun _ i _ => xs.length - (intOf i).toNat)
    case atStart => exact ⟨0, Nat.zero_le _, rfl, OwR.nil _ _ (Nat.le_refl _), Below.refl _ _⟩
    case round =>
      obtain ⟨k, hk, rfl, ho, hB⟩ := hrel
      have HO := Go.Lib.hid ho
      have HB := Go.Lib.hid hB
      clear ho hB
      by_cases hlt : k < xs.length
      · obtain ⟨b, off, rfl, hb⟩ := HV1.out.at_ hlt
        obtain ⟨f1, f2, i1, i2⟩ := (HV1.out.below HB.out).pref hlt
        obtain ⟨a1, a2, a3, a4⟩ := HALL.out k hlt
        have HT := Go.Lib.hid (show prefT xs[k] = pairT 47 xs[k].addr xs[k].bits from rfl)
        have hsuc : ((xs.take (k + 1)).map prefT).map bOf = ((xs.take k).map prefT).map bOf ++ [bOf (prefT xs[k])] := by
          rw [List.take_succ_eq_append_getElem hlt, List.map_append, List.map_append]; rfl
        rw [HT.out] at hsuc
        have HSUC := Go.Lib.hid hsuc
        have hn1 : (((xs.take k).map prefT).map bOf).length + 1 ≤ 1000000000000 := by rw [List.length_map, List.length_map, List.length_take]; omega
        have HN1 := Go.Lib.hid hn1
        have hpl := pair_len 47 xs[k].addr xs[k].bits a3 (by omega) a1 (by omega)
        have ea := itoa_pos a3
        have eb := itoa_pos a1
        have la := dec_len 4 xs[k].addr.toNat (by omega)
        have lb := dec_len 4 xs[k].bits.toNat (by omega)
        generalize xs[k].addr = p at *
        generalize xs[k].bits = q at *
        have hpc := pair_cat 47 p q
        have HIA := Go.Lib.hid (fun w h => itoa_any p w i1 h)
        have HIB := Go.Lib.hid (fun w h => itoa_any q w i2 h)
        rw [ea] at HIA
        rw [eb] at HIB
        have HPL := Go.Lib.hid hpl
        have za : (bOf (Lib.decDigits p.toNat)).size ≤ 5 := by rw [bOf_size]; exact la
        have zb : (bOf (Lib.decDigits q.toNat)).size ≤ 5 := by rw [bOf_size]; exact lb
        have r1 : ∀ w, (Op.stringOp .add (bOf (Lib.decDigits p.toNat)) ⟨#[47]⟩).run Tryd.prog w = .ok (.string (bOf (Lib.decDigits p.toNat) ++ ⟨#[47]⟩)) w := fun w => run_string_add_sum w _ _ (by show _ + 1 ≤ _; omega)
        have r2 : ∀ w, (Op.stringOp .add (bOf (Lib.decDigits p.toNat) ++ ⟨#[47]⟩) (bOf (Lib.decDigits q.toNat))).run Tryd.prog w = .ok (.string (bOf (pairT 47 p q))) w := fun w => by
          rw [run_string_add_sum w _ _ (by rw [ByteArray.size_append]; show _ + 1 + _ ≤ _; omega), hpc]
        have hz1 : w1.heap.size ≤ wr.heap.size := HB.out.size
        have hwf : (bOf (pairT 47 p q)).size ≤ maxLen := by rw [bOf_size]; unfold maxLen; omega
        have HWF := Go.Lib.hid hwf
        have HOWN := Go.Lib.hid (fun k (h : Value.ownBlock u5 = some k) => (HO.out.base_le k h).2)
        clear ea eb la lb hpc hpl hsuc hn1 a1 a2 a3 a4 i1 i2 hwf
        have hcl : ∀ w', Below (wr.heap.size + 1) (wr.alloc (.cells #[.int .i64 p, .int .i64 q] 49)) w' → w'.cell? ⟨wr.heap.size, 0, none⟩ = some (.int .i64 p) ∧ w'.cell? ⟨wr.heap.size, 1, none⟩ = some (.int .i64 q) ∧ EnvT w' ∧ Below w1.heap.size w1 w' ∧ OwR strR 9 w1.heap.size w' u5 (((xs.take k).map prefT).map bOf) ∧ wr.heap.size < w'.heap.size := by
          intro w' hb'
          have hq : Below wr.heap.size wr w' := ((Below.refl _ _).alloc (Nat.le_refl _) _).trans (hb'.mono (by omega))
          refine ⟨?_, ?_, (HE.out.below HB1.out).below (HB.out.trans (hq.mono hz1)), HB.out.trans (hq.mono hz1), HO.out.keep hq, by have := hb'.size; simp at this; omega⟩
          · rw [hb'.cell (p := ⟨wr.heap.size, 0, none⟩) (by simp), World.cell?_alloc_at _ _ _ _ rfl]; rfl
          · rw [hb'.cell (p := ⟨wr.heap.size, 1, none⟩) (by simp), World.cell?_alloc_at _ _ _ _ rfl]; rfl
        have HCL := Go.Lib.hid hcl
        have HB0 := Go.Lib.hid (Below.refl (wr.heap.size + 1) (wr.alloc (.cells #[.int .i64 p, .int .i64 q] 49))).drew
        clear hcl
        go_wp2_with fail
        go_region_held3 (fun w' => w'.cell? ⟨wr.heap.size, 0, none⟩ = some (.int .i64 p) ∧ w'.cell? ⟨wr.heap.size, 1, none⟩ = some (.int .i64 q)) (first | go_keep | exact ⟨k1, k2⟩)
          (first
            | (go_at_call 27; refine (HIA.out _ (HCL.out _ (by first | exact HBB.out | exact HB0.out)).2.2.1).mono ?_; rintro e w2 ⟨rfl, hb2⟩; have HBB := Go.Lib.hid (Below.trans (by first | exact HBB.out | exact HB0.out) (hb2.mono (HCL.out _ (by first | exact HBB.out | exact HB0.out)).2.2.2.2.2)); clear hb2; obtain ⟨k1, k2, _⟩ := HCL.out _ HBB.out)
            | (go_at_call 27; refine (HIB.out _ (HCL.out _ (by first | exact HBB.out | exact HB0.out)).2.2.1).mono ?_; rintro e w2 ⟨rfl, hb2⟩; have HBB := Go.Lib.hid (Below.trans (by first | exact HBB.out | exact HB0.out) (hb2.mono (HCL.out _ (by first | exact HBB.out | exact HB0.out)).2.2.2.2.2)); clear hb2; obtain ⟨k1, k2, _⟩ := HCL.out _ HBB.out)
            | (refine step_gen (base := w1.heap.size) elt_strA (by rfl) (.tmp 19) (.tmp 28) (by rfl) (ow_alloc (HCL.out _ HBB.out).2.2.2.2.1 _) (one_flat (r := strR) (cs := [.string (bOf (pairT 47 p q))]) (x := bOf (pairT 47 p q)) rfl ⟨rfl, HWF.out⟩) (fun _ _ h => h) (by rfl) (by rfl) HN1.out (by decide) ?_; intro v2 w4 ho2 hg2; have HG2 := Go.Lib.hid hg2; have k1 := (after_app2 (HCL.out _ HBB.out).2.2.2.2.2 hg2 HOWN.out 0).trans (HCL.out _ HBB.out).1; have k2 := (after_app2 (HCL.out _ HBB.out).2.2.2.2.2 hg2 HOWN.out 1).trans (HCL.out _ HBB.out).2.1; clear hg2))
        all_goals
          have hb4 := (ow_alloc (HCL.out _ HBB.out).2.2.2.2.1 (.cells #[.string (bOf (pairT 47 p q))] 9)).below_grown ((HCL.out _ HBB.out).2.2.2.1.alloc (HCL.out _ HBB.out).2.2.2.1.size (.cells #[.string (bOf (pairT 47 p q))] 9)) HG2.out.grown
          have HB4 := Go.Lib.hid hb4
          have HO2 := Go.Lib.hid ho2
          clear hb4 ho2 k1 k2
          go_wp2_with fail
          go_roundw
          case rel => exact ⟨k + 1, by omega, by go_num, by rw [HSUC.out]; exact HO2.out, HB4.out⟩
          case measure => simp [intOf]; omega
      · have hte : xs.take k = xs := List.take_of_length_le (by omega)
        rw [hte] at HO
        have hj := fun w h => join_any u5 (xs.map prefT) w h (by rw [List.length_map]; omega) (fun x hx => by
          obtain ⟨p, hp, rfl⟩ := List.mem_map.1 hx
          obtain ⟨i, hi, rfl⟩ := List.getElem_of_mem hp
          obtain ⟨a1, a2, a3, a4⟩ := HALL.out i hi
          exact pair_len 47 _ _ a3 (by omega) a1 (by omega))
        have HJ := Go.Lib.hid hj
        clear hj hte
        go_wp2_with (go_at_call 28; refine (HJ.out _ (HO.out.sl (by decide))).mono ?_; rintro e w3 ⟨rfl, hb3⟩)
        go_ret2
        exact ⟨tp_good HC.out, HB1.out.trans ((HB.out.trans (hb3.mono HB.out.size)).mono HB1.out.size)⟩
  · have hcb : (chkPrefs xs == 0) = false := by rw [beq_eq_false_iff_ne]; exact hc
    have HC := Go.Lib.hid hc
    clear hc
    go_enter Tryd.func12, Tryd.ntmps12
    go_wp2_with (go_at_call 31; refine HCK.out.mono ?_; rintro e w1 ⟨rfl, hb1⟩)
    go_ret2
    exact ⟨tp_bad HC.out, hb1⟩

theorem bOf_sep (S : List UInt8) (c : UInt8) : bOf S ++ ⟨#[c]⟩ = bOf (S ++ [c]) := bOf_app S [c]
theorem add_run (S T : List UInt8) (h : S.length + T.length ≤ 9223372036854775807) (w : World) : (Op.stringOp .add (bOf S) (bOf T)).run Tryd.prog w = .ok (.string (bOf (S ++ T))) w := by
  rw [run_string_add_sum w _ _ (by rw [bOf_size, bOf_size]; exact h), bOf_app]
theorem add_run1 (S : List UInt8) (c : UInt8) (h : S.length + 1 ≤ 9223372036854775807) (w : World) : (Op.stringOp .add (bOf S) ⟨#[c]⟩).run Tryd.prog w = .ok (.string (bOf (S ++ [c]))) w := add_run S [c] h w
theorem dec_int {n : Int} (h0 : 0 ≤ n) (h1 : n < 1000000000000) (w : World) : Calls Tryd.prog 30 #[.int .i64 n] w fun e w' => e = .returned (.string (bOf (Lib.decDigits n.toNat))) ∧ Below w.heap.size w w' := by
  obtain ⟨m, rfl⟩ := Int.eq_ofNat_of_zero_le h0
  exact dec_any m w (by omega)
theorem adjTo_len {l : List (List UInt8)} (h : ∀ x ∈ l, x.length ≤ 20) (hl : l.length ≤ 20) (k : Nat) : (adjTo l k).length ≤ 420 := by
  unfold adjTo
  have h1 := join_len 20 (l.take k) (fun x hx => h x (List.mem_of_mem_take hx))
  have h2 : (l.take k).length ≤ 20 := by rw [List.length_take]; omega
  have h3 : (l.take k).length * (20 + 1) ≤ 20 * 21 := Nat.mul_le_mul h2 (Nat.le_refl _)
  omega


set_option maxRecDepth 50000 in
set_option maxHeartbeats 2000000 in
theorem prefsText_any (v : Value) (xs : List Prefix) (w : World) (h : Sl prefR w v xs) :
    Calls Tryd.prog 13 #[v] w fun e w' => TPref xs e ∧ Below w.heap.size w w' := by
  have hl := h.len_le
  obtain ⟨A, c, rfl⟩ := h.form
  have H := Go.Lib.hid h
  have HCK := Go.Lib.hid (prefsFault_any _ xs w h)
  clear h
  by_cases hc : chkPrefs xs = 0
  · have HC := Go.Lib.hid hc
    have hn6 := prefs_len hc
    have HALL := Go.Lib.hid (prefs_all hc)
    rw [hc] at HCK
    clear hc
    have hal : ∀ k, (adjTo (xs.map prefT) k).length ≤ 420 := adjTo_len (fun x hx => by
      obtain ⟨p, hp, rfl⟩ := List.mem_map.1 hx
      obtain ⟨i, hi, rfl⟩ := List.getElem_of_mem hp
      obtain ⟨a1, a2, a3, a4⟩ := HALL.out i hi
      exact pair_len 47 _ _ a3 (by omega) a1 (by omega)) (by rw [List.length_map]; omega)
    have HAL := Go.Lib.hid hal
    clear hal
    go_enter Tryd.func13, Tryd.ntmps13
    go_wp2_with (go_at_call 32; refine HCK.out.mono ?_; rintro e w1 ⟨rfl, hb1⟩; have HB1 := Go.Lib.hid hb1; clear hb1)
    have HV1 := Go.Lib.hid (H.out.below HB1.out)
    go_loopw [5, 6] (fun o i wr => ∃ k : Nat, k ≤ xs.length ∧ i = .int .i64 k ∧ o = .string (bOf (adjTo (xs.map prefT) k)) ∧ Below w1.heap.size w1 wr) (fun _ i _ => xs.length - (intOf i).toNat)
    case atStart => exact ⟨0, Nat.zero_le _, rfl, rfl, Below.refl _ _⟩
    case round =>
      obtain ⟨k, hk, rfl, rfl, hB⟩ := hrel
      have HB := Go.Lib.hid hB
      have hsl := HAL.out k
      clear hB
      by_cases hlt : k < xs.length
      · obtain ⟨b, off, rfl, hb⟩ := HV1.out.at_ hlt
        obtain ⟨f1, f2, i1, i2⟩ := (HV1.out.below HB.out).pref hlt
        obtain ⟨a1, a2, a3, a4⟩ := HALL.out k hlt
        have DP := Go.Lib.hid (fun w => dec_int a3 (by omega) w)
        have DQ := Go.Lib.hid (fun w => dec_int a1 (by omega) w)
        have la := dec_len 4 xs[k].addr.toNat (by omega)
        have lb := dec_len 4 xs[k].bits.toNat (by omega)
        have hlk : k < (xs.map prefT).length := by rw [List.length_map]; exact hlt
        have hxk : (xs.map prefT)[k] = pairT 47 xs[k].addr xs[k].bits := by rw [List.getElem_map]; rfl
        have hlti : (k : Int) < (xs.length : Int) := by omega
        have hk0 : (0 : Int) ≤ (k : Int) := by omega
        rcases Nat.eq_zero_or_pos k with h0 | h0
        · subst h0
          have hsuc := adjTo_first hlk
          rw [hxk] at hsuc
          have HSUC := Go.Lib.hid (show adjTo (xs.map prefT) (0 + 1) = [] ++ pairT 47 xs[0].addr xs[0].bits by rw [hsuc]; rfl)
          clear hsuc hlk hxk
          generalize xs[0].addr = p at *
          generalize xs[0].bits = q at *
          obtain ⟨S, hS⟩ : ∃ S : List UInt8, S = [] := ⟨_, rfl⟩
          have hS0 : adjTo (xs.map prefT) 0 = S := by rw [hS]; rfl
          rw [← hS] at HSUC
          have hSl : S.length ≤ 420 := by rw [hS]; simp
          rw [hS0] at hsl ⊢
          clear hS hS0
          simp only [Nat.zero_mul, Nat.add_zero] at f1 f2
          go_wp2_with fail
          obtain ⟨T1, hT1⟩ : ∃ T, T = S ++ Lib.decDigits p.toNat := ⟨_, rfl⟩
          obtain ⟨T2, hT2⟩ : ∃ T, T = T1 ++ [47] := ⟨_, rfl⟩
          obtain ⟨T3, hT3⟩ : ∃ T, T = S ++ pairT 47 p q := ⟨_, rfl⟩
          have hl1 : T1.length ≤ 430 := by rw [hT1, List.length_append]; omega
          have hl2 : T2.length ≤ 431 := by rw [hT2, List.length_append]; show _ + 1 ≤ _; omega
          have R1 : ∀ w, (Op.stringOp .add (bOf S) (bOf (Lib.decDigits p.toNat))).run Tryd.prog w = .ok (.string (bOf T1)) w := by rw [hT1]; exact add_run S (Lib.decDigits p.toNat) (by omega)
          have R2 : ∀ w, (Op.stringOp .add (bOf T1) ⟨#[47]⟩).run Tryd.prog w = .ok (.string (bOf T2)) w := by rw [hT2]; exact add_run1 T1 47 (by omega)
          have R3 : ∀ w, (Op.stringOp .add (bOf T2) (bOf (Lib.decDigits q.toNat))).run Tryd.prog w = .ok (.string (bOf T3)) w := by
            have hpe : T2 ++ Lib.decDigits q.toNat = T3 := by rw [hT3, hT2, hT1]; unfold pairT; simp
            rw [← hpe]; exact add_run T2 (Lib.decDigits q.toNat) (by omega)
          rw [← hT3] at HSUC
          clear hT1 hT2 hT3 hl1 hl2
          have cA : ∀ d os, Calls Tryd.prog 30 #[.int .i64 p] (Sort.grow (redrawn wr d) os) fun e w'' => e = .returned (.string (bOf (Lib.decDigits p.toNat))) ∧ ∃ p : Regrown, w'' = Sort.grow (redrawn wr p.d) p.os := fun d os => Calls.regrown_of (DP.out _)
          have cB : ∀ d os, Calls Tryd.prog 30 #[.int .i64 q] (Sort.grow (redrawn wr d) os) fun e w'' => e = .returned (.string (bOf (Lib.decDigits q.toNat))) ∧ ∃ p : Regrown, w'' = Sort.grow (redrawn wr p.d) p.os := fun d os => Calls.regrown_of (DQ.out _)
          have g1 := cell_regrown f1
          have g2 := cell_regrown f2
          
          refine wp_region_quiet_below (by kernel_rfl) (by kernel_rfl) ?_
          repeat (quiet_step (fail))
          quiet_step (exact cA _ _)
          repeat (quiet_step (fail))
          quiet_step (exact cB _ _)
          repeat (quiet_step (fail))
          refine wpQuiet_nil ?_
          intro _ hw'
          obtain ⟨⟨dq, osq⟩, hw''⟩ := hw'
          subst hw''
          clear cA cB g1 g2 R1 R2 R3
          go_wp2_with fail
          go_roundw
          case rel => exact ⟨0 + 1, by omega, by go_num, by rw [HSUC.out], HB.out.trans ((below_regrown wr dq osq).mono HB.out.size)⟩
          case measure => simp [intOf]; omega
        · have hsuc := adjTo_next h0 hlk
          rw [hxk] at hsuc
          have HSUC := Go.Lib.hid hsuc
          have hk0' : (0 : Int) < (k : Int) := by omega
          clear hsuc hlk hxk
          generalize xs[k].addr = p at *
          generalize xs[k].bits = q at *
          generalize adjTo (xs.map prefT) k = S0 at *
          have RS := add_run1 S0 44 (by omega)
          go_wp2_with fail
          clear RS
          have hSl : (S0 ++ [44]).length ≤ 421 := by rw [List.length_append]; show _ + 1 ≤ _; omega
          generalize S0 ++ [44] = S at *
          obtain ⟨T1, hT1⟩ : ∃ T, T = S ++ Lib.decDigits p.toNat := ⟨_, rfl⟩
          obtain ⟨T2, hT2⟩ : ∃ T, T = T1 ++ [47] := ⟨_, rfl⟩
          obtain ⟨T3, hT3⟩ : ∃ T, T = S ++ pairT 47 p q := ⟨_, rfl⟩
          have hl1 : T1.length ≤ 430 := by rw [hT1, List.length_append]; omega
          have hl2 : T2.length ≤ 431 := by rw [hT2, List.length_append]; show _ + 1 ≤ _; omega
          have R1 : ∀ w, (Op.stringOp .add (bOf S) (bOf (Lib.decDigits p.toNat))).run Tryd.prog w = .ok (.string (bOf T1)) w := by rw [hT1]; exact add_run S (Lib.decDigits p.toNat) (by omega)
          have R2 : ∀ w, (Op.stringOp .add (bOf T1) ⟨#[47]⟩).run Tryd.prog w = .ok (.string (bOf T2)) w := by rw [hT2]; exact add_run1 T1 47 (by omega)
          have R3 : ∀ w, (Op.stringOp .add (bOf T2) (bOf (Lib.decDigits q.toNat))).run Tryd.prog w = .ok (.string (bOf T3)) w := by
            have hpe : T2 ++ Lib.decDigits q.toNat = T3 := by rw [hT3, hT2, hT1]; unfold pairT; simp
            rw [← hpe]; exact add_run T2 (Lib.decDigits q.toNat) (by omega)
          rw [← hT3] at HSUC
          clear hT1 hT2 hT3 hl1 hl2
          have cA : ∀ d os, Calls Tryd.prog 30 #[.int .i64 p] (Sort.grow (redrawn wr d) os) fun e w'' => e = .returned (.string (bOf (Lib.decDigits p.toNat))) ∧ ∃ p : Regrown, w'' = Sort.grow (redrawn wr p.d) p.os := fun d os => Calls.regrown_of (DP.out _)
          have cB : ∀ d os, Calls Tryd.prog 30 #[.int .i64 q] (Sort.grow (redrawn wr d) os) fun e w'' => e = .returned (.string (bOf (Lib.decDigits q.toNat))) ∧ ∃ p : Regrown, w'' = Sort.grow (redrawn wr p.d) p.os := fun d os => Calls.regrown_of (DQ.out _)
          have g1 := cell_regrown f1
          have g2 := cell_regrown f2
          
          refine wp_region_quiet_below (by kernel_rfl) (by kernel_rfl) ?_
          repeat (quiet_step (fail))
          quiet_step (exact cA _ _)
          repeat (quiet_step (fail))
          quiet_step (exact cB _ _)
          repeat (quiet_step (fail))
          refine wpQuiet_nil ?_
          intro _ hw'
          obtain ⟨⟨dq, osq⟩, hw''⟩ := hw'
          subst hw''
          clear cA cB g1 g2 R1 R2 R3
          go_wp2_with fail
          go_roundw
          case rel => exact ⟨k + 1, by omega, by go_num, by rw [HSUC.out], HB.out.trans ((below_regrown wr dq osq).mono HB.out.size)⟩
          case measure => simp [intOf]; omega
      · have hte := adjTo_all (xs.map prefT) (k := k) (by rw [List.length_map]; omega)
        have HTE := Go.Lib.hid hte
        clear hte
        go_wp2_with fail
        go_ret2
        exact ⟨by rw [HTE.out]; exact tp_good HC.out, HB1.out.trans (HB.out.mono HB1.out.size)⟩
  · have hcb : (chkPrefs xs == 0) = false := by rw [beq_eq_false_iff_ne]; exact hc
    have HC := Go.Lib.hid hc
    clear hc
    go_enter Tryd.func13, Tryd.ntmps13
    go_wp2_with (go_at_call 32; refine HCK.out.mono ?_; rintro e w1 ⟨rfl, hb1⟩)
    go_ret2
    exact ⟨tp_bad HC.out, hb1⟩
end Go.Proofs.YtlmcipnogodnfaaDoor
