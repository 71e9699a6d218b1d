/-
  Proved here: the law Names returns true, with no condition.
-/
import Derived.Test.YtbpamllmbdcdfaaOwn
namespace Go.Proofs.Ytbpamllmbdcdfaa
open Go.RowKit Go.ChangeShapes Go.WideShapes Go.ChangeAt

def errL : List Int := [0, 1, 2, 3, 4, 5, 6, 7, 8, 9, 10]
def allL : List Int := [12, 8, 120, 60, 1099511627776, 1000, 1048576, 255, 8, 200, 6, 400, 20000]
def actL : List Int := [1, 2, 3, 4, 5, 6, 7, 8, 9, 10]
def upto (k : Nat) : List Int := (List.range k).map fun (i : Nat) => ((i : Int) + 1)

set_option maxHeartbeats 4000000 in
theorem names_walk (w : World) :
    Calls Try.prog 3 #[] w fun e w' => e = .returned (.bool true) ∧ Below w.heap.size w w' := by
  have hE : OwR intR 22 w.heap.size (w.alloc (.cells (errL.map (Value.int .i64)).toArray 22)) (.slice (some ⟨w.heap.size, 0, none⟩) errL.length errL.length) errL :=
    OwR.lit1 rfl (fun x hx S => ⟨rfl, by simp [errL] at hx; unfold inR; omega⟩) (Nat.le_refl _) (by decide)
  have hE1 : Sl intR (w.alloc (.cells #[.int .i64 0, .int .i64 1, .int .i64 2, .int .i64 3, .int .i64 4, .int .i64 5, .int .i64 6, .int .i64 7, .int .i64 8, .int .i64 9, .int .i64 10] 22)) (.slice (some ⟨w.heap.size, 0, none⟩) 11 11) errL := hE.sl (by decide)
  have HE := Go.Lib.hid hE1
  clear hE hE1
  have hB0 : Below w.heap.size w (w.alloc (.cells #[.int .i64 0, .int .i64 1, .int .i64 2, .int .i64 3, .int .i64 4, .int .i64 5, .int .i64 6, .int .i64 7, .int .i64 8, .int .i64 9, .int .i64 10] 22)) := (Below.refl _ _).alloc (Nat.le_refl _) _
  have HB := Go.Lib.hid hB0
  clear hB0
  go_enter Try.func3, Try.ntmps3
  go_wp2_with fail
  generalize w.alloc (.cells #[.int .i64 0, .int .i64 1, .int .i64 2, .int .i64 3, .int .i64 4, .int .i64 5, .int .i64 6, .int .i64 7, .int .i64 8, .int .i64 9, .int .i64 10] 22) = w1 at *
  go_loop [2] (fun i => ∃ k : Nat, k ≤ 11 ∧ i = .int .i64 k) (fun i => 11 - (intOf i).toNat)
  case atStart => exact ⟨0, by omega, rfl⟩
  case round =>
    obtain ⟨k, hk, rfl⟩ := hrel
    by_cases hlt : k < 11
    · obtain ⟨h1, _⟩ := HE.out.int (k := k) (by simpa [errL] using hlt)
      have h2 : errL[k]'(by simpa [errL] using hlt) = (k : Int) := by
        have : ∀ k, (h : k < errL.length) → errL[k] = (k : Int) := by decide
        exact this k _
      rw [h2, Nat.zero_add] at h1
      have h3 : ((k : Int) != (k : Int)) = false := by simp
      go_wp2_with fail
      go_round
      case rel => exact ⟨k + 1, by omega, by go_num⟩
      case measure => simp [intOf]; omega
    · have hA : OwR intR 3 w.heap.size (w1.alloc (.cells (allL.map (Value.int .i64)).toArray 3)) (.slice (some ⟨w1.heap.size, 0, none⟩) allL.length allL.length) allL :=
        OwR.lit1 rfl (fun x hx S => ⟨rfl, by simp [allL] at hx; unfold inR; omega⟩) HB.out.size (by decide)
      have hA1 := hA.keep (((Below.refl _ _).alloc (Nat.le_refl _) (.cells (allL.map (Value.int .i64)).toArray 3)))
      have hW : OwR intR 3 w.heap.size ((w1.alloc (.cells (allL.map (Value.int .i64)).toArray 3)).alloc (.cells (allL.map (Value.int .i64)).toArray 3)) (.slice (some ⟨(w1.alloc (.cells (allL.map (Value.int .i64)).toArray 3)).heap.size, 0, none⟩) allL.length allL.length) allL :=
        OwR.lit1 rfl (fun x hx S => ⟨rfl, by simp [allL] at hx; unfold inR; omega⟩) (by have := HB.out.size; simp; omega) (by decide)
      have hB2 : Below w.heap.size w ((w1.alloc (.cells (allL.map (Value.int .i64)).toArray 3)).alloc (.cells (allL.map (Value.int .i64)).toArray 3)) := (HB.out.alloc HB.out.size _).alloc (by have := HB.out.size; simp; omega) _
      simp only [World.size_alloc] at hW
      have HA := Go.Lib.hid hA1
      have HW := Go.Lib.hid hW
      have HB2 := Go.Lib.hid hB2
      clear hA hA1 hW hB2 HB HE
      go_upto_region 9 with fail
      change Code.wp _ _ _ _ ((w1.alloc (.cells (allL.map (Value.int .i64)).toArray 3)).alloc (.cells (allL.map (Value.int .i64)).toArray 3))
      have hz2 : ((w1.alloc (.cells (allL.map (Value.int .i64)).toArray 3)).alloc (.cells (allL.map (Value.int .i64)).toArray 3)).heap.size = w1.heap.size + 1 + 1 := by simp
      generalize ((w1.alloc (.cells (allL.map (Value.int .i64)).toArray 3)).alloc (.cells (allL.map (Value.int .i64)).toArray 3)) = w2 at *
      have hC : OwR intR 3 w.heap.size (w2.alloc (.cells (actL.map (Value.int .i64)).toArray 3)) (.slice (some ⟨w2.heap.size, 0, none⟩) actL.length actL.length) actL :=
        OwR.lit1 rfl (fun x hx S => ⟨rfl, by simp [actL] at hx; unfold inR; omega⟩) HB2.out.size (by decide)
      have HC := Go.Lib.hid hC
      have HZ := Go.Lib.hid hz2
      clear hC hz2
      go_wp2_with (at_builtin; refine wpList_own_append (base := w.heap.size) rfl (.tmp 22) (.tmp 23) rfl elt_int (HA.out.keep ((Below.refl _ _).alloc (Nat.le_refl _) _)) (HC.out.sl (by decide)) rfl rfl (fun _ _ h => h) (by decide) (by decide) ?_; intro v1 w3 ho1 hg1 hb1)
      have hB3 : Below w.heap.size w w3 := OwR.below_grown (HA.out.keep ((Below.refl _ _).alloc (Nat.le_refl _) _)) (HB2.out.alloc HB2.out.size _) hg1
      have hW3 : OwR intR 3 w.heap.size w3 (.slice (some ⟨w1.heap.size + 1, 0, none⟩) 13 13) (allL ++ upto 0) := by
        rw [show allL ++ upto 0 = allL from by simp [upto]]
        exact (HW.out.keep ((Below.refl _ _).alloc (Nat.le_refl _) _)).kept hg1 (by simp [Value.ownBlock])
      have hne1 : v1.ownBlock ≠ some (w1.heap.size + 1) := by
        intro e
        rcases hb1 with h | h
        · rw [h] at e; simp [Value.ownBlock] at e
        · rw [h] at e; simp [HZ.out] at e; omega
      go_loopw [4, 5] (fun v i wr => ∃ k : Nat, k ≤ 10 ∧ i = .int .i64 ((k : Int) + 1) ∧ OwR intR 3 w.heap.size wr v (allL ++ upto k) ∧ OwR intR 3 w.heap.size wr v1 (allL ++ actL) ∧ Below w.heap.size w wr ∧ v1.ownBlock ≠ v.ownBlock) (fun _ i _ => 11 - (intOf i).toNat)
      case atStart => exact ⟨0, by omega, rfl, hW3, ho1, hB3, hne1⟩
      case round =>
        obtain ⟨k, hk, rfl, hv, hv1, hB, hne⟩ := hrel
        have hzz := hB.size
        by_cases hlt2 : k < 10
        · have hnew : SlR intR (wr.alloc (.cells #[.int .i64 ((k : Int) + 1)] 3)) _ (.slice (some ⟨wr.heap.size, 0, none⟩) 1 1) [(k : Int) + 1] := SlR.one_new ⟨rfl, by unfold inR; omega⟩
          have hal := (Below.refl wr.heap.size wr).alloc (Nat.le_refl _) (.cells #[.int .i64 ((k : Int) + 1)] 3)
          have HN := Go.Lib.hid hnew
          have HV := Go.Lib.hid (hv.keep hal)
          have HV1 := Go.Lib.hid (hv1.keep hal)
          have HNE := Go.Lib.hid hne
          clear hne hne1
          have HBr := Go.Lib.hid (hB.alloc hB.size (.cells #[.int .i64 ((k : Int) + 1)] 3))
          clear hnew hv hv1 hal hB HA HW HB2 HC HZ ho1 hg1 hb1 hB3 hW3
          go_wp2_with (at_builtin; refine wpList_own_append (base := w.heap.size) rfl (.tmp 29) (.tmp 31) rfl elt_int HV.out HN.out rfl rfl (fun _ _ h => h) (by simp [allL, upto]; unfold maxLen; omega) (by simp [allL, upto]; omega) ?_; intro v2 w4 ho2 hg2 hb2)
          go_roundw
          case rel =>
            refine ⟨k + 1, by omega, by go_num, ?_, HV1.out.kept hg2 (.inr HNE.out), OwR.below_grown HV.out HBr.out hg2, ?_⟩
            · rw [show allL ++ upto (k + 1) = (allL ++ upto k) ++ [(k : Int) + 1] from by simp [upto, List.range_succ]]
              exact ho2
            · rcases hb2 with h | h
              · rw [h]; exact HNE.out
              · rw [h]; intro e
                have := (HV1.out.base_le _ e).2
                omega
          case measure => simp [intOf]; omega
        · obtain rfl : k = 10 := by omega
          have e10 : upto 10 = actL := by decide
          rw [e10] at hv
          have hs1 := hv1.sl (by decide)
          have hs2 := hv.sl (by decide)
          obtain ⟨A1, c1, rfl⟩ : ∃ A c, v1 = .slice A 23 c := hs1.form
          obtain ⟨A2, c2, rfl⟩ : ∃ A c, u4 = .slice A 23 c := hs2.form
          have HS1 := Go.Lib.hid hs1
          have HS2 := Go.Lib.hid hs2
          have HBr := Go.Lib.hid hB
          clear hv hv1 hs1 hs2 hne hne1 HA HW HB2 HC HZ ho1 hg1 hb1 hB3 hW3 hB e10
          go_wp2_with fail
          go_loopw [6] (fun i wz => ∃ k n : Nat, k ≤ 23 ∧ i = .int .i64 (k : Int) ∧ wz = wr.drewN n) (fun i _ => 23 - (intOf i).toNat)
          case atStart => exact ⟨0, 0, by omega, rfl, rfl⟩
          case round =>
            obtain ⟨k, n, hk, rfl, rfl⟩ := hrel
            by_cases hlt3 : k < 23
            · obtain ⟨b1, o1, rfl, _⟩ := HS1.out.at_ (k := k) hlt3
              obtain ⟨b2, o2, rfl, _⟩ := HS2.out.at_ (k := k) hlt3
              obtain ⟨f1, _⟩ := HS1.out.int (k := k) hlt3
              obtain ⟨f2, _⟩ := HS2.out.int (k := k) hlt3
              generalize (allL ++ actL)[k]'hlt3 = m at f1 f2
              have h3 : (m != m) = false := by simp
              go_wp2_with fail
              go_quiet (fail)
              go_wp2
              go_roundw
              case rel => exact ⟨k + 1, n + nq, by omega, by go_num, rfl⟩
              case measure => simp [intOf]; omega
            · go_wp2_with fail
              go_ret
              exact ⟨rfl, bDrewN HBr.out _⟩
set_option maxRecDepth 100000 in
theorem names_lifted (os : Os) (started : os.Started) (H : Type) (enc : TypeId × Value → H) :
    ReturnsInHanded {} Try.checked os 3 .any (Rows.namesSpec.pre6 enc Try.prog Try.f3 Rows.namesRow.domain false) (Rows.namesSpec.post enc Try.prog Try.f3 false true false false) := by
  refine returnsInHanded_of_change (C := Try.checked) own started (by kernel_rfl) Try.func3
    (ChangeSpec.witness6 (enc := enc) (C := Try.checked) false ⟨#[], #[], []⟩ 8 (by kernel_rfl) (by kernel_rfl) (by kernel_rfl) (by kernel_rfl)) ?_
  intro W base args ds gs before hval0 hW _ _
  have hval : ∀ (j : Nat) t v, Try.f3.params[j]? = some t → args[j]? = some v → Value.okWide Try.prog W .any base t v := hval0
  have hW' := hW
  obtain ⟨p, q, hA0, hV, rfl, hfz, _⟩ := hW
  have hA : DataW.TrodAll enc Try.prog W 0 (fun _ => true) true Try.f3.params.toList args.toList ds p := hA0
  rw [Try.params3] at hA hval
  obtain ⟨rfl, rfl⟩ := trodVars_none hV
  obtain ⟨rfl, rfl, rfl⟩ := trodAll_none hA
  refine (names_walk  W ).mono fun e W' ⟨he, hb⟩ => ?_
  subst he
  exact ⟨_, rfl, law_post hW' laidOut (by rw [Try.params3]; intro t ht; simp at ht; ) rfl rfl Try.underlying4 rfl rfl rfl hb⟩

theorem names_holds : Rows.NamesSaid :=
  OpenClaim.holds_of_wide 3 Try.f3 rfl rfl rfl rfl rfl rfl rfl ⟨rfl, rfl, rfl, rfl, rfl⟩ rfl rfl rfl rfl rfl (by kernel_rfl) Try.func3 (by kernel_rfl)
    (of_decide_eq_true (by kernel_rfl)) (by unfold Func.isWrapper; rw [if_neg (of_decide_eq_false (by kernel_rfl))]; exact ⟨rfl, rfl⟩)
    (fun os started H enc _ => names_lifted os started H enc)
#print axioms names_holds
end Go.Proofs.Ytbpamllmbdcdfaa
