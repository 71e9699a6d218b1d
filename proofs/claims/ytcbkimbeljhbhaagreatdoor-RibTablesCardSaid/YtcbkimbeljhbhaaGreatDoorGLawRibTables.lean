/-
  Proved here: the law RibTables returns true for every list of entries and every int; the listed package-level variables hold what the program's text lays.
-/
import Derived.Test.YtcbkimbeljhbhaaGreatDoorGTbH
import Derived.Test.YtcbkimbeljhbhaaGreatDoorGSame
import Derived.Test.YtcbkimbeljhbhaaGreatDoorGDoW
import Derived.Lib.QuietBelow
set_option linter.unusedVariables false
set_option linter.unusedSimpArgs false
namespace Go.Proofs.YtcbkimbeljhbhaaGreatDoor
open Go Go.RowKit Go.Deep Go.ChangeShapes Go.WideShapes Go.ChangeAt

set_option maxRecDepth 50000 in
set_option maxHeartbeats 1000000 in
theorem sameTable_eq (v1 v2 : Value) (xs : List Route) (w : World) (h1 : Sl routeR w v1 xs) (h2 : Sl routeR w v2 xs) :
    Calls Tryz.prog 10 #[v1, v2] w fun e w' => e = .returned (.bool true) ∧ Below w.heap.size w w' := by
  have hl := h1.len_le
  obtain ⟨A1, c1, rfl⟩ := h1.form
  obtain ⟨A2, c2, rfl⟩ := h2.form
  have H1 := Go.Lib.hid h1
  have H2 := Go.Lib.hid h2
  clear h1 h2
  go_enter Tryz.func10, Tryz.ntmps10
  go_wp2_with fail
  go_loopw [5] (fun s5 wr => ∃ k : Nat, k ≤ xs.length ∧ s5 = .int .i64 k ∧ Below w.heap.size w wr) (fun s5 _ => xs.length - (intOf s5).toNat)
  case atStart => exact ⟨0, Nat.zero_le _, rfl, Below.refl _ _⟩
  case round =>
    obtain ⟨k, hk, rfl, hB⟩ := hrel
    have HB := Go.Lib.hid hB
    by_cases hlt : k < xs.length
    · obtain ⟨b1, o1, rfl, hb1⟩ := H1.out.at_ hlt
      obtain ⟨b2, o2, rfl, hb2⟩ := H2.out.at_ hlt
      obtain ⟨u1, f0, f1, f2, f3, f4, f5, _⟩ := (H1.out.below hB).route hlt
      obtain ⟨u2, g0, g1, g2, g3, g4, g5, _⟩ := (H2.out.below hB).route hlt
      have r0 : (0 : Int) ≤ (k : Int) := Int.natCast_nonneg _
      have r1 : (k : Int) < (xs.length : Int) := by omega
      obtain ⟨y, hy⟩ : ∃ q, q = xs[k] := ⟨_, rfl⟩
      rw [← hy] at f0 f1 f2 f3 f5 g0 g1 g2 g3 g5
      have HF := Go.Lib.hid f5
      have HG := Go.Lib.hid g5
      have l0 := cell_regrown f0
      have l1 := cell_regrown f1
      have l2 := cell_regrown f2
      have l3 := cell_regrown f3
      have l4 := cell_regrown f4
      have m0 := cell_regrown g0
      have m1 := cell_regrown g1
      have m2 := cell_regrown g2
      have m3 := cell_regrown g3
      have m4 := cell_regrown g4
      have cS : ∀ d os, Calls Tryz.prog 33 #[.agg #[.int .i64 y.pre.addr, .int .i64 y.pre.bits, .bool y.here, .int .i64 y.cost, u1], .agg #[.int .i64 y.pre.addr, .int .i64 y.pre.bits, .bool y.here, .int .i64 y.cost, u2]] (Sort.grow (redrawn wr d) os) fun e w'' => e = .returned (.bool true) ∧ ∃ p : Regrown, w'' = Sort.grow (redrawn wr p.d) p.os := fun d os => Calls.regrown_of (sameRoute_eq y u1 u2 _ (HF.out.below (below_regrown wr d os)) (HG.out.below (below_regrown wr d os)))
      clear hB hy f0 f1 f2 f3 f4 f5 g0 g1 g2 g3 g4 g5
      go_wp2_with fail
      refine wp_region_quiet_below (by kernel_rfl) (by kernel_rfl) ?_
      repeat (quiet_step (fail))
      quiet_step (exact cS _ _)
      repeat (quiet_step (fail))
      refine wpQuiet_nil ?_
      intro _ hw'
      obtain ⟨⟨dq, osq⟩, hw''⟩ := hw'
      subst hw''
      clear cS l0 l1 l2 l3 l4 m0 m1 m2 m3 m4
      go_wp2_with fail
      go_roundw
      case rel => exact ⟨k + 1, by omega, by go_num, HB.out.trans ((below_regrown wr dq osq).mono HB.out.size)⟩
      case measure => simp [intOf]; omega
    · clear hB
      go_wp2_with fail
      go_ret
      exact ⟨rfl, HB.out⟩

set_option maxRecDepth 50000 in
set_option maxHeartbeats 400000 in
theorem ribTables_walk (v : Value) (xs : List Entry) (f : Int) (w : World) (h : Sl entR w v xs) (hf : inR f) (hE : Env w) :
    Calls Tryz.prog 3 #[v, .int .i64 f] w fun e w' => e = .returned (.bool true) ∧ Below w.heap.size w w' := by
  have HS := Go.Lib.hid (table_any v xs f w h hf hE)
  have HR := Go.Lib.hid (fun w1 (hb : Below w.heap.size w w1) => tableOf_any v xs f w1 (h.below hb) (hE.below hb))
  clear h hE
  unfold TabPost at HS HR
  generalize tableS xs f = g at *
  obtain ⟨ys, n⟩ := g
  go_enter Tryz.func3, Tryz.ntmps3
  go_wp2_with (first
    | (go_at_call 8; refine HS.out.mono ?_; rintro e w1 ⟨v1, rfl, hs1, hb1⟩; have HB1 := Go.Lib.hid hb1; have HS1 := Go.Lib.hid (hs1.sl (by decide)); clear hb1 hs1)
    | (go_at_call 9; refine (HR.out _ HB1.out).mono ?_; rintro e w2 ⟨v2, rfl, hs2, hb2⟩; have HB2 := Go.Lib.hid hb2; have HS2 := Go.Lib.hid (hs2.sl (by decide)); clear hb2 hs2)
    | (go_at_call 10; refine (sameTable_eq v1 v2 ys _ (HS1.out.below HB2.out) HS2.out).mono ?_; rintro e w3 ⟨rfl, hb3⟩))
  all_goals
    go_ret
    exact ⟨rfl, (HB1.out.trans (HB2.out.mono HB1.out.size)).trans (hb3.mono (by have := HB1.out.size; have := HB2.out.size; omega))⟩

set_option maxRecDepth 100000 in
theorem ribTables_contract (H : Type) (enc : TypeId × Value → H) (W : World) (base : Nat) (args : Array Value) (ds gs : List (DataW H)) (before : List MemPlace)
    (hval0 : ∀ (j : Nat) t v, Tryz.f3.params[j]? = some t → args[j]? = some v → Value.okWide Tryz.prog W .any base t v)
    (hW : DataW.Whole enc Tryz.prog Tryz.f3.params.toList Rows.ribTablesSpec.vars false W args.toList ds gs before) (hE : Env W) :
    Calls Tryz.prog 3 args W fun e W' => ∃ v, e = .returned v ∧ Rows.ribTablesSpec.post enc Tryz.prog Tryz.f3 false true false false W args v W' := by
  have hval : ∀ (j : Nat) t v, Tryz.f3.params[j]? = some t → args[j]? = some v → Value.okWide Tryz.prog W .any base t v := hval0
  have hW' := hW
  obtain ⟨p, q, hA0, hV, rfl, hfz, _⟩ := hW
  have hA : DataW.TrodAll enc Tryz.prog W 0 (fun _ => true) true Tryz.f3.params.toList args.toList ds p := hA0
  rw [Tryz.params3] at hA hval
  obtain ⟨rfl, rfl⟩ := trodVars_none hV
  obtain ⟨v0, v1, d0, d1, p0, p1, rfl, rfl, rfl, h0, h1⟩ := trodAll_two hA
  obtain ⟨x0, hx0⟩ := open_sl Tryz.underlying22 opens_ents (hval 0 22 v0 rfl rfl) h0
  obtain ⟨x1, rfl, rfl, rfl, wx1⟩ := open_int Tryz.underlying3 (hval 1 3 v1 rfl rfl) h1
  have hx1 : inR x1 := inR_of wx1
  refine (ribTables_walk v0 x0 x1 W hx0 hx1 hE).mono fun e W' ⟨he, hb⟩ => ?_
  subst he
  exact ⟨_, rfl, law_post hW' laidOut (by rw [Tryz.params3]; intro t ht; simp at ht; rcases ht with rfl | rfl <;> exact ⟨by kernel_rfl, of_decide_eq_true (by kernel_rfl)⟩) rfl rfl Tryz.underlying4 rfl rfl rfl hb⟩

theorem ribTables_reads (os : Os) {H : Type} (enc : TypeId × Value → H) : ∃ places, DataW.whole enc Tryz.prog ((laidW7 os).forCall (fun _ _ => 0) ⟨#[], #[.slice none 0 0, .int .i64 0], []⟩).memory Tryz.f3.params.toList Rows.ribTablesSpec.vars false (#[.slice none 0 0, .int .i64 0] : Array Value).toList 8 = some ([.nil, .lit (.int .i64 0)], [], places) :=
  ⟨[], by kernel_rfl⟩
set_option maxRecDepth 100000 in
theorem ribTables_lifted (os : Os) (started : os.Started) (H : Type) (enc : TypeId × Value → H) (F : Stop.Interp) :
    ReturnsInHanded {} Tryz.checked os 3 .any ((OpenSpec.ofChange Rows.ribTablesSpec).preRow enc Tryz.prog Tryz.f3 Rows.ribTablesRow.domain false Rows.ribTablesRow.laid) (((OpenSpec.ofChange Rows.ribTablesSpec).at F).post enc Tryz.prog Tryz.f3 false true false false) := by
  obtain ⟨places, hx⟩ := ribTables_reads os enc
  refine returnsInHanded_of_row (C := Tryz.checked) (s := OpenSpec.ofChange Rows.ribTablesSpec) own started (by kernel_rfl) Tryz.func3
    (witness_row_at (enc := enc) (C := Tryz.checked) false (laidW7 os) #[.slice none 0 0, .int .i64 0] rfl (by kernel_rfl) (by kernel_rfl) (by kernel_rfl)
      (OpenSpec.preRow_of_cond 8 hx (by kernel_rfl) (fun k hk => by cases hk) (by kernel_rfl) (laid_met7 os _))) ?_
  intro W base args ds gs before hval hW _ hcond _ hL hsh _
  exact ribTables_contract H enc W base args ds gs before hval hW (env_of hL hsh)
theorem ribTables_said : Rows.RibTablesSaid :=
  OpenClaim.holds_of_cond 3 Tryz.f3 rfl rfl rfl rfl rfl rfl rfl ⟨rfl, rfl, rfl, rfl, rfl⟩ rfl rfl rfl rfl rfl (by kernel_rfl) Tryz.func3 (by kernel_rfl)
    (of_decide_eq_true (by kernel_rfl)) (by unfold Func.isWrapper; first | (rw [if_pos (by decide +kernel)]; kernel_rfl) | (rw [if_neg (by decide +kernel)]; exact ⟨rfl, rfl⟩))
    (fun os started H enc _ F => by rw [OpenClaim.pre_eq_preRow]; exact ribTables_lifted os started H enc F)
theorem ribTables_plain (f : FuncId) (fn : Func) (hf : Tryz.pinned.checked.prog.funcNamed "tollbar/tollbarlaw.RibTables" = some f) (hfn : Tryz.pinned.checked.prog.funcs[f]? = some fn) :
    true = Tryz.pinned.checked.prog.looks [] ∧ ∀ (j : Nat) t, fn.params[j]? = some t → Tryz.pinned.checked.prog.wantsStandIn t = false := by
  obtain rfl : f = 3 := Option.some.inj ((show Tryz.prog.funcNamed "tollbar/tollbarlaw.RibTables" = some 3 by kernel_rfl).symm.trans hf) |>.symm
  obtain rfl : fn = Tryz.f3 := (Option.some.inj (Tryz.func3.symm.trans hfn)).symm
  refine ⟨by kernel_rfl, fun j t ht => ?_⟩
  rw [Tryz.params3] at ht
  have hm := Array.mem_of_getElem? ht
  simp at hm
  rcases hm with rfl | rfl
  · exact (show Tryz.prog.wantsStandIn 22 = false by kernel_rfl)
  · exact (show Tryz.prog.wantsStandIn 3 = false by kernel_rfl)
theorem ribTables_holds : Rows.RibTablesCardSaid :=
  Claim7.holds_tied_plain_at .later [] _ _ _ _ ribTables_said (fun _ h => by cases h) (by kernel_rfl) (fun _ h => by cases h) ribTables_row_tie rfl ⟨rfl, rfl⟩ (by kernel_rfl) rfl ribTables_plain (by kernel_rfl)
#print axioms ribTables_holds
end Go.Proofs.YtcbkimbeljhbhaaGreatDoor
