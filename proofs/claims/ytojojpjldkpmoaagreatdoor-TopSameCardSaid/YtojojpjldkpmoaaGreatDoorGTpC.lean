/-
  
-/
import Derived.Test.YtojojpjldkpmoaaGreatDoorGNwG
import Derived.Test.YtojojpjldkpmoaaGreatDoorGNtF
import Derived.Test.YtojojpjldkpmoaaGreatDoorGNwN
import Derived.Test.YtojojpjldkpmoaaGreatDoorGKaA
import Derived.Test.YtojojpjldkpmoaaGreatDoorGNwA
import Derived.Test.YtojojpjldkpmoaaGreatDoorGKeO
import Derived.Test.YtojojpjldkpmoaaGreatDoorGRibQ
import Derived.Test.YtojojpjldkpmoaaGreatDoorGStM
set_option linter.unusedVariables false
set_option linter.unusedSimpArgs false
set_option maxHeartbeats 16000000
namespace Go.Proofs.YtojojpjldkpmoaaGreatDoor
section
open Go Go.RowKit Go.Deep
def sRow (a b : Nat) : List ActV := sendsL (((List.range b).filter fun b => decide (a ≠ b)).map fun b => (a, b))
def passTo (a : Nat) : List ActV := sendsL ((List.range a).flatMap fun a => ((List.range 5).filter fun b => decide (a ≠ b)).map fun b => (a, b))
theorem sRow_succ (a b : Nat) : sRow a (b + 1) = if a = b then sRow a b else sRow a b ++ [sendA a b] := by
 unfold sRow sendsL
 rw [zcb, zbC]
 by_cases h : a = b
 · rw [if_pos h]; simp [h]
 · rw [if_neg h]; simp [h]
theorem passTo_succ (a : Nat) : passTo (a + 1) = passTo a ++ sRow a 5 := by
 unfold passTo sRow sendsL
 rw [show List.range (a + 1) = List.range a ++ [a] from zcb, List.flatMap_append, zbf, List.flatMap_cons, List.flatMap_nil, zbq]
theorem sRow_len (a : Nat) : ∀ b, (sRow a b).length <= b
 | 0 => zab _
 | b + 1 => by
   have := sRow_len a b
   rw [sRow_succ]
   split
   · omega
   · simp; omega
theorem passTo_len : ∀ a, (passTo a).length <= 5 * a
 | 0 => zab _
 | a + 1 => by
   have := passTo_len a
   have := sRow_len a 5
   rw [passTo_succ, zah]; omega
theorem passTo_five : passTo 5 = sendsL pairs5 := rfl
theorem passL_len : ∀ n, (passL n).length <= 25 * n
 | 0 => zab _
 | n + 1 => by
   have := passL_len n
   have := passTo_len 5
   rw [show passL (n + 1) = passL n ++ sendsL pairs5 from rfl, zah, <- passTo_five]; omega
theorem tellsL_len (n : Nat) : (tellsL n).length = n := by simp [tellsL]
theorem decidesL_len (n : Nat) : (decidesL n).length = n := by simp [decidesL]
theorem emptyA : (⟨#[]⟩ : ByteArray).size <= maxLen := by decide
theorem node_wf {a : Nat} (h : a < 12) : inR (a : Int) := by unfold inR; omega
theorem small_in {n : Int} (h : -100 <= n /\ n <= 100) : inR n := by unfold inR; omega
theorem small0 : inR 0 := small_in (by decide)
theorem act_wf {k a b n : Int} (hk : -100 <= k /\ k <= 100) (ha : inR a) (hb : inR b) (hn : -100 <= n /\ n <= 100) : (⟨k, a, b, n, 0, ⟨0, 0⟩, ⟨#[]⟩, ⟨#[]⟩⟩ : ActV).wf :=
 ⟨small_in hk, ha, hb, small_in hn, small0, small0, small0, emptyA, emptyA⟩
theorem tellC_wf {a : Nat} (h : a < 12) : (tellC a).wf := act_wf (by decide) (node_wf h) (small_in (by decide)) (by decide)
theorem decideC_wf {a : Nat} (h : a < 12) : (decideC a).wf := act_wf (by decide) (node_wf h) (small_in (by decide)) (by decide)
theorem sendA_wf {a b : Nat} (h : a < 12) (hb : b < 12) : (sendA a b).wf := act_wf (by decide) (node_wf h) (node_wf hb) (by decide)
set_option maxRecDepth 50000 in
theorem settle_any (w : World) :
  Calls Tryz.prog 8 #[.int .i64 5] w fun e w' => ∃ v', e = .returned v' /\ OwR actR 34 w.heap.size w' v' settleL /\ Below w.heap.size w w' := by
 go_enter Tryz.func8, Tryz.ntmps8
 go_wp2_with fail
 go_loopw [3, 9] (fun o i wr => ∃ k : Nat, k <= 5 /\ i = .int .i64 k /\ OwR actR 34 w.heap.size wr o (tellsL k) /\ Below w.heap.size w wr) (fun _ i _ => 5 - (intOf i).toNat)
 case atStart => exact ⟨0, zak _, rfl, OwR.nil _ _ (zab _), zad _ _⟩
 case round =>
  obtain ⟨k, hk, rfl, ho, hb⟩ := hrel
  have HO := zaa ho
  have HB := zaa hb
  clear ho hb
  by_cases hlt : k < 5
  · have hki : (k : Int) < 5 := by omega
    have HLE := zaa (show (tellsL k).length <= 1000000 by rw [tellsL_len]; omega)
    have HWF := zaa (tellC_wf (a := k) (by omega))
    go_wp2_with (at_builtin; refine wpList_oneR (r := actR) (base := w.heap.size) (y := tellC k) (S := fun _ => False) elt_actA rfl (.tmp 12) (.tmp 15) rfl HO.out ⟨rfl, HWF.out⟩ (fun _ h => h.elim) rfl rfl (by first | rfl | simp) HLE.out (by decide) ?_; intro v5 w5 ho5 hg5)
    have HB5 := zaa ((ow_alloc HO.out _).below_grown ((HB.out).alloc (HO.out).choose_spec.2.2.2 _) hg5.grown)
    have HO5 := zaa ho5
    clear ho5 hg5
    go_roundw
    case rel => exact ⟨k + 1, by omega, by go_num, by rw [tellsL_succ]; exact HO5.out, HB5.out⟩
    case measure => simp [intOf]; omega
  · have hki : ¬ (k : Int) < 5 := by omega
    have e5 : k = 5 := by omega
    rw [e5] at HO
    clear e5 hlt hk
    obtain ⟨WR1, rfl⟩ : ∃ m, m = wr := ⟨wr, rfl⟩
    go_wp2_with fail
    go_loopw [3, 20] (fun o i wr => ∃ n : Nat, n <= 4 /\ i = .int .i64 n /\ OwR actR 34 w.heap.size wr o (tellsL 5 ++ passL n) /\ Below w.heap.size w wr) (fun _ i _ => 4 - (intOf i).toNat)
    case atStart => exact ⟨0, zak _, rfl, by rw [show passL 0 = [] from rfl, zbq]; exact HO.out, HB.out⟩
    case round =>
     obtain ⟨n, hn, rfl, ho2, hb2⟩ := hrel
     have HO2 := zaa ho2
     have HB2 := zaa hb2
     clear ho2 hb2 HO HB
     by_cases hln : n < 4
     · have hni : (n : Int) < 4 := by omega
       obtain ⟨L2, hL2⟩ : ∃ L, L = tellsL 5 ++ passL n := ⟨_, rfl⟩
       have HL2 := zaa hL2
       have HLL := zaa (show L2.length <= 200 by rw [hL2, zah, tellsL_len]; have := passL_len n; omega)
       rw [<- hL2] at HO2
       clear hL2
       obtain ⟨WR2, rfl⟩ : ∃ m, m = wr := ⟨wr, rfl⟩
       go_wp2_with fail
       go_loopw [3, 23] (fun o i wr => ∃ a : Nat, a <= 5 /\ i = .int .i64 a /\ OwR actR 34 w.heap.size wr o (L2 ++ passTo a) /\ Below w.heap.size w wr) (fun _ i _ => 5 - (intOf i).toNat)
       case atStart => exact ⟨0, zak _, rfl, by rw [show passTo 0 = [] from rfl, zbq]; exact HO2.out, HB2.out⟩
       case round =>
        obtain ⟨a, ha, rfl, ho3, hb3⟩ := hrel
        have HO3 := zaa ho3
        have HB3 := zaa hb3
        clear ho3 hb3 HO2 HB2
        by_cases hla : a < 5
        · have hai : (a : Int) < 5 := by omega
          obtain ⟨L3, hL3⟩ : ∃ L, L = L2 ++ passTo a := ⟨_, rfl⟩
          have HL3 := zaa hL3
          have HLL3 := zaa (show L3.length <= 300 by rw [hL3, zah]; have := passTo_len a; have := HLL.out; omega)
          rw [<- hL3] at HO3
          clear hL3
          obtain ⟨WR3, rfl⟩ : ∃ m, m = wr := ⟨wr, rfl⟩
          go_wp2_with fail
          go_loopw [3, 27] (fun o i wr => ∃ b : Nat, b <= 5 /\ i = .int .i64 b /\ OwR actR 34 w.heap.size wr o (L3 ++ sRow a b) /\ Below w.heap.size w wr) (fun _ i _ => 5 - (intOf i).toNat)
          case atStart => exact ⟨0, zak _, rfl, by rw [show sRow a 0 = [] from rfl, zbq]; exact HO3.out, HB3.out⟩
          case round =>
           obtain ⟨b, hb, rfl, ho4, hb4⟩ := hrel
           have HO4 := zaa ho4
           have HB4 := zaa hb4
           clear ho4 hb4 HO3 HB3
           by_cases hlb : b < 5
           · have hbi : (b : Int) < 5 := by omega
             have HLE := zaa (show (L3 ++ sRow a b).length <= 1000000 by rw [zah]; have := sRow_len a b; have := HLL3.out; omega)
             by_cases hab : a = b
             · have hne : ((a : Int) != (b : Int)) = false := by rw [hab]; simp
               have HRS := zaa (show sRow a (b + 1) = sRow a b by rw [sRow_succ, if_pos hab])
               clear hab
               go_wp2_with fail
               go_roundw
               case rel => exact ⟨b + 1, by omega, by go_num, by rw [HRS.out]; exact HO4.out, HB4.out⟩
               case measure => simp [intOf]; omega
             · have hne : ((a : Int) != (b : Int)) = true := by simp; omega
               have HRS := zaa (show L3 ++ sRow a (b + 1) = (L3 ++ sRow a b) ++ [sendA a b] by rw [sRow_succ, if_neg hab, zaS])
               have HWF := zaa (sendA_wf (a := a) (b := b) (by omega) (by omega))
               clear hab
               go_wp2_with (at_builtin; refine wpList_oneR (r := actR) (base := w.heap.size) (y := sendA a b) (S := fun _ => False) elt_actA rfl (.tmp 33) (.tmp 37) rfl HO4.out ⟨rfl, HWF.out⟩ (fun _ h => h.elim) rfl rfl (by first | rfl | simp) HLE.out (by decide) ?_; intro v5 w5 ho5 hg5)
               have HB5 := zaa ((ow_alloc HO4.out _).below_grown ((HB4.out).alloc (HO4.out).choose_spec.2.2.2 _) hg5.grown)
               have HO5 := zaa ho5
               clear ho5 hg5
               go_roundw
               case rel => exact ⟨b + 1, by omega, by go_num, by rw [HRS.out]; exact HO5.out, HB5.out⟩
               case measure => simp [intOf]; omega
           · obtain rfl : b = 5 := by omega
             go_wp2_with fail
             go_roundw
             case rel => exact ⟨a + 1, by omega, by go_num, by rw [passTo_succ, <- zaS, <- HL3.out]; exact HO4.out, HB4.out⟩
             case measure => simp [intOf]; omega
        · obtain rfl : a = 5 := by omega
          go_wp2_with fail
          go_roundw
          case rel => exact ⟨n + 1, by omega, by go_num, by rw [show passL (n + 1) = passL n ++ sendsL pairs5 from rfl, <- zaS, <- HL2.out, <- passTo_five]; exact HO3.out, HB3.out⟩
          case measure => simp [intOf]; omega
     · have hni : ¬ (n : Int) < 4 := by omega
       have e4 : n = 4 := by omega
       rw [e4] at HO2
       clear e4 hln hn
       obtain ⟨L2, hL2⟩ : ∃ L, L = tellsL 5 ++ passL 4 := ⟨_, rfl⟩
       have HL2 := zaa hL2
       have HLL := zaa (show L2.length <= 200 by rw [hL2, zah, tellsL_len]; have := passL_len 4; omega)
       rw [<- hL2] at HO2
       clear hL2
       obtain ⟨WR4, rfl⟩ : ∃ m, m = wr := ⟨wr, rfl⟩
       go_wp2_with fail
       go_loopw [3, 43] (fun o i wr => ∃ k : Nat, k <= 5 /\ i = .int .i64 k /\ OwR actR 34 w.heap.size wr o (L2 ++ decidesL k) /\ Below w.heap.size w wr) (fun _ i _ => 5 - (intOf i).toNat)
       case atStart => exact ⟨0, zak _, rfl, by rw [show decidesL 0 = [] from rfl, zbq]; exact HO2.out, HB2.out⟩
       case round =>
        obtain ⟨k, hk, rfl, ho3, hb3⟩ := hrel
        have HO3 := zaa ho3
        have HB3 := zaa hb3
        clear ho3 hb3 HO2 HB2
        by_cases hlk : k < 5
        · have hki : (k : Int) < 5 := by omega
          have HLE := zaa (show (L2 ++ decidesL k).length <= 1000000 by rw [zah, decidesL_len]; have := HLL.out; omega)
          have HWF := zaa (decideC_wf (a := k) (by omega))
          go_wp2_with (at_builtin; refine wpList_oneR (r := actR) (base := w.heap.size) (y := decideC k) (S := fun _ => False) elt_actA rfl (.tmp 46) (.tmp 49) rfl HO3.out ⟨rfl, HWF.out⟩ (fun _ h => h.elim) rfl rfl (by first | rfl | simp) HLE.out (by decide) ?_; intro v5 w5 ho5 hg5)
          have HB5 := zaa ((ow_alloc HO3.out _).below_grown ((HB3.out).alloc (HO3.out).choose_spec.2.2.2 _) hg5.grown)
          have HO5 := zaa ho5
          clear ho5 hg5
          go_roundw
          case rel => exact ⟨k + 1, by omega, by go_num, by rw [decidesL_succ, <- zaS]; exact HO5.out, HB5.out⟩
          case measure => simp [intOf]; omega
        · obtain rfl : k = 5 := by omega
          go_wp2_with fail
          go_ret
          exact ⟨_, rfl, by unfold settleL; rw [<- HL2.out]; exact HO3.out, HB3.out⟩
theorem Sl.store {w : World} {b off c n : Nat} {xs : List (List Entry)} (h : Sl (slR entR) w (.slice (some ⟨b, off, none⟩) n c) xs) {k : Nat} (hk : k < xs.length) :
  ∃ v, w.cell? ⟨b, off + k, none⟩ = some v /\ Sl entR w v xs[k] := by
 obtain ⟨cs, ⟨v, rfl, h1⟩, hc⟩ := h.cell hk
 exact ⟨v, by simpa [slR] using hc 0 _ rfl, h1⟩
theorem runS_len0 (acts : List ActV) : (runS net0 acts).2.length = acts.length := runS_len acts net0
theorem toprun_any (v : Value) (acts : List ActV) (w : World) (h : Sl actR w v acts) (hl : acts.length <= 400) (hE : Env w) :
  Calls Tryz.prog 6 #[v] w (RunP acts w) := by
 have HR := zaa (nrun_any v acts w h hl hE)
 obtain ⟨A, c, rfl⟩ := h.form
 clear h
 go_enter Tryz.func6, Tryz.ntmps6
 go_wp2_with fail
 refine HR.out.mono ?_
 rintro e w1 ⟨vr, vs, rfl, hr, hs, hb⟩
 obtain ⟨Ar, cr, rfl⟩ := hr.form
 obtain ⟨As, cs, rfl⟩ := hs.form
 have HRR := zaa hr
 have HSS := zaa hs
 have HB := zaa hb
 have HLN := zaa (runS_len0 acts)
 obtain ⟨nr, hnr⟩ : ∃ n, n = (runS net0 acts).2.length := ⟨_, rfl⟩
 obtain ⟨ns, hns⟩ : ∃ n, n = ((List.range 12).map fun i => ((runS net0 acts).1.nd i).st).length := ⟨_, rfl⟩
 have HNR := zaa hnr
 have HNS := zaa hns
 rw [<- hnr] at HLN ⊢
 rw [<- hns]
 clear hr hs hb hnr hns
 have e1 : ((nr : Int) != (acts.length : Int)) = false := by rw [HLN.out]; simp
 go_wp2_with fail
 go_ret3
 exact ⟨_, _, rfl, by rw [HNR.out]; exact HRR.out, by rw [HNS.out]; exact HSS.out, HB.out⟩
end
section
open Go
theorem drawn_tame {c : ActV} (h : RawAct 5 c) (hk : c.kind ≠ 8) : Tame c := ⟨hk, h.a.1, by have := h.a.2; omega, by have := h.b.2; omega⟩
theorem lit_isN {a : Nat} (ha : a < 12) : isN (a : Int) = true := (isN_iff _).2 ⟨by omega, by omega⟩
theorem settle_len : settleL.length = 90 := by kernel_rfl
theorem topSame_says {acts : List ActV} (ht : ∀ c ∈ acts, Tame c) (hl : acts.length <= 1000) :
  ∃ z t, (runS net0 (acts ++ settleL)).1 = z /\ Stl z t /\ linesS (fun _ _ => 0) acts ((runS net0 (acts ++ settleL)).2.take acts.length) = z.co := by
 obtain ⟨h1, h2⟩ := acts_stl ht hl
 have hr := run_lines acts net0
 refine ⟨runN net0 (acts ++ settleL), _, rfl, h1, ?_⟩
 rw [h2.co, runS_append acts settleL, List.take_left' (runS_len acts net0)]
 exact hr
theorem topSteps_says (acts : List ActV) (k : Nat) : (runS net0 (acts.take k)).2 = (runS net0 acts).2.take k := by
 rcases zbu acts.length k with h | h
 · rw [zaG (by omega), zaG (by rw [runS_len]; omega)]
 · have e : acts = acts.take k ++ acts.drop k := (List.take_append_drop k acts).symm
   rw [show (runS net0 acts).2 = (runS net0 (acts.take k ++ acts.drop k)).2 by rw [<- e], runS_append]
   rw [List.take_left' (by rw [runS_len, zaq]; omega)]
end
section
open Go Go.RowKit Go.Deep
theorem OwR.cutR {k E base : Nat} {w : World} {g n cap : Nat} {xs : List (List Value)} (h : OwR (cellR k) E base w (.slice (some ⟨g, 0, none⟩) n cap) xs) {i : Nat} (hi : i <= xs.length) :
  OwR (cellR k) E base w (.slice (some ⟨g, 0, none⟩) i cap) (xs.take i) := by
 obtain ⟨h1, h2, h3⟩ := OwR.to_raw h
 refine OwR.of_raw ?_ (fun x hx => h2 x (zbh hx)) h3
 have hl : (xs.take i).length = i := by rw [zaq]; omega
 have hm : i * k <= xs.length * k := Nat.mul_le_mul_right k hi
 rw [hl, flatK_take h2]
 refine ⟨by rw [zaq, h1.1]; exact Nat.min_eq_left hm, ?_⟩
 rcases h1.2 with ⟨h', _⟩ | ⟨g', cap', cur, h', hb, hg, hnc, hcm, hcs, htake⟩
 · cases h'
 · injection h' with e1 e2 e3
   subst e3
   refine .inr ⟨g', cap, cur, by rw [e1], hb, hg, by omega, hcm, hcs, ?_⟩
   rw [<- htake, List.take_take]
   congr 1
   exact (Nat.min_eq_left hm).symm
theorem OwR.setMany {k E base g n cap : Nat} (hk : 0 < k) : ∀ (zs : List Value) (o : Nat) (w : World) (css : List (List Value)), (∀ z ∈ zs, z.oneCell' = true) -> o + zs.length <= css.length * k -> OwR (cellR k) E base w (.slice (some ⟨g, 0, none⟩) n cap) css ->
  ∃ css', css'.length = css.length /\ (∀ t, (t + 1) * k <= o -> css'[t]? = css[t]?) /\ OwR (cellR k) E base (w.setCells g o zs) (.slice (some ⟨g, 0, none⟩) n cap) css'
 | [], o, w, css, _, _, h => ⟨css, rfl, fun _ _ => rfl, h⟩
 | z :: zs, o, w, css, hz, ho, h => by
   rw [zaw] at ho
   have hi : o / k < css.length := (Nat.div_lt_iff_lt_mul hk).2 (by omega)
   have s := h.setRaw (i := o / k) (j := o % k) hi (Nat.mod_lt _ hk) (u := z) (hz z (by simp))
   rw [Nat.div_add_mod'] at s
   obtain ⟨css', c1, c2, c3⟩ := OwR.setMany hk zs (o + 1) _ _ (fun y hy => hz y (by simp [hy])) (by rw [zbx]; omega) s
   refine ⟨css', by rw [c1, zbx], fun t ht => ?_, c3⟩
   rw [c2 t (by omega), zbD]
   intro e
   have : t + 1 <= o / k := (Nat.le_div_iff_mul_le hk).2 ht
   omega
theorem OwR.setSome {k E base g n cap i : Nat} : ∀ (zs old pre : List Value) (w : World) (css : List (List Value)), (∀ z ∈ zs, z.oneCell' = true) -> css[i]? = some (pre ++ old) -> old.length = zs.length -> pre.length + zs.length = k -> OwR (cellR k) E base w (.slice (some ⟨g, 0, none⟩) n cap) css ->
  OwR (cellR k) E base (w.setCells g (i * k + pre.length) zs) (.slice (some ⟨g, 0, none⟩) n cap) (css.set i (pre ++ zs))
 | [], old, pre, w, css, _, hc, ho, _, h => by
   obtain rfl : old = [] := zat ho
   obtain ⟨hi, he⟩ := zax.1 hc
   rw [<- he, List.set_getElem_self]; exact h
 | z :: zs, [], pre, w, css, _, _, ho, _, _ => by cases ho
 | z :: zs, o :: old, pre, w, css, hz, hc, ho, hk, h => by
   obtain ⟨hi, he⟩ := zax.1 hc
   have s := h.setRaw (i := i) (j := pre.length) hi (by rw [zaw] at hk; omega) (u := z) (hz z (by simp))
   rw [he, zca _ _ (zab _), Nat.sub_self, List.set_cons_zero] at s
   have e : pre ++ [z] ++ zs = pre ++ z :: zs := by simp
   have e2 : i * k + (pre ++ [z]).length = i * k + pre.length + 1 := by simp; omega
   have t := OwR.setSome zs old (pre ++ [z]) (w.setCell ⟨g, i * k + pre.length, none⟩ z) _ (fun y hy => hz y (by simp [hy])) (by rw [zbw hi]; simp) (by simpa using ho) (by simp at hk ⊢; omega) s
   rw [List.set_set, e, e2] at t
   exact t
theorem act_one (y : ActV) : ∀ u ∈ y.cells, u.oneCell' = true := fun u h => by
 simp [ActV.cells] at h
 rcases h with rfl | rfl | rfl | rfl | rfl | rfl | rfl | rfl | rfl <;> rfl
theorem OwR.setAct {base : Nat} {w : World} {g n cap : Nat} {xs : List ActV} (h : OwR actR 34 base w (.slice (some ⟨g, 0, none⟩) n cap) xs) {i : Nat} (hi : i < xs.length) {y : ActV} (hy : y.wf) :
  OwR actR 34 base (w.setCells g (i * 9) y.cells) (.slice (some ⟨g, 0, none⟩) n cap) (xs.set i y) := by
 obtain ⟨css, c1, c2, c3⟩ := h.css
 have hi' : i < css.length := by omega
 have hl : css[i].length = 9 := ((OwR.to_raw c3).2.1 _ (zas hi')).1
 have s := OwR.setSome (i := i) y.cells css[i] [] w css (act_one y) (by rw [List.nil_append]; exact zac hi') hl rfl c3
 refine OwR.of_css (css := css.set i y.cells) (by simp [c1]) (fun m cs x hcs hx => ?_) s
 by_cases e : m = i
 · subst e
   rw [zbw (by omega)] at hcs hx
   injection hcs with hcs; injection hx with hx
   subst hcs hx
   exact ⟨rfl, hy⟩
 · rw [zbD (fun x => e x.symm)] at hcs hx
   exact c2 m cs x hcs hx
theorem ow_clearedA {base : Nat} {w : World} {g cap : Nat} {xs : List ActV} (h : OwR actR 34 base w (.slice (some ⟨g, 0, none⟩) xs.length cap) xs) (i : Nat) (hi : i <= xs.length) (zs : List Value) (hz : ∀ z ∈ zs, z.oneCell' = true) (hl : i * 9 + zs.length <= xs.length * 9) :
  OwR actR 34 base (w.setCells g (i * 9) zs) (.slice (some ⟨g, 0, none⟩) i cap) (xs.take i) := by
 obtain ⟨css, c1, c2, c3⟩ := h.css
 obtain ⟨css', d1, d2, d3⟩ := OwR.setMany (by decide) zs (i * 9) w css hz (by rw [c1]; exact hl) c3
 refine OwR.of_css (css := css'.take i) (by rw [zaq, zaq, d1, c1]) (fun j cs x hc hx => ?_) (d3.cutR (by omega))
 rw [zbb] at hc hx
 split at hc
 · rename_i e
   rw [if_pos e] at hx
   rw [d2 j (by show (j + 1) * 9 <= i * 9; omega)] at hc
   exact c2 j cs x hc hx
 · cases hc
structure DelA (p : ActV -> Bool) (xs dk : List ActV) (i j : Nat) : Prop where
 lt : i < j
 le : j <= xs.length
 size : dk.length = xs.length
 kept : dk.take i = (xs.take j).filter (fun x => !p x)
 rest : ∀ t, j <= t -> dk[t]? = xs[t]?
theorem DelA.keep {p : ActV -> Bool} {xs dk : List ActV} {i j : Nat} (h : DelA p xs dk i j) (hj : j < xs.length) (hp : p xs[j] = false) : DelA p xs (dk.set i xs[j]) (i + 1) (j + 1) := by
 have h1 := h.lt
 have h2 := h.size
 refine ⟨by omega, by omega, by rw [zbx]; exact h2, ?_, fun t ht => ?_⟩
 · rw [zar (by rw [zbx]; omega), List.take_set_of_le (zab _), h.kept, zar hj, zbC]
   simp [hp]
 · rw [zbD (by omega)]; exact h.rest t (by omega)
theorem DelA.skip {p : ActV -> Bool} {xs dk : List ActV} {i j : Nat} (h : DelA p xs dk i j) (hj : j < xs.length) (hp : p xs[j] = true) : DelA p xs dk i (j + 1) := by
 have h1 := h.lt
 refine ⟨by omega, by omega, h.size, ?_, fun t ht => h.rest t (by omega)⟩
 rw [h.kept, zar hj, zbC]
 simp [hp]
theorem DelA.start {p : ActV -> Bool} {xs : List ActV} {k : Nat} (hk : k < xs.length) (hp : p xs[k] = true) (hall : ∀ j, (h : j < xs.length) -> j < k -> p xs[j] = false) : DelA p xs xs k (k + 1) := by
 refine ⟨by omega, by omega, rfl, ?_, fun _ _ => rfl⟩
 rw [zar hk, zbC]
 have h1 : (xs.take k).filter (fun x => !p x) = xs.take k := by
  rw [List.filter_eq_self]
  intro x hx
  obtain ⟨i, hi, rfl⟩ := zaj hx
  rw [zaq] at hi
  rw [zbs]
  simp [hall i (by omega) (by omega)]
 rw [h1]
 simp [hp]
def zeroAL : List Value := [.int .i64 0, .int .i64 0, .int .i64 0, .int .i64 0, .int .i64 0, .int .i64 0, .int .i64 0, .string ⟨#[]⟩, .string ⟨#[]⟩]
def zeroA : Value := .agg #[.int .i64 0, .int .i64 0, .int .i64 0, .int .i64 0, .int .i64 0, .int .i64 0, .int .i64 0, .string ⟨#[]⟩, .string ⟨#[]⟩]
theorem zero_act (w : World) : (zeroValue 34).run Tryz.prog w = .ok zeroA w := by
 go_simp
 rfl
theorem zeroA_cells : zeroA.cells = zeroAL.toArray := by kernel_rfl
def zerosA (n : Nat) : List Value := (Builtin.zeroCells zeroAL.toArray n).toList
theorem zerosA_len (n : Nat) : (zerosA n).length = n * 9 := by
 simp [zerosA, Builtin.zeroCells, zeroAL]
theorem zerosA_one (n : Nat) : ∀ v ∈ zerosA n, v.oneCell' = true := by
 intro v hv
 unfold zerosA Builtin.zeroCells at hv
 simp only [Array.toList_map, zbm] at hv
 obtain ⟨i, hi, rfl⟩ := hv
 have h9 : i % 9 < 9 := Nat.mod_lt _ (by omega)
 show (zeroAL.toArray[i % 9]!).oneCell' = true
 obtain ⟨m, hm⟩ : ∃ m, i % 9 = m := ⟨_, rfl⟩
 rw [hm] at h9 ⊢
 match m, h9 with
 | 0, _ => rfl
 | 1, _ => rfl
 | 2, _ => rfl
 | 3, _ => rfl
 | 4, _ => rfl
 | 5, _ => rfl
 | 6, _ => rfl
 | 7, _ => rfl
 | 8, _ => rfl
theorem run_clear_act (w : World) (ty g o n c : Nat) (hn : 0 < n) (hc : ∀ j, j < n * 9 -> (w.cell? ⟨g, o + j, none⟩).isSome = true) (hf : ∀ j, j < n * 9 -> w.frozen? ⟨g, o + j, none⟩ = false) :
  (Builtin.clear_ #[23] ty #[.slice (some ⟨g, o, none⟩) n c]).run Tryz.prog w = .ok (.tuple #[]) (w.setCells g o (zerosA n)) := by
 have hst := run_storeCells_cells (P := Tryz.prog) g o (zerosA n) 0 w (by rw [zerosA_len]; simpa using hc) (by rw [zerosA_len]; simpa using hf) (zerosA_one n)
 simp only [zbE] at hst
 obtain ⟨m, rfl⟩ : ∃ m, n = m + 1 := ⟨n - 1, by omega⟩
 unfold zerosA at hst ⊢
 have ht := Tryz.underlying23
 have hzc : (Value.agg #[.int .i64 0, .int .i64 0, .int .i64 0, .int .i64 0, .int .i64 0, .int .i64 0, .int .i64 0, .string ⟨#[]⟩, .string ⟨#[]⟩]).cells = zeroAL.toArray := zeroA_cells
 simp [Builtin.clear_, run_underlying ht, zero_act, zeroA, hzc, hst]
def askA (p : ActV -> Bool) (fid : Nat) (B : Nat) (w : World) : Prop := ∀ (x : ActV) (w' : World), Below B w w' -> Calls Tryz.prog fid #[x.agg] w' fun e w'' => e = .returned (.bool (p x)) /\ Below w'.heap.size w' w''
set_option maxRecDepth 100000 in
theorem idxA_any (p : ActV -> Bool) (v : Value) (xs : List ActV) (B : Nat) (w : World) (h : Sl actR w v xs) (hB : B <= w.heap.size) (hp : askA p 19 B w) :
  Calls Tryz.prog 23 #[v, .func (.func 19) #[] #[]] w fun e w' => (∃ n : Int, e = .returned (.int .i64 n) /\ ((n = -1 /\ ∀ j, (h : j < xs.length) -> p xs[j] = false) ∨ ∃ k : Nat, n = (k : Int) /\ (∃ h : k < xs.length, p xs[k] = true) /\ ∀ j, (h : j < xs.length) -> j < k -> p xs[j] = false)) /\ Below w.heap.size w w' := by
 have hlen := h.len_le
 obtain ⟨A, c, rfl⟩ := h.form
 have H := zaa h
 have HP := zaa hp
 clear h hp
 go_enter Tryz.func23, Tryz.ntmps23
 go_wp2_with fail
 go_loopw [5, 8] (fun _ i wr => ∃ k : Nat, k <= xs.length /\ i = .int .i64 k /\ Below w.heap.size w wr /\ ∀ j, (h : j < xs.length) -> j < k -> p xs[j] = false) (fun _ i _ => xs.length - (intOf i).toNat)
 case atStart => exact ⟨0, zak _, rfl, zad _ _, fun j _ h => absurd h (by omega)⟩
 case round =>
  obtain ⟨k, hk, rfl, hB', hall⟩ := hrel
  have HA := zaa hall
  have HB := zaa hB'
  clear hall
  by_cases hlt : k < xs.length
  · obtain ⟨b, off, rfl, hb⟩ := H.out.at_ hlt
    obtain ⟨f0, f1, f2, f3, f4, f5, f6, f7, f8, _⟩ := (H.out.below hB').act hlt
    have hcal := HP.out xs[k] wr (hB'.mono hB)
    unfold ActV.agg at hcal
    have HC := zaa hcal
    have r0 : (0 : Int) <= (k : Int) := zaf _
    have r1 : (k : Int) < (xs.length : Int) := by omega
    clear hB' hcal
    go_wp2_with fail
    refine HC.out.mono ?_
    rintro e w1 ⟨rfl, hb1⟩
    have HB1 := zaa (HB.out.trans (hb1.mono HB.out.size))
    clear hb1
    rcases hp : p xs[k] with _ | _
    · have HPX := zaa hp
      clear hp
      go_wp2_with fail
      go_roundw
      case rel =>
       refine ⟨k + 1, by omega, by go_num, HB1.out, fun j hj hjk => ?_⟩
       by_cases e : j = k
       · subst e; exact HPX.out
       · exact HA.out j hj (by omega)
      case measure => simp [intOf]; omega
    · have HPX := zaa hp
      clear hp
      go_wp2_with fail
      go_ret
      exact ⟨⟨(k : Int), rfl, .inr ⟨k, rfl, ⟨hlt, HPX.out⟩, HA.out⟩⟩, HB1.out⟩
  · clear hB'
    go_wp2_with fail
    go_ret
    exact ⟨⟨-1, rfl, .inl ⟨rfl, fun j hj => HA.out j hj (by omega)⟩⟩, HB.out⟩
set_option maxRecDepth 100000 in
theorem delA_any (p : ActV -> Bool) (v : Value) (xs : List ActV) (base B : Nat) (w : World) (h : OwR actR 34 base w v xs) (hB : B <= base) (hp : askA p 19 B w) :
  Calls Tryz.prog 17 #[v, .func (.func 19) #[] #[]] w fun e w' => ∃ v', e = .returned v' /\ OwR actR 34 base w' v' (xs.filter (fun x => !p x)) /\ Below base w w' := by
 have hsl := h.sl (by decide)
 have hbw := h.choose_spec.2.2.2
 have HX := zaa (idxA_any p v xs B w hsl (by omega) hp)
 have hlen := hsl.len_le
 have HP := zaa hp
 have HO := zaa h
 obtain ⟨A, c, rfl⟩ := hsl.form
 clear hsl hp h
 go_enter Tryz.func17, Tryz.ntmps17
 go_wp2_with fail
 refine HX.out.mono ?_
 rintro e w1 ⟨⟨n, rfl, hn⟩, hb1⟩
 have HB1 := zaa (hb1.mono hbw)
 have ho1 := HO.out.keep hb1
 rcases hn with ⟨rfl, hall⟩ | ⟨k, rfl, ⟨hk, hpk⟩, hall⟩
 · have hfil : xs.filter (fun x => !p x) = xs := by
    rw [List.filter_eq_self]
    intro x hx
    obtain ⟨i, hi, rfl⟩ := zaj hx
    simp [hall i hi]
   have HF := zaa hfil
   have HO1 := zaa ho1
   clear hfil hall hb1 ho1
   go_wp2_with fail
   go_ret
   exact ⟨_, rfl, by rw [HF.out]; exact HO1.out, HB1.out⟩
 · have HD := zaa (DelA.start hk hpk hall)
   obtain ⟨g, rfl, hg1, hg2, hg3⟩ := ho1.atN (by omega)
   have HO1 := zaa ho1
   have HK := zaa hk
   have hgb := hg1
   obtain ⟨m, hm⟩ : ∃ m, xs.length = m := ⟨_, rfl⟩
   have HM := zaa hm
   have hne1 : ((k : Int) == -1) = false := beq_eq_false_iff_ne.2 (by omega)
   rw [hm] at hk hlen ⊢
   clear hpk hall hb1 ho1 hm
   go_wp2_with fail
   go_loopw [5, 6, 7] (fun s5 s6 _ wr => ∃ (i j : Nat) (dk : List ActV), s5 = .int .i64 i /\ s6 = .int .i64 j /\ Hid (DelA p xs dk i j) /\ Hid (OwR actR 34 base wr (.slice (some ⟨g, 0, none⟩) m c) dk) /\ Hid (Below base w wr)) (fun _ s6 _ _ => m - (intOf s6).toNat)
   case atStart => exact ⟨k, k + 1, xs, rfl, by go_num, HD, by rw [HM.out] at HO1; exact HO1, HB1⟩
   case round =>
    obtain ⟨i, j, dk, rfl, rfl, HI, HR, HB⟩ := hrel
    have hij := HI.out.lt
    have hjm := HI.out.le
    have hds := HI.out.size
    rw [HM.out] at hjm hds
    have HDS := zaa hds
    have HR0 := zaa (show OwR actR 34 base wr (.slice (some ⟨g, 0, none⟩) dk.length c) dk from by rw [HDS.out]; exact HR.out)
    by_cases hlt : j < m
    · have hjx : j < xs.length := by rw [HM.out]; exact hlt
      have hjd : j < dk.length := by rw [HDS.out]; exact hlt
      have hid' : i < dk.length := by rw [HDS.out]; omega
      have hjy : dk[j] = xs[j] := by
       have := HI.out.rest j (zab _)
       rw [zac hjd, zac hjx] at this
       injection this
      obtain ⟨f0, f1, f2, f3, f4, f5, f6, f7, f8, fw⟩ := (HR.out.sl (by decide)).act hjd
      rw [zaM] at f0 f1 f2 f3 f4 f5 f6 f7 f8
      rw [hjy] at f0 f1 f2 f3 f4 f5 f6 f7 f8 fw
      have HKE := zaa (fun h => HI.out.keep hjx h)
      have HSK := zaa (fun h => HI.out.skip hjx h)
      obtain ⟨y, hy⟩ : ∃ y, xs[j] = y := ⟨_, rfl⟩
      rw [hy] at f0 f1 f2 f3 f4 f5 f6 f7 f8 fw HKE HSK
      have hal : Below wr.heap.size wr (wr.alloc (.cells #[.int .i64 y.kind, .int .i64 y.a, .int .i64 y.b, .int .i64 y.n, .int .i64 y.m, .int .i64 y.pre.addr, .int .i64 y.pre.bits, .string y.key, .string y.value] 34)) := (zad _ _).alloc (zab _) _
      have hcal := HP.out y _ ((HB.out.mono hB).trans (hal.mono (by have := HB.out.size; omega)))
      unfold ActV.agg at hcal
      have HC := zaa hcal
      have HFW := zaa fw
      have r0 : (0 : Int) <= (j : Int) := zaf _
      have r1 : (j : Int) < (m : Int) := by omega
      have r2 : (0 : Int) <= (i : Int) := zaf _
      have r3 : (i : Int) < (m : Int) := by omega
      clear hal hcal hjy hy fw hjx hjd hk
      go_wp2_with fail
      refine HC.out.mono ?_
      rintro e w2 ⟨rfl, hb2⟩
      have hA : Below wr.heap.size wr w2 := ((zad wr.heap.size wr).alloc (zab _) _).trans (hb2.mono (by simp))
      have hN0 := fun o => bAt hb2 (show wr.heap.size < (wr.alloc (.cells #[.int .i64 y.kind, .int .i64 y.a, .int .i64 y.b, .int .i64 y.n, .int .i64 y.m, .int .i64 y.pre.addr, .int .i64 y.pre.bits, .string y.key, .string y.value] 34)).heap.size by simp) o
      have hN : ∀ o, w2.cell? ⟨wr.heap.size, o, none⟩ = y.cells[o]? := fun o => by rw [hN0, zae _ _ _ _ rfl, zao]; rfl
      have k0 := hN 0
      have k1 := hN 1
      have k2 := hN 2
      have k3 := hN 3
      have k4 := hN 4
      have k5 := hN 5
      have k6 := hN 6
      have k7 := hN 7
      have k8 := hN 8
      simp only [ActV.cells, zap, zam] at k0 k1 k2 k3 k4 k5 k6 k7 k8
      have ho2 := HR.out.keep hA
      have HB2 := zaa (HB.out.trans (hA.mono (by have := HB.out.size; omega)))
      have HR2 := zaa ho2
      obtain ⟨g0, g1, g2, g3, g4, g5, g6, g7, g8, _⟩ := (ho2.sl (by decide)).act hid'
      rw [zaM] at g0 g1 g2 g3 g4 g5 g6 g7 g8
      have hg4 : ∀ j, w2.frozen? ⟨g, j, none⟩ = false := by
       obtain ⟨g', e1, _, _, e4⟩ := (HR0.out.keep hA).atN (by omega)
       injection e1 with e1; injection e1 with e1 _ _; subst e1; exact e4
      clear hA ho2 hb2 f0 f1 f2 f3 f4 f5 f6 f7 f8 hN hN0
      rcases hq : p y with _ | _
      · have HQ := zaa hq
        clear hq
        go_wp2_with fail
        go_roundw
        case rel =>
         have hse := HR2.out.setAct hid' HFW.out
         exact ⟨i + 1, j + 1, dk.set i y, by go_num, by go_num, zaa (HKE.out HQ.out), zaa hse, zaa (belowCells hgb y.cells _ _ HB2.out)⟩
        case measure => simp [intOf]; omega
      · have HQ := zaa hq
        clear hq
        go_wp2_with fail
        go_roundw
        case rel => exact ⟨i, j + 1, dk, rfl, by go_num, zaa (HSK.out HQ.out), HR2, HB2⟩
        case measure => simp [intOf]; omega
    · obtain rfl : m = j := by omega
      have hcm : m <= c := by
       obtain ⟨_, _, hv, h1, _⟩ := HR.out.sl (by decide)
       injection hv with e1 e2 e3
       rw [HDS.out] at h1
       omega
      have hg3 : ∀ j, wr.frozen? ⟨g, j, none⟩ = false := by
       obtain ⟨g', e1, _, _, e4⟩ := HR0.out.atN (by rw [HDS.out]; omega)
       injection e1 with e1; injection e1 with e1 _ _; subst e1; exact e4
      have hcells : ∀ t, t < m * 9 -> (wr.cell? ⟨g, t, none⟩).isSome = true := by
       intro t ht
       have hq4 : t / 9 < dk.length := by rw [HDS.out]; omega
       obtain ⟨c0, c1, c2, c3, c4, c5, c6, c7, c8, _⟩ := (HR.out.sl (by decide)).act hq4
       rw [zaM] at c0 c1 c2 c3 c4 c5 c6 c7 c8
       have hm4 := Nat.mod_lt t (show 0 < 9 by omega)
       have hdm := Nat.div_add_mod t 9
       obtain ⟨r, hr⟩ : ∃ r, t % 9 = r := ⟨_, rfl⟩
       rw [hr] at hm4 hdm
       have e0 : t = t / 9 * 9 + r := by omega
       rw [e0]
       match r, hm4 with
       | 0, _ => rw [zbE, c0]; rfl
       | 1, _ => rw [c1]; rfl
       | 2, _ => rw [c2]; rfl
       | 3, _ => rw [c3]; rfl
       | 4, _ => rw [c4]; rfl
       | 5, _ => rw [c5]; rfl
       | 6, _ => rw [c6]; rfl
       | 7, _ => rw [c7]; rfl
       | 8, _ => rw [c8]; rfl
      have hcl : ∀ ty, (Builtin.clear_ #[23] ty #[.slice (some ⟨g, i * 9, none⟩) (m - i) (c - i)]).run Tryz.prog wr = .ok (.tuple #[]) (wr.setCells g (i * 9) (zerosA (m - i))) :=
       fun ty => run_clear_act wr ty g (i * 9) (m - i) (c - i) (by omega) (fun t ht => hcells _ (by omega)) (fun t _ => hg3 _)
      have r1 : ¬ (m : Int) < (m : Int) := by omega
      have r2 : (0 : Int) <= (i : Int) := zaf _
      have r3 : (i : Int) <= (m : Int) := by omega
      have r4 : (i : Int) <= (c : Int) := by omega
      have r5 : (m : Int) <= (c : Int) := by omega
      clear hcells hg3
      go_wp2_with fail
      go_ret
      refine ⟨_, rfl, ?_, belowCells hgb _ _ _ HB.out⟩
      have hs := ow_clearedA HR0.out i (by rw [HDS.out]; omega) (zerosA (m - i)) (zerosA_one _) (by rw [zerosA_len, HDS.out]; omega)
      rw [HI.out.kept, zaG (by rw [HM.out]; omega)] at hs
      exact hs
theorem drawn1_any (x : ActV) (w : World) : Calls Tryz.prog 19 #[x.agg] w fun e w' => e = .returned (.bool (x.kind == 8)) /\ Below w.heap.size w w' := by
 have hal := (zad w.heap.size w).alloc (zab _) (.cells #[.int .i64 x.kind, .int .i64 x.a, .int .i64 x.b, .int .i64 x.n, .int .i64 x.m, .int .i64 x.pre.addr, .int .i64 x.pre.bits, .string x.key, .string x.value] 34)
 have HAL := zaa hal
 unfold ActV.agg
 clear hal
 go_enter Tryz.func19, Tryz.ntmps19
 go_wp2_with fail
 go_ret
 exact ⟨rfl, HAL.out⟩
def DrawnPost (w : World) (e : Ending) (w' : World) : Prop :=
 ∃ v' acts, e = .returned v' /\ acts.length <= 45 /\ (∀ c ∈ acts, Tame c) /\ OwR actR 34 w.heap.size w' v' acts /\ Below w.heap.size w w'
theorem drawn_any (v : Value) (xs : List Raw) (w : World) (h : Sl rawR w v xs) : Calls Tryz.prog 5 #[v] w (DrawnPost w) := by
 have HA := zaa (acts_any v xs 45 5 w h (by omega) (by omega))
 obtain ⟨A, c, rfl⟩ := h.form
 clear h
 go_enter Tryz.func5, Tryz.ntmps5
 go_wp2_with fail
 refine HA.out.mono ?_
 rintro e w1 ⟨v1, acts, rfl, hal, hra, ho, hb⟩
 have HD := zaa (delA_any (fun c => c.kind == 8) v1 acts w.heap.size w.heap.size w1 ho (zab _) (fun x w' _ => drawn1_any x w'))
 have HB := zaa hb
 have HAL := zaa hal
 have HRA := zaa hra
 obtain ⟨A1, n1, c1, rfl⟩ : ∃ A n c, v1 = .slice A n c := by obtain ⟨A, c, e⟩ := (ho.sl (by decide)).form; exact ⟨A, _, c, e⟩
 clear hal hra ho hb
 go_wp2_with fail
 refine HD.out.mono ?_
 rintro e w2 ⟨v2, rfl, ho2, hb2⟩
 have HO2 := zaa ho2
 have HB2 := zaa (HB.out.trans hb2)
 obtain ⟨A2, n2, c2, rfl⟩ : ∃ A n c, v2 = .slice A n c := by obtain ⟨A, c, e⟩ := (ho2.sl (by decide)).form; exact ⟨A, _, c, e⟩
 clear ho2 hb2
 go_wp2_with fail
 go_ret
 refine ⟨_, acts.filter fun c => !(c.kind == 8), rfl, zaz (zbP _ _) HAL.out, fun c hc => ?_, HO2.out, HB2.out⟩
 obtain ⟨h1, h2⟩ := zaY.1 hc
 exact drawn_tame (HRA.out c h1) (by simpa using h2)
end
section
open Go Go.RowKit Go.Deep
end
end Go.Proofs.YtojojpjldkpmoaaGreatDoor
