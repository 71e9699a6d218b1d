/-
  
-/
import Derived.Test.YtbhbilenbbldnaaGreatDoorGNwG
import Derived.Test.YtbhbilenbbldnaaGreatDoorGNtF
import Derived.Test.YtbhbilenbbldnaaGreatDoorGNwN
import Derived.Test.YtbhbilenbbldnaaGreatDoorGKaA
import Derived.Test.YtbhbilenbbldnaaGreatDoorGRibQ
import Derived.Test.YtbhbilenbbldnaaGreatDoorGStM
import Derived.Test.YtbhbilenbbldnaaGreatDoorGNwL
import Derived.Test.YtbhbilenbbldnaaGreatDoorGNtH
set_option linter.unusedVariables false
set_option linter.unusedSimpArgs false
set_option maxHeartbeats 16000000
namespace Go.Proofs.YtbhbilenbbldnaaGreatDoor
section
open Go Go.RowKit Go.Deep
def sRow (a b : Nat) : List ActV := sendsL (((List.range b).filter fun b => decide (a ≠ b)).map fun b => (a, b))
def passTo (a : Nat) : List ActV := sendsL ((List.range a).flatMap fun a => ((List.range 5).filter fun b => decide (a ≠ b)).map fun b => (a, b))
theorem sRow_succ (a b : Nat) : sRow a (b + 1) = if a = b then sRow a b else sRow a b ++ [sendA a b] := by
 unfold sRow sendsL
 rw [zbW, zbx]
 by_cases h : a = b
 · rw [if_pos h]; simp [h]
 · rw [if_neg h]; simp [h]
theorem passTo_succ (a : Nat) : passTo (a + 1) = passTo a ++ sRow a 5 := by
 unfold passTo sRow sendsL
 rw [show List.range (a + 1) = List.range a ++ [a] from zbW, List.flatMap_append, zbd, List.flatMap_cons, List.flatMap_nil, zbr]
theorem sRow_len (a : Nat) : ∀ b, (sRow a b).length <= b
 | 0 => zab _
 | b + 1 => by
   have := sRow_len a b
   rw [sRow_succ]
   split
   · omega
   · simp; omega
theorem passTo_len : ∀ a, (passTo a).length <= 5 * a
 | 0 => zab _
 | a + 1 => by
   have := passTo_len a
   have := sRow_len a 5
   rw [passTo_succ, zag]; omega
theorem passTo_five : passTo 5 = sendsL pairs5 := rfl
theorem passL_len : ∀ n, (passL n).length <= 25 * n
 | 0 => zab _
 | n + 1 => by
   have := passL_len n
   have := passTo_len 5
   rw [show passL (n + 1) = passL n ++ sendsL pairs5 from rfl, zag, <- passTo_five]; omega
theorem tellsL_len (n : Nat) : (tellsL n).length = n := by simp [tellsL]
theorem decidesL_len (n : Nat) : (decidesL n).length = n := by simp [decidesL]
theorem emptyA : (⟨#[]⟩ : ByteArray).size <= maxLen := by decide
theorem node_wf {a : Nat} (h : a < 12) : inR (a : Int) := by unfold inR; omega
theorem small_in {n : Int} (h : -100 <= n /\ n <= 100) : inR n := by unfold inR; omega
theorem small0 : inR 0 := small_in (by decide)
theorem act_wf {k a b n : Int} (hk : -100 <= k /\ k <= 100) (ha : inR a) (hb : inR b) (hn : -100 <= n /\ n <= 100) : (⟨k, a, b, n, 0, ⟨0, 0⟩, ⟨#[]⟩, ⟨#[]⟩⟩ : ActV).wf :=
 ⟨small_in hk, ha, hb, small_in hn, small0, small0, small0, emptyA, emptyA⟩
theorem tellC_wf {a : Nat} (h : a < 12) : (tellC a).wf := act_wf (by decide) (node_wf h) (small_in (by decide)) (by decide)
theorem decideC_wf {a : Nat} (h : a < 12) : (decideC a).wf := act_wf (by decide) (node_wf h) (small_in (by decide)) (by decide)
theorem sendA_wf {a b : Nat} (h : a < 12) (hb : b < 12) : (sendA a b).wf := act_wf (by decide) (node_wf h) (node_wf hb) (by decide)
set_option maxRecDepth 50000 in
theorem settle_any (w : World) :
  Calls Tryz.prog 25 #[.int .i64 5] w fun e w' => ∃ v', e = .returned v' /\ OwR actR 34 w.heap.size w' v' settleL /\ Below w.heap.size w w' := by
 go_enter Tryz.func25, Tryz.ntmps25
 go_wp2_with fail
 go_loopw [3, 9] (fun o i wr => ∃ k : Nat, k <= 5 /\ i = .int .i64 k /\ OwR actR 34 w.heap.size wr o (tellsL k) /\ Below w.heap.size w wr) (fun _ i _ => 5 - (intOf i).toNat)
 case atStart => exact ⟨0, zam _, rfl, OwR.nil _ _ (zab _), zad _ _⟩
 case round =>
  obtain ⟨k, hk, rfl, ho, hb⟩ := hrel
  have HO := zaa ho
  have HB := zaa hb
  clear ho hb
  by_cases hlt : k < 5
  · have hki : (k : Int) < 5 := by omega
    have HLE := zaa (show (tellsL k).length <= 1000000 by rw [tellsL_len]; omega)
    have HWF := zaa (tellC_wf (a := k) (by omega))
    go_wp2_with (at_builtin; refine wpList_oneR (r := actR) (base := w.heap.size) (y := tellC k) (S := fun _ => False) elt_actA rfl (.tmp 12) (.tmp 15) rfl HO.out ⟨rfl, HWF.out⟩ (fun _ h => h.elim) rfl rfl (by first | rfl | simp) HLE.out (by decide) ?_; intro v5 w5 ho5 hg5)
    have HB5 := zaa ((ow_alloc HO.out _).below_grown ((HB.out).alloc (HO.out).choose_spec.2.2.2 _) hg5.grown)
    have HO5 := zaa ho5
    clear ho5 hg5
    go_roundw
    case rel => exact ⟨k + 1, by omega, by go_num, by rw [tellsL_succ]; exact HO5.out, HB5.out⟩
    case measure => simp [intOf]; omega
  · have hki : ¬ (k : Int) < 5 := by omega
    have e5 : k = 5 := by omega
    rw [e5] at HO
    clear e5 hlt hk
    obtain ⟨WR1, rfl⟩ : ∃ m, m = wr := ⟨wr, rfl⟩
    go_wp2_with fail
    go_loopw [3, 20] (fun o i wr => ∃ n : Nat, n <= 4 /\ i = .int .i64 n /\ OwR actR 34 w.heap.size wr o (tellsL 5 ++ passL n) /\ Below w.heap.size w wr) (fun _ i _ => 4 - (intOf i).toNat)
    case atStart => exact ⟨0, zam _, rfl, by rw [show passL 0 = [] from rfl, zbr]; exact HO.out, HB.out⟩
    case round =>
     obtain ⟨n, hn, rfl, ho2, hb2⟩ := hrel
     have HO2 := zaa ho2
     have HB2 := zaa hb2
     clear ho2 hb2 HO HB
     by_cases hln : n < 4
     · have hni : (n : Int) < 4 := by omega
       obtain ⟨L2, hL2⟩ : ∃ L, L = tellsL 5 ++ passL n := ⟨_, rfl⟩
       have HL2 := zaa hL2
       have HLL := zaa (show L2.length <= 200 by rw [hL2, zag, tellsL_len]; have := passL_len n; omega)
       rw [<- hL2] at HO2
       clear hL2
       obtain ⟨WR2, rfl⟩ : ∃ m, m = wr := ⟨wr, rfl⟩
       go_wp2_with fail
       go_loopw [3, 23] (fun o i wr => ∃ a : Nat, a <= 5 /\ i = .int .i64 a /\ OwR actR 34 w.heap.size wr o (L2 ++ passTo a) /\ Below w.heap.size w wr) (fun _ i _ => 5 - (intOf i).toNat)
       case atStart => exact ⟨0, zam _, rfl, by rw [show passTo 0 = [] from rfl, zbr]; exact HO2.out, HB2.out⟩
       case round =>
        obtain ⟨a, ha, rfl, ho3, hb3⟩ := hrel
        have HO3 := zaa ho3
        have HB3 := zaa hb3
        clear ho3 hb3 HO2 HB2
        by_cases hla : a < 5
        · have hai : (a : Int) < 5 := by omega
          obtain ⟨L3, hL3⟩ : ∃ L, L = L2 ++ passTo a := ⟨_, rfl⟩
          have HL3 := zaa hL3
          have HLL3 := zaa (show L3.length <= 300 by rw [hL3, zag]; have := passTo_len a; have := HLL.out; omega)
          rw [<- hL3] at HO3
          clear hL3
          obtain ⟨WR3, rfl⟩ : ∃ m, m = wr := ⟨wr, rfl⟩
          go_wp2_with fail
          go_loopw [3, 27] (fun o i wr => ∃ b : Nat, b <= 5 /\ i = .int .i64 b /\ OwR actR 34 w.heap.size wr o (L3 ++ sRow a b) /\ Below w.heap.size w wr) (fun _ i _ => 5 - (intOf i).toNat)
          case atStart => exact ⟨0, zam _, rfl, by rw [show sRow a 0 = [] from rfl, zbr]; exact HO3.out, HB3.out⟩
          case round =>
           obtain ⟨b, hb, rfl, ho4, hb4⟩ := hrel
           have HO4 := zaa ho4
           have HB4 := zaa hb4
           clear ho4 hb4 HO3 HB3
           by_cases hlb : b < 5
           · have hbi : (b : Int) < 5 := by omega
             have HLE := zaa (show (L3 ++ sRow a b).length <= 1000000 by rw [zag]; have := sRow_len a b; have := HLL3.out; omega)
             by_cases hab : a = b
             · have hne : ((a : Int) != (b : Int)) = false := by rw [hab]; simp
               have HRS := zaa (show sRow a (b + 1) = sRow a b by rw [sRow_succ, if_pos hab])
               clear hab
               go_wp2_with fail
               go_roundw
               case rel => exact ⟨b + 1, by omega, by go_num, by rw [HRS.out]; exact HO4.out, HB4.out⟩
               case measure => simp [intOf]; omega
             · have hne : ((a : Int) != (b : Int)) = true := by simp; omega
               have HRS := zaa (show L3 ++ sRow a (b + 1) = (L3 ++ sRow a b) ++ [sendA a b] by rw [sRow_succ, if_neg hab, zaQ])
               have HWF := zaa (sendA_wf (a := a) (b := b) (by omega) (by omega))
               clear hab
               go_wp2_with (at_builtin; refine wpList_oneR (r := actR) (base := w.heap.size) (y := sendA a b) (S := fun _ => False) elt_actA rfl (.tmp 33) (.tmp 37) rfl HO4.out ⟨rfl, HWF.out⟩ (fun _ h => h.elim) rfl rfl (by first | rfl | simp) HLE.out (by decide) ?_; intro v5 w5 ho5 hg5)
               have HB5 := zaa ((ow_alloc HO4.out _).below_grown ((HB4.out).alloc (HO4.out).choose_spec.2.2.2 _) hg5.grown)
               have HO5 := zaa ho5
               clear ho5 hg5
               go_roundw
               case rel => exact ⟨b + 1, by omega, by go_num, by rw [HRS.out]; exact HO5.out, HB5.out⟩
               case measure => simp [intOf]; omega
           · obtain rfl : b = 5 := by omega
             go_wp2_with fail
             go_roundw
             case rel => exact ⟨a + 1, by omega, by go_num, by rw [passTo_succ, <- zaQ, <- HL3.out]; exact HO4.out, HB4.out⟩
             case measure => simp [intOf]; omega
        · obtain rfl : a = 5 := by omega
          go_wp2_with fail
          go_roundw
          case rel => exact ⟨n + 1, by omega, by go_num, by rw [show passL (n + 1) = passL n ++ sendsL pairs5 from rfl, <- zaQ, <- HL2.out, <- passTo_five]; exact HO3.out, HB3.out⟩
          case measure => simp [intOf]; omega
     · have hni : ¬ (n : Int) < 4 := by omega
       have e4 : n = 4 := by omega
       rw [e4] at HO2
       clear e4 hln hn
       obtain ⟨L2, hL2⟩ : ∃ L, L = tellsL 5 ++ passL 4 := ⟨_, rfl⟩
       have HL2 := zaa hL2
       have HLL := zaa (show L2.length <= 200 by rw [hL2, zag, tellsL_len]; have := passL_len 4; omega)
       rw [<- hL2] at HO2
       clear hL2
       obtain ⟨WR4, rfl⟩ : ∃ m, m = wr := ⟨wr, rfl⟩
       go_wp2_with fail
       go_loopw [3, 43] (fun o i wr => ∃ k : Nat, k <= 5 /\ i = .int .i64 k /\ OwR actR 34 w.heap.size wr o (L2 ++ decidesL k) /\ Below w.heap.size w wr) (fun _ i _ => 5 - (intOf i).toNat)
       case atStart => exact ⟨0, zam _, rfl, by rw [show decidesL 0 = [] from rfl, zbr]; exact HO2.out, HB2.out⟩
       case round =>
        obtain ⟨k, hk, rfl, ho3, hb3⟩ := hrel
        have HO3 := zaa ho3
        have HB3 := zaa hb3
        clear ho3 hb3 HO2 HB2
        by_cases hlk : k < 5
        · have hki : (k : Int) < 5 := by omega
          have HLE := zaa (show (L2 ++ decidesL k).length <= 1000000 by rw [zag, decidesL_len]; have := HLL.out; omega)
          have HWF := zaa (decideC_wf (a := k) (by omega))
          go_wp2_with (at_builtin; refine wpList_oneR (r := actR) (base := w.heap.size) (y := decideC k) (S := fun _ => False) elt_actA rfl (.tmp 46) (.tmp 49) rfl HO3.out ⟨rfl, HWF.out⟩ (fun _ h => h.elim) rfl rfl (by first | rfl | simp) HLE.out (by decide) ?_; intro v5 w5 ho5 hg5)
          have HB5 := zaa ((ow_alloc HO3.out _).below_grown ((HB3.out).alloc (HO3.out).choose_spec.2.2.2 _) hg5.grown)
          have HO5 := zaa ho5
          clear ho5 hg5
          go_roundw
          case rel => exact ⟨k + 1, by omega, by go_num, by rw [decidesL_succ, <- zaQ]; exact HO5.out, HB5.out⟩
          case measure => simp [intOf]; omega
        · obtain rfl : k = 5 := by omega
          go_wp2_with fail
          go_ret
          exact ⟨_, rfl, by unfold settleL; rw [<- HL2.out]; exact HO3.out, HB3.out⟩
theorem Sl.store {w : World} {b off c n : Nat} {xs : List (List Entry)} (h : Sl (slR entR) w (.slice (some ⟨b, off, none⟩) n c) xs) {k : Nat} (hk : k < xs.length) :
  ∃ v, w.cell? ⟨b, off + k, none⟩ = some v /\ Sl entR w v xs[k] := by
 obtain ⟨cs, ⟨v, rfl, h1⟩, hc⟩ := h.cell hk
 exact ⟨v, by simpa [slR] using hc 0 _ rfl, h1⟩
def litA (k a b n m : Int) : ActV := ⟨k, a, b, n, m, ⟨0, 0⟩, ⟨#[]⟩, ⟨#[]⟩⟩
theorem lit_wf {k a b n m : Int} (hk : -1000000 <= k /\ k <= 1000000) (ha : -1000000 <= a /\ a <= 1000000) (hb : -1000000 <= b /\ b <= 1000000) (hn : -1000000 <= n /\ n <= 1000000) (hm : -1000000 <= m /\ m <= 1000000) : (litA k a b n m).wf := by
 refine ⟨?_, ?_, ?_, ?_, ?_, ?_, ?_, emptyB, emptyB⟩
 · show inR k; unfold inR; omega
 · show inR a; unfold inR; omega
 · show inR b; unfold inR; omega
 · show inR n; unfold inR; omega
 · show inR m; unfold inR; omega
 · show inR 0; unfold inR; omega
 · show inR 0; unfold inR; omega
theorem runS_len0 (acts : List ActV) : (runS net0 acts).2.length = acts.length := runS_len acts net0
theorem stores_len (acts : List ActV) : ((List.range 12).map fun i => ((runS net0 acts).1.nd i).st).length = 12 := by simp
theorem toprun_any (v : Value) (acts : List ActV) (w : World) (h : Sl actR w v acts) (hl : acts.length <= 400) (hE : Env w) :
  Calls Tryz.prog 19 #[v] w (RunP acts w) := by
 have HR := zaa (nrun_any v acts w h hl hE)
 obtain ⟨A, c, rfl⟩ := h.form
 clear h
 go_enter Tryz.func19, Tryz.ntmps19
 go_wp2_with fail
 refine HR.out.mono ?_
 rintro e w1 ⟨vr, vs, rfl, hr, hs, hb⟩
 obtain ⟨Ar, cr, rfl⟩ := hr.form
 obtain ⟨As, cs, rfl⟩ := hs.form
 have HRR := zaa hr
 have HSS := zaa hs
 have HB := zaa hb
 have HLN := zaa (runS_len0 acts)
 obtain ⟨nr, hnr⟩ : ∃ n, n = (runS net0 acts).2.length := ⟨_, rfl⟩
 obtain ⟨ns, hns⟩ : ∃ n, n = ((List.range 12).map fun i => ((runS net0 acts).1.nd i).st).length := ⟨_, rfl⟩
 have HNR := zaa hnr
 have HNS := zaa hns
 rw [<- hnr] at HLN ⊢
 rw [<- hns]
 clear hr hs hb hnr hns
 have e1 : ((nr : Int) != (acts.length : Int)) = false := by rw [HLN.out]; simp
 go_wp2_with fail
 go_ret3
 exact ⟨_, _, rfl, by rw [HNR.out]; exact HRR.out, by rw [HNS.out]; exact HSS.out, HB.out⟩
theorem toprun_long (A : Option Addr) (n c : Nat) (w : World) (hn : 400 < n) :
  Calls Tryz.prog 19 #[.slice A n c] w fun e w' => e = .returned (.tuple #[.slice none 0 0, .slice none 0 0, .int .i64 1]) /\ w = w' := by
 have HR := zaa (run_long A n c w hn)
 go_enter Tryz.func19, Tryz.ntmps19
 go_wp2_with fail
 refine HR.out.mono ?_
 rintro e w1 ⟨rfl, rfl⟩
 go_wp2_with fail
 go_ret3
 exact ⟨rfl, rfl⟩
theorem pickedK_any (n : Int) (many : Nat) (w : World) (hn : inR n) (h0 : 0 < many) (h1 : many <= 1000000) :
  Calls Tryz.prog 18 #[.int .i64 n, .int .i64 (many : Nat)] w fun e w' => e = .returned (.int .i64 (pickN n many : Nat)) /\ w = w' := by
 have HP := zaa (picked_any n many w hn h0 h1)
 go_enter Tryz.func18, Tryz.ntmps18
 go_wp2_with fail
 refine HP.out.mono ?_
 rintro e w1 ⟨rfl, rfl⟩
 go_wp2_with fail
 go_ret
 exact ⟨rfl, rfl⟩
theorem equalS_eq (v1 v2 : Value) (xs : List ByteArray) (w : World) (h1 : Sl strR w v1 xs) (h2 : Sl strR w v2 xs) :
  Calls Tryz.prog 23 #[v1, v2] w fun e w' => e = .returned (.bool true) /\ Below w.heap.size w w' := by
 have hl := h1.len_le
 obtain ⟨A1, c1, rfl⟩ := h1.form
 obtain ⟨A2, c2, rfl⟩ := h2.form
 have H1 := zaa h1
 have H2 := zaa h2
 clear h1 h2
 go_enter Tryz.func23, Tryz.ntmps23
 go_wp2_with fail
 go_loopw [5, 13] (fun _ s13 wr => ∃ k : Nat, k <= xs.length /\ s13 = .int .i64 k /\ Below w.heap.size w wr) (fun _ s13 _ => xs.length - (intOf s13).toNat)
 case atStart => exact ⟨0, zam _, rfl, zad _ _⟩
 case round =>
  obtain ⟨k, hk, rfl, hB⟩ := hrel
  have HB := zaa hB
  by_cases hlt : k < xs.length
  · obtain ⟨b1, o1, rfl, hb1⟩ := H1.out.at_ hlt
    obtain ⟨b2, o2, rfl, hb2⟩ := H2.out.at_ hlt
    have f1 := (H1.out.below hB).strA hlt
    have g1 := (H2.out.below hB).strA hlt
    have r0 : (0 : Int) <= (k : Int) := zae _
    have r1 : (k : Int) < (xs.length : Int) := by omega
    have r2 : (xs[k].toList == xs[k].toList) = true := by simp
    clear hB
    go_wp2_with fail
    go_quiet (fail)
    go_wp2_with fail
    go_roundw
    case rel => exact ⟨k + 1, by omega, by go_num, bDrewN HB.out _⟩
    case measure => simp [intOf]; omega
  · clear hB
    go_wp2_with fail
    go_ret
    exact ⟨rfl, HB.out⟩
theorem SlR.front {α : Type} {r : Rep α} {w : World} {S : Nat -> Prop} {A : Option Addr} {n c : Nat} {xs : List α} (h : SlR r w S (.slice A n c) xs) {k : Nat} (hk : k <= xs.length) : SlR r w S (.slice A k c) (xs.take k) := by
 obtain ⟨A', c', hv, h1, h2, h3⟩ := h
 injection hv with e1 e2 e3
 subst e1; subst e3
 refine ⟨A, c, by rw [zan, Nat.min_eq_left hk], by rw [zan]; omega, h2, fun i x hx => ?_⟩
 rw [zba] at hx
 split at hx
 · exact h3 i x hx
 · cases hx
theorem SlR.back {α : Type} {r : Rep α} {w : World} {S : Nat -> Prop} {b off n c : Nat} {xs : List α} (h : SlR r w S (.slice (some ⟨b, off, none⟩) n c) xs) {k : Nat} (hk : k <= xs.length) : SlR r w S (.slice (some ⟨b, off + k * r.size, none⟩) (n - k) (c - k)) (xs.drop k) := by
 obtain ⟨A', c', hv, h1, h2, h3⟩ := h
 injection hv with e1 e2 e3
 subst e1; subst e2; subst e3
 refine ⟨some ⟨b, off + k * r.size, none⟩, c - k, by rw [zaH], by rw [zaH]; omega, by omega, fun i x hx => ?_⟩
 rw [zbL] at hx
 obtain ⟨b', off', cs, hA, hS, hb, hh, hc⟩ := h3 (k + i) x hx
 injection hA with hA
 injection hA with e1 e2
 subst e1; subst e2
 exact ⟨b, off + k * r.size, cs, rfl, hS, hb, hh, fun j u hu => by
  rw [show off + k * r.size + i * r.size + j = off + (k + i) * r.size + j by rw [Nat.add_mul]; omega]; exact hc j u hu⟩
theorem steps1_any (r : Rpl) (vp up vk uk : Value) (w : World) (h1 : Sl intR w vp r.path) (h2 : Sl intR w up r.path) (h3 : Sl strR w vk r.keys) (h4 : Sl strR w uk r.keys) :
  Calls Tryz.prog 21 #[.agg #[.int .i64 r.code, vp, .int .i64 r.cost, vk], .agg #[.int .i64 r.code, up, .int .i64 r.cost, uk]] w fun e w' => e = .returned (.bool true) /\ Below w.heap.size w w' := by
 obtain ⟨A1, c1, rfl⟩ := h1.form
 obtain ⟨A2, c2, rfl⟩ := h2.form
 obtain ⟨A3, c3, rfl⟩ := h3.form
 obtain ⟨A4, c4, rfl⟩ := h4.form
 have hb : Below w.heap.size w ((w.alloc (.cells #[.int .i64 r.code, .slice A1 r.path.length c1, .int .i64 r.cost, .slice A3 r.keys.length c3] 44)).alloc (.cells #[.int .i64 r.code, .slice A2 r.path.length c2, .int .i64 r.cost, .slice A4 r.keys.length c4] 44)) :=
  ((zad _ _).alloc (zab _) _).alloc (by simp) _
 have HI := zaa (fun w' (hb' : Below w.heap.size w w') => equalI_any _ _ r.path r.path w' (h1.below hb') (h2.below hb'))
 have HS := zaa (fun w' (hb' : Below w.heap.size w w') => equalS_eq _ _ r.keys w' (h3.below hb') (h4.below hb'))
 have HB := zaa hb
 have e1 : (r.path == r.path) = true := by simp
 clear h1 h2 h3 h4 hb
 go_enter Tryz.func21, Tryz.ntmps21
 go_wp2_with fail
 refine (HI.out _ HB.out).mono ?_
 rintro e w1 ⟨rfl, hb1⟩
 rw [e1]
 have HB1 := zaa (HB.out.trans (hb1.mono HB.out.size))
 have z1 : (w.alloc (.cells #[.int .i64 r.code, .slice A1 r.path.length c1, .int .i64 r.cost, .slice A3 r.keys.length c3] 44)).heap.size = w.heap.size + 1 := by simp
 have f3 : w1.cell? ⟨w.heap.size, 3, none⟩ = some (.slice A3 r.keys.length c3) := by
  rw [bAt hb1 (by simp; omega) 3, zbY _ _ _ (by simp), zaf _ _ _ _ rfl]; rfl
 have g3 : w1.cell? ⟨w.heap.size + 1, 3, none⟩ = some (.slice A4 r.keys.length c4) := by
  rw [bAt hb1 (by simp) 3, zaf _ _ _ _ z1.symm]; rfl
 clear hb1 z1
 go_wp2_with fail
 refine (HS.out _ HB1.out).mono ?_
 rintro e w2 ⟨rfl, hb2⟩
 have HB2 := zaa (HB1.out.trans (hb2.mono HB1.out.size))
 clear hb2
 go_wp2_with fail
 go_ret
 exact ⟨rfl, HB2.out⟩
set_option maxRecDepth 50000 in
theorem eqRpl_any (v1 v2 : Value) (xs : List Rpl) (w : World) (h1 : Sl rplR w v1 xs) (h2 : Sl rplR w v2 xs) :
  Calls Tryz.prog 20 #[v1, v2, .func (.func 21) #[] #[]] w fun e w' => e = .returned (.bool true) /\ Below w.heap.size w w' := by
 have hl := h1.len_le
 obtain ⟨A1, c1, rfl⟩ := h1.form
 obtain ⟨A2, c2, rfl⟩ := h2.form
 have H1 := zaa h1
 have H2 := zaa h2
 clear h1 h2
 go_enter Tryz.func20, Tryz.ntmps20
 go_wp2_with fail
 go_loopw [7, 17] (fun _ i wr => ∃ k : Nat, k <= xs.length /\ i = .int .i64 k /\ Below w.heap.size w wr) (fun _ i _ => xs.length - (intOf i).toNat)
 case atStart => exact ⟨0, zam _, rfl, zad _ _⟩
 case round =>
  obtain ⟨k, hk, rfl, hB⟩ := hrel
  have HB := zaa hB
  by_cases hlt : k < xs.length
  · obtain ⟨b1, o1, rfl, hb1⟩ := H1.out.at_ hlt
    obtain ⟨b2, o2, rfl, hb2⟩ := H2.out.at_ hlt
    obtain ⟨vp, vk, f0, f1, f2, f3, s1, s3⟩ := (H1.out.below hB).rpl hlt
    obtain ⟨up, uk, g0, g1, g2, g3, t1, t3⟩ := (H2.out.below hB).rpl hlt
    obtain ⟨r, hr⟩ : ∃ r, r = xs[k] := ⟨_, rfl⟩
    rw [<- hr] at f0 f2 g0 g2 s1 s3 t1 t3
    obtain ⟨Ap, cp, rfl⟩ := s1.form
    obtain ⟨Ak, ck, rfl⟩ := s3.form
    obtain ⟨Bp, dp, rfl⟩ := t1.form
    obtain ⟨Bk, dk, rfl⟩ := t3.form
    have hal1 := (zad wr.heap.size wr).alloc (zab _) (.cells #[.int .i64 r.code, .slice Ap r.path.length cp, .int .i64 r.cost, .slice Ak r.keys.length ck] 44)
    have hal2 := hal1.alloc (by simp) (.cells #[.int .i64 r.code, .slice Bp r.path.length dp, .int .i64 r.cost, .slice Bk r.keys.length dk] 44)
    have HC := zaa (steps1_any r _ _ _ _ _ (s1.below hal2) (t1.below hal2) (s3.below hal2) (t3.below hal2))
    have HAL1 := zaa hal1
    have HAL2 := zaa (hB.trans (hal2.mono hB.size))
    have k0 := cell_keep hal1 g0
    have k1 := cell_keep hal1 g1
    have k2 := cell_keep hal1 g2
    have k3 := cell_keep hal1 g3
    have r0 : (0 : Int) <= (k : Int) := zae _
    have r1 : (k : Int) < (xs.length : Int) := by omega
    clear hB s1 s3 t1 t3 hal1 hal2 hr g0 g1 g2 g3
    go_wp2_with fail
    refine HC.out.mono ?_
    rintro e w2 ⟨rfl, hb⟩
    have HB2 := zaa (HAL2.out.trans (hb.mono HAL2.out.size))
    clear hb f0 f1 f2 f3 k0 k1 k2 k3
    go_wp2_with fail
    go_roundw
    case rel => exact ⟨k + 1, by omega, by go_num, HB2.out⟩
    case measure => simp [intOf]; omega
  · clear hB
    go_wp2_with fail
    go_ret
    exact ⟨rfl, HB.out⟩
theorem quiet1_any (v1 v2 : Value) (xs : List Entry) (w : World) (h1 : Sl entR w v1 xs) (h2 : Sl entR w v2 xs) :
  Calls Tryz.prog 39 #[v1, v2] w fun e w' => e = .returned (.bool true) /\ Below w.heap.size w w' := by
 have HC := zaa (equalE_eq v1 v2 xs w h1 h2)
 obtain ⟨A1, c1, rfl⟩ := h1.form
 obtain ⟨A2, c2, rfl⟩ := h2.form
 clear h1 h2
 go_enter Tryz.func39, Tryz.ntmps39
 go_wp2_with fail
 refine HC.out.mono ?_
 rintro e w1 ⟨rfl, hb⟩
 have HB := zaa hb
 clear hb
 go_wp2_with fail
 go_ret
 exact ⟨rfl, HB.out⟩
theorem eqSt_any (v1 v2 : Value) (xs : List (List Entry)) (w : World) (h1 : Sl (slR entR) w v1 xs) (h2 : Sl (slR entR) w v2 xs) :
  Calls Tryz.prog 38 #[v1, v2, .func (.func 39) #[] #[]] w fun e w' => e = .returned (.bool true) /\ Below w.heap.size w w' := by
 have hl := h1.len_le
 obtain ⟨A1, c1, rfl⟩ := h1.form
 obtain ⟨A2, c2, rfl⟩ := h2.form
 have H1 := zaa h1
 have H2 := zaa h2
 clear h1 h2
 go_enter Tryz.func38, Tryz.ntmps38
 go_wp2_with fail
 go_loopw [7, 8, 9, 17] (fun _ _ _ i wr => ∃ k : Nat, k <= xs.length /\ i = .int .i64 k /\ Below w.heap.size w wr) (fun _ _ _ i _ => xs.length - (intOf i).toNat)
 case atStart => exact ⟨0, zam _, rfl, zad _ _⟩
 case round =>
  obtain ⟨k, hk, rfl, hB⟩ := hrel
  have HB := zaa hB
  by_cases hlt : k < xs.length
  · obtain ⟨b1, o1, rfl, hb1⟩ := H1.out.at_ hlt
    obtain ⟨b2, o2, rfl, hb2⟩ := H2.out.at_ hlt
    obtain ⟨u1, f1, s1⟩ := (H1.out.below hB).store hlt
    obtain ⟨u2, g1, s2⟩ := (H2.out.below hB).store hlt
    have HC := zaa (quiet1_any u1 u2 _ wr s1 s2)
    obtain ⟨Ap, cp, rfl⟩ := s1.form
    obtain ⟨Bp, dp, rfl⟩ := s2.form
    have r0 : (0 : Int) <= (k : Int) := zae _
    have r1 : (k : Int) < (xs.length : Int) := by omega
    clear hB s1 s2
    go_wp2_with fail
    refine HC.out.mono ?_
    rintro e w2 ⟨rfl, hb⟩
    have HB2 := zaa (HB.out.trans (hb.mono HB.out.size))
    clear hb f1 g1
    go_wp2_with fail
    go_roundw
    case rel => exact ⟨k + 1, by omega, by go_num, HB2.out⟩
    case measure => simp [intOf]; omega
  · clear hB
    go_wp2_with fail
    go_ret
    exact ⟨rfl, HB.out⟩
end
section
open Go
theorem drawn_tame {c : ActV} (h : RawAct 5 c) (hk : c.kind ≠ 8) : Tame c := ⟨hk, h.a.1, by have := h.a.2; omega, by have := h.b.2; omega⟩
def walkA (a : Nat) (n m : Int) : ActV := litA 10 a 0 n m
def drainA (a : Nat) : ActV := litA 3 a 0 1 0
theorem lit_isN {a : Nat} (ha : a < 12) : isN (a : Int) = true := (isN_iff _).2 ⟨by omega, by omega⟩
theorem act_walk (z : Net) {a : Nat} (ha : a < 12) (n m : Int) : actS z (walkA a n m) = (z, ⟨(walkS z a n m).2.2, (walkS z a n m).1, (walkS z a n m).2.1, []⟩) :=
 act_go (k := 10) (a := a) (by show ¬ ((10 : Int) < 1 ∨ 10 < (10 : Int)); decide) (lit_isN ha) rfl rfl
theorem act_drain (z : Net) {a : Nat} (ha : a < 12) : (actS z (drainA a)).1 = z.setN a { z.nd a with dr := true } := by
 rw [act_go (k := 3) (a := a) (by show ¬ ((3 : Int) < 1 ∨ 10 < (3 : Int)); decide) (lit_isN ha) rfl rfl, actK_3, if_pos (.inr rfl)]
 rfl
theorem drain_tame {a : Nat} (ha : a < 5) : Tame (drainA a) := ⟨by show (3 : Int) ≠ 8; decide, by show (0 : Int) <= (a : Int); omega, by show (a : Int) < 5; omega, by show (0 : Int) < 5; decide⟩
theorem settle_len : settleL.length = 90 := by kernel_rfl
theorem runS_last1 (l : List ActV) (c : ActV) : runS net0 (l ++ [c]) = ((actS (runN net0 l) c).1, (runS net0 l).2 ++ [(actS (runN net0 l) c).2]) := by
 rw [runS_append]; rfl
theorem walk_run {acts : List ActV} (ht : ∀ c ∈ acts, Tame c) (hl : acts.length <= 1000) {a : Nat} (ha : a < 5) (n : Int) (pick : Nat) :
  ∃ z t, Stl z t /\ Same3 (runN net0 acts) z /\ runS net0 (acts ++ settleL ++ [walkA a n pick]) = (z, (runS net0 (acts ++ settleL)).2 ++ [⟨(walkS z a n pick).2.2, (walkS z a n pick).1, (walkS z a n pick).2.1, []⟩]) := by
 obtain ⟨h1, h2⟩ := acts_stl ht hl
 refine ⟨_, _, h1, h2, ?_⟩
 rw [runS_last1, act_walk _ (by omega)]
theorem Stl.tellsP {z : Net} {t : Nat} (h : Stl z t) {a : Nat} (ha : a < 5) : ∃ e, getS (z.nd a).st (keyP a) = (e, 0) /\ e.value = tellP z a /\ readPrefs e.value.data.toList = ((z.nd a).pf, 0) /\ chkPrefs (z.nd a).pf = 0 := by
 obtain ⟨_, f, g1, g2, _⟩ := h.told a ha
 have hk := (h.kn.ok.nd a (by omega)).pf
 refine ⟨f, ?_, g2, ?_, hk⟩
 · unfold getS
   rw [if_pos (h.kn.ok.nd a (by omega)).st.check, g1]
 · rw [g2]
   unfold tellP
   rw [bOf_list, prefs_read hk]
theorem topWalks_says {acts : List ActV} (ht : ∀ c ∈ acts, Tame c) (hl : acts.length <= 1000) {a : Nat} (ha : a < 5) {n : Int} (hn : 0 <= n /\ n <= 255) (pick : Nat) :
  ∃ z rs r, runS net0 (acts ++ settleL ++ [walkA a n pick]) = (z, rs ++ [r]) /\ (r.code = 6 ∨ (r.code = 0 /\ ∃ (e : Nat) (g : Entry), e < 5 /\ r.path.getLast? = some (e : Int) /\ getS (z.nd e).st (keyP e) = (g, 0) /\
    readPrefs g.value.data.toList = ((z.nd e).pf, 0) /\ g.value.size <= 120 /\ chkPrefs (z.nd e).pf = 0 /\ ∃ p ∈ (z.nd e).pf, matchP n p = true)) := by
 obtain ⟨z, t, hs, _, hr⟩ := walk_run ht hl ha n pick
 refine ⟨z, _, _, hr, ?_⟩
 rcases walk_find hs ha hn pick with ⟨_, h2⟩ | ⟨r, l, c, _, h2, _, _, _, ⟨e, he, hlast, hp⟩, _⟩
 · left; show (walkS z a n pick).2.2 = 6; rw [h2]
 · right
   obtain ⟨g, g1, g2, g3, g4⟩ := hs.tellsP he
   refine ⟨by show (walkS z a n pick).2.2 = 0; rw [h2], e, g, he, by show (walkS z a n pick).1.getLast? = _; rw [h2]; exact hlast, g1, g3, by rw [g2]; exact tellP_size hs.kn.ok (by omega), g4, hp⟩
theorem topDrained_says {acts : List ActV} (ht : ∀ c ∈ acts, Tame c) (hl : acts.length <= 900) {d : Nat} (hd : d < 5) {a : Nat} (ha : a < 5) {n : Int} (hn : 0 <= n /\ n <= 255) (pick : Nat) :
  ∃ z rs r, runS net0 (acts ++ [drainA d] ++ settleL ++ [walkA a n pick]) = (z, rs ++ [r]) /\ (r.path = [] ∨ ∃ l, r.path = (a : Int) :: l /\ ((d : Int) ∈ l -> ∃ p ∈ (z.nd d).pf, matchP n p = true)) /\
    ∃ g : Entry, getS (z.nd d).st (keyP d) = (g, 0) /\ readPrefs g.value.data.toList = ((z.nd d).pf, 0) /\ g.value.size <= 120 /\ chkPrefs (z.nd d).pf = 0 := by
 obtain ⟨z, t, hs, h3, hr⟩ := walk_run (acts := acts ++ [drainA d]) (fun c hc => (zaB.1 hc).elim (ht c) (fun h => by rw [zaU] at h; rw [h]; exact drain_tame hd)) (by simp; omega) ha n pick
 obtain ⟨g, g1, g2, g3, g4⟩ := hs.tellsP hd
 refine ⟨z, _, _, hr, ?_, g, g1, g3, by rw [g2]; exact tellP_size hs.kn.ok (by omega), g4⟩
 rcases walk_find hs ha hn pick with ⟨_, h2⟩ | ⟨r, l, c, _, h2, _, _, _, _, hdr⟩
 · left; show (walkS z a n pick).1 = []; rw [h2]
 · right
   refine ⟨l, by show (walkS z a n pick).1 = _; rw [h2], fun hm => ?_⟩
   have h9 := hdr d hm
   rw [show ((d : Int)).toNat = d by omega] at h9
   refine h9 ?_
   rw [h3.dr d, runN_snoc, act_drain _ (by omega), setN_same]
theorem topTables_says {acts : List ActV} (ht : ∀ c ∈ acts, Tame c) (hl : acts.length <= 1000) {a : Nat} (ha : a < 5) {n : Int} (hn : 0 <= n /\ n <= 255) :
  ∃ z rs r, runS net0 (acts ++ settleL ++ [walkA a n 0]) = (z, rs ++ [r]) /\ OkS (z.nd a).st /\ r.code = (lookS (tabTo (z.nd a).st a 12) n).2 /\
    (r.code = 0 ∨ r.code = 6) /\ (r.code = 0 -> ((lookS (tabTo (z.nd a).st a 12) n).1.here = true /\ r.path.length = 1) ∨
     ((lookS (tabTo (z.nd a).st a 12) n).1.here = false /\ ∃ l x hs, r.path = (a : Int) :: x :: l /\ (lookS (tabTo (z.nd a).st a 12) n).1.hops = x :: hs)) := by
 obtain ⟨z, t, hs, _, hr⟩ := walk_run ht hl ha n 0
 refine ⟨z, _, _, hr, (hs.kn.ok.nd a (by omega)).st, ?_⟩
 rcases walk_find hs ha hn 0 with ⟨h1, h2⟩ | ⟨r, l, c, h1, h2, h3, h4, _⟩
 · rw [h1]
   exact ⟨by show (walkS z a n (0 : Nat)).2.2 = _; rw [h2], .inr (by show (walkS z a n (0 : Nat)).2.2 = 6; rw [h2]), fun h => by
    have h9 : (walkS z a n (0 : Nat)).2.2 = 0 := h
    rw [h2] at h9; cases h9⟩
 · rw [h1]
   refine ⟨by show (walkS z a n (0 : Nat)).2.2 = _; rw [h2], .inl (by show (walkS z a n (0 : Nat)).2.2 = 0; rw [h2]), fun _ => ?_⟩
   cases hh : r.here with
   | true => left; exact ⟨rfl, by show (walkS z a n (0 : Nat)).1.length = 1; rw [h2, h3 hh]; rfl⟩
   | false =>
     right
     obtain ⟨l', e⟩ := h4 hh
     have hck : chkRoutes (tabTo (z.nd a).st a 12) = 0 := by rw [<- hs.tb a ha]; exact (hs.kn.ok.nd a (by omega)).tb
     obtain ⟨hp, _, _⟩ := look_hops hck h1 hh
     rcases hhp : r.hops with _ | ⟨x, hs'⟩
     · rw [hhp] at hp; exact absurd hp (Nat.lt_irrefl 0)
     · exact ⟨rfl, l', x, hs', by show (walkS z a n (0 : Nat)).1 = _; rw [h2, e, Nat.zero_mod, hhp]; rfl, rfl⟩
theorem topSame_says {acts : List ActV} (ht : ∀ c ∈ acts, Tame c) (hl : acts.length <= 1000) :
  ∃ z t, (runS net0 (acts ++ settleL)).1 = z /\ Stl z t /\ linesS (fun _ _ => 0) acts ((runS net0 (acts ++ settleL)).2.take acts.length) = z.co := by
 obtain ⟨h1, h2⟩ := acts_stl ht hl
 have hr := run_lines acts net0
 refine ⟨runN net0 (acts ++ settleL), _, rfl, h1, ?_⟩
 rw [h2.co, runS_append acts settleL, List.take_left' (runS_len acts net0)]
 exact hr
theorem quiet_run {L M : List ActV} {t : Nat} (h1 : Stl (runN net0 L) t) (hq : ∀ c ∈ M, quietAct c) :
  (runS net0 (L ++ M)).1 = (runS net0 L).1 /\ ∀ r : Rpl, r ∈ List.drop L.length (runS net0 (L ++ M)).2 -> r.keys = [] := by
 obtain ⟨g1, g2⟩ := run_quiet h1 M hq
 unfold runN at g1 g2
 rw [runS_append L M]
 refine ⟨g1, ?_⟩
 rw [List.drop_left' (runS_len L net0)]
 exact g2
theorem topQuiet_says {acts : List ActV} (ht : ∀ c ∈ acts, Tame c) (hl : acts.length <= 1000) :
  (runS net0 (acts ++ settleL ++ settleL)).1 = (runS net0 (acts ++ settleL)).1 /\ ∀ r : Rpl, r ∈ List.drop (acts ++ settleL).length (runS net0 (acts ++ settleL ++ settleL)).2 -> r.keys = [] :=
 quiet_run (acts_stl ht hl).1 settle_quietActs
theorem topSteps_says (acts : List ActV) (k : Nat) : (runS net0 (acts.take k)).2 = (runS net0 acts).2.take k := by
 rcases zbv acts.length k with h | h
 · rw [zaI (by omega), zaI (by rw [runS_len]; omega)]
 · have e : acts = acts.take k ++ acts.drop k := (List.take_append_drop k acts).symm
   rw [show (runS net0 acts).2 = (runS net0 (acts.take k ++ acts.drop k)).2 by rw [<- e], runS_append]
   rw [List.take_left' (by rw [runS_len, zan]; omega)]
end
section
open Go Go.RowKit Go.Deep
theorem OwR.cutR {k E base : Nat} {w : World} {g n cap : Nat} {xs : List (List Value)} (h : OwR (cellR k) E base w (.slice (some ⟨g, 0, none⟩) n cap) xs) {i : Nat} (hi : i <= xs.length) :
  OwR (cellR k) E base w (.slice (some ⟨g, 0, none⟩) i cap) (xs.take i) := by
 obtain ⟨h1, h2, h3⟩ := OwR.to_raw h
 refine OwR.of_raw ?_ (fun x hx => h2 x (zbc hx)) h3
 have hl : (xs.take i).length = i := by rw [zan]; omega
 have hm : i * k <= xs.length * k := Nat.mul_le_mul_right k hi
 rw [hl, flatK_take h2]
 refine ⟨by rw [zan, h1.1]; exact Nat.min_eq_left hm, ?_⟩
 rcases h1.2 with ⟨h', _⟩ | ⟨g', cap', cur, h', hb, hg, hnc, hcm, hcs, htake⟩
 · cases h'
 · injection h' with e1 e2 e3
   subst e3
   refine .inr ⟨g', cap, cur, by rw [e1], hb, hg, by omega, hcm, hcs, ?_⟩
   rw [<- htake, List.take_take]
   congr 1
   exact (Nat.min_eq_left hm).symm
theorem OwR.setMany {k E base g n cap : Nat} (hk : 0 < k) : ∀ (zs : List Value) (o : Nat) (w : World) (css : List (List Value)), (∀ z ∈ zs, z.oneCell' = true) -> o + zs.length <= css.length * k -> OwR (cellR k) E base w (.slice (some ⟨g, 0, none⟩) n cap) css ->
  ∃ css', css'.length = css.length /\ (∀ t, (t + 1) * k <= o -> css'[t]? = css[t]?) /\ OwR (cellR k) E base (w.setCells g o zs) (.slice (some ⟨g, 0, none⟩) n cap) css'
 | [], o, w, css, _, _, h => ⟨css, rfl, fun _ _ => rfl, h⟩
 | z :: zs, o, w, css, hz, ho, h => by
   rw [zay] at ho
   have hi : o / k < css.length := (Nat.div_lt_iff_lt_mul hk).2 (by omega)
   have s := h.setRaw (i := o / k) (j := o % k) hi (Nat.mod_lt _ hk) (u := z) (hz z (by simp))
   rw [Nat.div_add_mod'] at s
   obtain ⟨css', c1, c2, c3⟩ := OwR.setMany hk zs (o + 1) _ _ (fun y hy => hz y (by simp [hy])) (by rw [zbz]; omega) s
   refine ⟨css', by rw [c1, zbz], fun t ht => ?_, c3⟩
   rw [c2 t (by omega), zbG]
   intro e
   have : t + 1 <= o / k := (Nat.le_div_iff_mul_le hk).2 ht
   omega
theorem OwR.setSome {k E base g n cap i : Nat} : ∀ (zs old pre : List Value) (w : World) (css : List (List Value)), (∀ z ∈ zs, z.oneCell' = true) -> css[i]? = some (pre ++ old) -> old.length = zs.length -> pre.length + zs.length = k -> OwR (cellR k) E base w (.slice (some ⟨g, 0, none⟩) n cap) css ->
  OwR (cellR k) E base (w.setCells g (i * k + pre.length) zs) (.slice (some ⟨g, 0, none⟩) n cap) (css.set i (pre ++ zs))
 | [], old, pre, w, css, _, hc, ho, _, h => by
   obtain rfl : old = [] := zat ho
   obtain ⟨hi, he⟩ := zaz.1 hc
   rw [<- he, List.set_getElem_self]; exact h
 | z :: zs, [], pre, w, css, _, _, ho, _, _ => by cases ho
 | z :: zs, o :: old, pre, w, css, hz, hc, ho, hk, h => by
   obtain ⟨hi, he⟩ := zaz.1 hc
   have s := h.setRaw (i := i) (j := pre.length) hi (by rw [zay] at hk; omega) (u := z) (hz z (by simp))
   rw [he, zcf _ _ (zab _), Nat.sub_self, List.set_cons_zero] at s
   have e : pre ++ [z] ++ zs = pre ++ z :: zs := by simp
   have e2 : i * k + (pre ++ [z]).length = i * k + pre.length + 1 := by simp; omega
   have t := OwR.setSome zs old (pre ++ [z]) (w.setCell ⟨g, i * k + pre.length, none⟩ z) _ (fun y hy => hz y (by simp [hy])) (by rw [zby hi]; simp) (by simpa using ho) (by simp at hk ⊢; omega) s
   rw [List.set_set, e, e2] at t
   exact t
theorem act_one (y : ActV) : ∀ u ∈ y.cells, u.oneCell' = true := fun u h => by
 simp [ActV.cells] at h
 rcases h with rfl | rfl | rfl | rfl | rfl | rfl | rfl | rfl | rfl <;> rfl
theorem OwR.setAct {base : Nat} {w : World} {g n cap : Nat} {xs : List ActV} (h : OwR actR 34 base w (.slice (some ⟨g, 0, none⟩) n cap) xs) {i : Nat} (hi : i < xs.length) {y : ActV} (hy : y.wf) :
  OwR actR 34 base (w.setCells g (i * 9) y.cells) (.slice (some ⟨g, 0, none⟩) n cap) (xs.set i y) := by
 obtain ⟨css, c1, c2, c3⟩ := h.css
 have hi' : i < css.length := by omega
 have hl : css[i].length = 9 := ((OwR.to_raw c3).2.1 _ (zap hi')).1
 have s := OwR.setSome (i := i) y.cells css[i] [] w css (act_one y) (by rw [List.nil_append]; exact zac hi') hl rfl c3
 refine OwR.of_css (css := css.set i y.cells) (by simp [c1]) (fun m cs x hcs hx => ?_) s
 by_cases e : m = i
 · subst e
   rw [zby (by omega)] at hcs hx
   injection hcs with hcs; injection hx with hx
   subst hcs hx
   exact ⟨rfl, hy⟩
 · rw [zbG (fun x => e x.symm)] at hcs hx
   exact c2 m cs x hcs hx
theorem ow_clearedA {base : Nat} {w : World} {g cap : Nat} {xs : List ActV} (h : OwR actR 34 base w (.slice (some ⟨g, 0, none⟩) xs.length cap) xs) (i : Nat) (hi : i <= xs.length) (zs : List Value) (hz : ∀ z ∈ zs, z.oneCell' = true) (hl : i * 9 + zs.length <= xs.length * 9) :
  OwR actR 34 base (w.setCells g (i * 9) zs) (.slice (some ⟨g, 0, none⟩) i cap) (xs.take i) := by
 obtain ⟨css, c1, c2, c3⟩ := h.css
 obtain ⟨css', d1, d2, d3⟩ := OwR.setMany (by decide) zs (i * 9) w css hz (by rw [c1]; exact hl) c3
 refine OwR.of_css (css := css'.take i) (by rw [zan, zan, d1, c1]) (fun j cs x hc hx => ?_) (d3.cutR (by omega))
 rw [zba] at hc hx
 split at hc
 · rename_i e
   rw [if_pos e] at hx
   rw [d2 j (by show (j + 1) * 9 <= i * 9; omega)] at hc
   exact c2 j cs x hc hx
 · cases hc
structure DelA (p : ActV -> Bool) (xs dk : List ActV) (i j : Nat) : Prop where
 lt : i < j
 le : j <= xs.length
 size : dk.length = xs.length
 kept : dk.take i = (xs.take j).filter (fun x => !p x)
 rest : ∀ t, j <= t -> dk[t]? = xs[t]?
theorem DelA.keep {p : ActV -> Bool} {xs dk : List ActV} {i j : Nat} (h : DelA p xs dk i j) (hj : j < xs.length) (hp : p xs[j] = false) : DelA p xs (dk.set i xs[j]) (i + 1) (j + 1) := by
 have h1 := h.lt
 have h2 := h.size
 refine ⟨by omega, by omega, by rw [zbz]; exact h2, ?_, fun t ht => ?_⟩
 · rw [zas (by rw [zbz]; omega), List.take_set_of_le (zab _), h.kept, zas hj, zbx]
   simp [hp]
 · rw [zbG (by omega)]; exact h.rest t (by omega)
theorem DelA.skip {p : ActV -> Bool} {xs dk : List ActV} {i j : Nat} (h : DelA p xs dk i j) (hj : j < xs.length) (hp : p xs[j] = true) : DelA p xs dk i (j + 1) := by
 have h1 := h.lt
 refine ⟨by omega, by omega, h.size, ?_, fun t ht => h.rest t (by omega)⟩
 rw [h.kept, zas hj, zbx]
 simp [hp]
theorem DelA.start {p : ActV -> Bool} {xs : List ActV} {k : Nat} (hk : k < xs.length) (hp : p xs[k] = true) (hall : ∀ j, (h : j < xs.length) -> j < k -> p xs[j] = false) : DelA p xs xs k (k + 1) := by
 refine ⟨by omega, by omega, rfl, ?_, fun _ _ => rfl⟩
 rw [zas hk, zbx]
 have h1 : (xs.take k).filter (fun x => !p x) = xs.take k := by
  rw [List.filter_eq_self]
  intro x hx
  obtain ⟨i, hi, rfl⟩ := zal hx
  rw [zan] at hi
  rw [zbt]
  simp [hall i (by omega) (by omega)]
 rw [h1]
 simp [hp]
def zeroAL : List Value := [.int .i64 0, .int .i64 0, .int .i64 0, .int .i64 0, .int .i64 0, .int .i64 0, .int .i64 0, .string ⟨#[]⟩, .string ⟨#[]⟩]
def zeroA : Value := .agg #[.int .i64 0, .int .i64 0, .int .i64 0, .int .i64 0, .int .i64 0, .int .i64 0, .int .i64 0, .string ⟨#[]⟩, .string ⟨#[]⟩]
theorem zero_act (w : World) : (zeroValue 34).run Tryz.prog w = .ok zeroA w := by
 go_simp
 rfl
theorem zeroA_cells : zeroA.cells = zeroAL.toArray := by kernel_rfl
def zerosA (n : Nat) : List Value := (Builtin.zeroCells zeroAL.toArray n).toList
theorem zerosA_len (n : Nat) : (zerosA n).length = n * 9 := by
 simp [zerosA, Builtin.zeroCells, zeroAL]
theorem zerosA_one (n : Nat) : ∀ v ∈ zerosA n, v.oneCell' = true := by
 intro v hv
 unfold zerosA Builtin.zeroCells at hv
 simp only [Array.toList_map, zaX] at hv
 obtain ⟨i, hi, rfl⟩ := hv
 have h9 : i % 9 < 9 := Nat.mod_lt _ (by omega)
 show (zeroAL.toArray[i % 9]!).oneCell' = true
 obtain ⟨m, hm⟩ : ∃ m, i % 9 = m := ⟨_, rfl⟩
 rw [hm] at h9 ⊢
 match m, h9 with
 | 0, _ => rfl
 | 1, _ => rfl
 | 2, _ => rfl
 | 3, _ => rfl
 | 4, _ => rfl
 | 5, _ => rfl
 | 6, _ => rfl
 | 7, _ => rfl
 | 8, _ => rfl
theorem run_clear_act (w : World) (ty g o n c : Nat) (hn : 0 < n) (hc : ∀ j, j < n * 9 -> (w.cell? ⟨g, o + j, none⟩).isSome = true) (hf : ∀ j, j < n * 9 -> w.frozen? ⟨g, o + j, none⟩ = false) :
  (Builtin.clear_ #[23] ty #[.slice (some ⟨g, o, none⟩) n c]).run Tryz.prog w = .ok (.tuple #[]) (w.setCells g o (zerosA n)) := by
 have hst := run_storeCells_cells (P := Tryz.prog) g o (zerosA n) 0 w (by rw [zerosA_len]; simpa using hc) (by rw [zerosA_len]; simpa using hf) (zerosA_one n)
 simp only [zbH] at hst
 obtain ⟨m, rfl⟩ : ∃ m, n = m + 1 := ⟨n - 1, by omega⟩
 unfold zerosA at hst ⊢
 have ht := Tryz.underlying23
 have hzc : (Value.agg #[.int .i64 0, .int .i64 0, .int .i64 0, .int .i64 0, .int .i64 0, .int .i64 0, .int .i64 0, .string ⟨#[]⟩, .string ⟨#[]⟩]).cells = zeroAL.toArray := zeroA_cells
 simp [Builtin.clear_, run_underlying ht, zero_act, zeroA, hzc, hst]
def askA (p : ActV -> Bool) (fid : Nat) (B : Nat) (w : World) : Prop := ∀ (x : ActV) (w' : World), Below B w w' -> Calls Tryz.prog fid #[x.agg] w' fun e w'' => e = .returned (.bool (p x)) /\ Below w'.heap.size w' w''
set_option maxRecDepth 100000 in
theorem idxA_any (p : ActV -> Bool) (v : Value) (xs : List ActV) (B : Nat) (w : World) (h : Sl actR w v xs) (hB : B <= w.heap.size) (hp : askA p 49 B w) :
  Calls Tryz.prog 78 #[v, .func (.func 49) #[] #[]] w fun e w' => (∃ n : Int, e = .returned (.int .i64 n) /\ ((n = -1 /\ ∀ j, (h : j < xs.length) -> p xs[j] = false) ∨ ∃ k : Nat, n = (k : Int) /\ (∃ h : k < xs.length, p xs[k] = true) /\ ∀ j, (h : j < xs.length) -> j < k -> p xs[j] = false)) /\ Below w.heap.size w w' := by
 have hlen := h.len_le
 obtain ⟨A, c, rfl⟩ := h.form
 have H := zaa h
 have HP := zaa hp
 clear h hp
 go_enter Tryz.func78, Tryz.ntmps78
 go_wp2_with fail
 go_loopw [5, 8] (fun _ i wr => ∃ k : Nat, k <= xs.length /\ i = .int .i64 k /\ Below w.heap.size w wr /\ ∀ j, (h : j < xs.length) -> j < k -> p xs[j] = false) (fun _ i _ => xs.length - (intOf i).toNat)
 case atStart => exact ⟨0, zam _, rfl, zad _ _, fun j _ h => absurd h (by omega)⟩
 case round =>
  obtain ⟨k, hk, rfl, hB', hall⟩ := hrel
  have HA := zaa hall
  have HB := zaa hB'
  clear hall
  by_cases hlt : k < xs.length
  · obtain ⟨b, off, rfl, hb⟩ := H.out.at_ hlt
    obtain ⟨f0, f1, f2, f3, f4, f5, f6, f7, f8, _⟩ := (H.out.below hB').act hlt
    have hcal := HP.out xs[k] wr (hB'.mono hB)
    unfold ActV.agg at hcal
    have HC := zaa hcal
    have r0 : (0 : Int) <= (k : Int) := zae _
    have r1 : (k : Int) < (xs.length : Int) := by omega
    clear hB' hcal
    go_wp2_with fail
    refine HC.out.mono ?_
    rintro e w1 ⟨rfl, hb1⟩
    have HB1 := zaa (HB.out.trans (hb1.mono HB.out.size))
    clear hb1
    rcases hp : p xs[k] with _ | _
    · have HPX := zaa hp
      clear hp
      go_wp2_with fail
      go_roundw
      case rel =>
       refine ⟨k + 1, by omega, by go_num, HB1.out, fun j hj hjk => ?_⟩
       by_cases e : j = k
       · subst e; exact HPX.out
       · exact HA.out j hj (by omega)
      case measure => simp [intOf]; omega
    · have HPX := zaa hp
      clear hp
      go_wp2_with fail
      go_ret
      exact ⟨⟨(k : Int), rfl, .inr ⟨k, rfl, ⟨hlt, HPX.out⟩, HA.out⟩⟩, HB1.out⟩
  · clear hB'
    go_wp2_with fail
    go_ret
    exact ⟨⟨-1, rfl, .inl ⟨rfl, fun j hj => HA.out j hj (by omega)⟩⟩, HB.out⟩
set_option maxRecDepth 100000 in
theorem delA_any (p : ActV -> Bool) (v : Value) (xs : List ActV) (base B : Nat) (w : World) (h : OwR actR 34 base w v xs) (hB : B <= base) (hp : askA p 49 B w) :
  Calls Tryz.prog 48 #[v, .func (.func 49) #[] #[]] w fun e w' => ∃ v', e = .returned v' /\ OwR actR 34 base w' v' (xs.filter (fun x => !p x)) /\ Below base w w' := by
 have hsl := h.sl (by decide)
 have hbw := h.choose_spec.2.2.2
 have HX := zaa (idxA_any p v xs B w hsl (by omega) hp)
 have hlen := hsl.len_le
 have HP := zaa hp
 have HO := zaa h
 obtain ⟨A, c, rfl⟩ := hsl.form
 clear hsl hp h
 go_enter Tryz.func48, Tryz.ntmps48
 go_wp2_with fail
 refine HX.out.mono ?_
 rintro e w1 ⟨⟨n, rfl, hn⟩, hb1⟩
 have HB1 := zaa (hb1.mono hbw)
 have ho1 := HO.out.keep hb1
 rcases hn with ⟨rfl, hall⟩ | ⟨k, rfl, ⟨hk, hpk⟩, hall⟩
 · have hfil : xs.filter (fun x => !p x) = xs := by
    rw [List.filter_eq_self]
    intro x hx
    obtain ⟨i, hi, rfl⟩ := zal hx
    simp [hall i hi]
   have HF := zaa hfil
   have HO1 := zaa ho1
   clear hfil hall hb1 ho1
   go_wp2_with fail
   go_ret
   exact ⟨_, rfl, by rw [HF.out]; exact HO1.out, HB1.out⟩
 · have HD := zaa (DelA.start hk hpk hall)
   obtain ⟨g, rfl, hg1, hg2, hg3⟩ := ho1.atN (by omega)
   have HO1 := zaa ho1
   have HK := zaa hk
   have hgb := hg1
   obtain ⟨m, hm⟩ : ∃ m, xs.length = m := ⟨_, rfl⟩
   have HM := zaa hm
   have hne1 : ((k : Int) == -1) = false := beq_eq_false_iff_ne.2 (by omega)
   rw [hm] at hk hlen ⊢
   clear hpk hall hb1 ho1 hm
   go_wp2_with fail
   go_loopw [5, 6, 7] (fun s5 s6 _ wr => ∃ (i j : Nat) (dk : List ActV), s5 = .int .i64 i /\ s6 = .int .i64 j /\ Hid (DelA p xs dk i j) /\ Hid (OwR actR 34 base wr (.slice (some ⟨g, 0, none⟩) m c) dk) /\ Hid (Below base w wr)) (fun _ s6 _ _ => m - (intOf s6).toNat)
   case atStart => exact ⟨k, k + 1, xs, rfl, by go_num, HD, by rw [HM.out] at HO1; exact HO1, HB1⟩
   case round =>
    obtain ⟨i, j, dk, rfl, rfl, HI, HR, HB⟩ := hrel
    have hij := HI.out.lt
    have hjm := HI.out.le
    have hds := HI.out.size
    rw [HM.out] at hjm hds
    have HDS := zaa hds
    have HR0 := zaa (show OwR actR 34 base wr (.slice (some ⟨g, 0, none⟩) dk.length c) dk from by rw [HDS.out]; exact HR.out)
    by_cases hlt : j < m
    · have hjx : j < xs.length := by rw [HM.out]; exact hlt
      have hjd : j < dk.length := by rw [HDS.out]; exact hlt
      have hid' : i < dk.length := by rw [HDS.out]; omega
      have hjy : dk[j] = xs[j] := by
       have := HI.out.rest j (zab _)
       rw [zac hjd, zac hjx] at this
       injection this
      obtain ⟨f0, f1, f2, f3, f4, f5, f6, f7, f8, fw⟩ := (HR.out.sl (by decide)).act hjd
      rw [zaO] at f0 f1 f2 f3 f4 f5 f6 f7 f8
      rw [hjy] at f0 f1 f2 f3 f4 f5 f6 f7 f8 fw
      have HKE := zaa (fun h => HI.out.keep hjx h)
      have HSK := zaa (fun h => HI.out.skip hjx h)
      obtain ⟨y, hy⟩ : ∃ y, xs[j] = y := ⟨_, rfl⟩
      rw [hy] at f0 f1 f2 f3 f4 f5 f6 f7 f8 fw HKE HSK
      have hal : Below wr.heap.size wr (wr.alloc (.cells #[.int .i64 y.kind, .int .i64 y.a, .int .i64 y.b, .int .i64 y.n, .int .i64 y.m, .int .i64 y.pre.addr, .int .i64 y.pre.bits, .string y.key, .string y.value] 34)) := (zad _ _).alloc (zab _) _
      have hcal := HP.out y _ ((HB.out.mono hB).trans (hal.mono (by have := HB.out.size; omega)))
      unfold ActV.agg at hcal
      have HC := zaa hcal
      have HFW := zaa fw
      have r0 : (0 : Int) <= (j : Int) := zae _
      have r1 : (j : Int) < (m : Int) := by omega
      have r2 : (0 : Int) <= (i : Int) := zae _
      have r3 : (i : Int) < (m : Int) := by omega
      clear hal hcal hjy hy fw hjx hjd hk
      go_wp2_with fail
      refine HC.out.mono ?_
      rintro e w2 ⟨rfl, hb2⟩
      have hA : Below wr.heap.size wr w2 := ((zad wr.heap.size wr).alloc (zab _) _).trans (hb2.mono (by simp))
      have hN0 := fun o => bAt hb2 (show wr.heap.size < (wr.alloc (.cells #[.int .i64 y.kind, .int .i64 y.a, .int .i64 y.b, .int .i64 y.n, .int .i64 y.m, .int .i64 y.pre.addr, .int .i64 y.pre.bits, .string y.key, .string y.value] 34)).heap.size by simp) o
      have hN : ∀ o, w2.cell? ⟨wr.heap.size, o, none⟩ = y.cells[o]? := fun o => by rw [hN0, zaf _ _ _ _ rfl, zaq]; rfl
      have k0 := hN 0
      have k1 := hN 1
      have k2 := hN 2
      have k3 := hN 3
      have k4 := hN 4
      have k5 := hN 5
      have k6 := hN 6
      have k7 := hN 7
      have k8 := hN 8
      simp only [ActV.cells, zar, zao] at k0 k1 k2 k3 k4 k5 k6 k7 k8
      have ho2 := HR.out.keep hA
      have HB2 := zaa (HB.out.trans (hA.mono (by have := HB.out.size; omega)))
      have HR2 := zaa ho2
      obtain ⟨g0, g1, g2, g3, g4, g5, g6, g7, g8, _⟩ := (ho2.sl (by decide)).act hid'
      rw [zaO] at g0 g1 g2 g3 g4 g5 g6 g7 g8
      have hg4 : ∀ j, w2.frozen? ⟨g, j, none⟩ = false := by
       obtain ⟨g', e1, _, _, e4⟩ := (HR0.out.keep hA).atN (by omega)
       injection e1 with e1; injection e1 with e1 _ _; subst e1; exact e4
      clear hA ho2 hb2 f0 f1 f2 f3 f4 f5 f6 f7 f8 hN hN0
      rcases hq : p y with _ | _
      · have HQ := zaa hq
        clear hq
        go_wp2_with fail
        go_roundw
        case rel =>
         have hse := HR2.out.setAct hid' HFW.out
         exact ⟨i + 1, j + 1, dk.set i y, by go_num, by go_num, zaa (HKE.out HQ.out), zaa hse, zaa (belowCells hgb y.cells _ _ HB2.out)⟩
        case measure => simp [intOf]; omega
      · have HQ := zaa hq
        clear hq
        go_wp2_with fail
        go_roundw
        case rel => exact ⟨i, j + 1, dk, rfl, by go_num, zaa (HSK.out HQ.out), HR2, HB2⟩
        case measure => simp [intOf]; omega
    · obtain rfl : m = j := by omega
      have hcm : m <= c := by
       obtain ⟨_, _, hv, h1, _⟩ := HR.out.sl (by decide)
       injection hv with e1 e2 e3
       rw [HDS.out] at h1
       omega
      have hg3 : ∀ j, wr.frozen? ⟨g, j, none⟩ = false := by
       obtain ⟨g', e1, _, _, e4⟩ := HR0.out.atN (by rw [HDS.out]; omega)
       injection e1 with e1; injection e1 with e1 _ _; subst e1; exact e4
      have hcells : ∀ t, t < m * 9 -> (wr.cell? ⟨g, t, none⟩).isSome = true := by
       intro t ht
       have hq4 : t / 9 < dk.length := by rw [HDS.out]; omega
       obtain ⟨c0, c1, c2, c3, c4, c5, c6, c7, c8, _⟩ := (HR.out.sl (by decide)).act hq4
       rw [zaO] at c0 c1 c2 c3 c4 c5 c6 c7 c8
       have hm4 := Nat.mod_lt t (show 0 < 9 by omega)
       have hdm := Nat.div_add_mod t 9
       obtain ⟨r, hr⟩ : ∃ r, t % 9 = r := ⟨_, rfl⟩
       rw [hr] at hm4 hdm
       have e0 : t = t / 9 * 9 + r := by omega
       rw [e0]
       match r, hm4 with
       | 0, _ => rw [zbH, c0]; rfl
       | 1, _ => rw [c1]; rfl
       | 2, _ => rw [c2]; rfl
       | 3, _ => rw [c3]; rfl
       | 4, _ => rw [c4]; rfl
       | 5, _ => rw [c5]; rfl
       | 6, _ => rw [c6]; rfl
       | 7, _ => rw [c7]; rfl
       | 8, _ => rw [c8]; rfl
      have hcl : ∀ ty, (Builtin.clear_ #[23] ty #[.slice (some ⟨g, i * 9, none⟩) (m - i) (c - i)]).run Tryz.prog wr = .ok (.tuple #[]) (wr.setCells g (i * 9) (zerosA (m - i))) :=
       fun ty => run_clear_act wr ty g (i * 9) (m - i) (c - i) (by omega) (fun t ht => hcells _ (by omega)) (fun t _ => hg3 _)
      have r1 : ¬ (m : Int) < (m : Int) := by omega
      have r2 : (0 : Int) <= (i : Int) := zae _
      have r3 : (i : Int) <= (m : Int) := by omega
      have r4 : (i : Int) <= (c : Int) := by omega
      have r5 : (m : Int) <= (c : Int) := by omega
      clear hcells hg3
      go_wp2_with fail
      go_ret
      refine ⟨_, rfl, ?_, belowCells hgb _ _ _ HB.out⟩
      have hs := ow_clearedA HR0.out i (by rw [HDS.out]; omega) (zerosA (m - i)) (zerosA_one _) (by rw [zerosA_len, HDS.out]; omega)
      rw [HI.out.kept, zaI (by rw [HM.out]; omega)] at hs
      exact hs
theorem drawn1_any (x : ActV) (w : World) : Calls Tryz.prog 49 #[x.agg] w fun e w' => e = .returned (.bool (x.kind == 8)) /\ Below w.heap.size w w' := by
 have hal := (zad w.heap.size w).alloc (zab _) (.cells #[.int .i64 x.kind, .int .i64 x.a, .int .i64 x.b, .int .i64 x.n, .int .i64 x.m, .int .i64 x.pre.addr, .int .i64 x.pre.bits, .string x.key, .string x.value] 34)
 have HAL := zaa hal
 unfold ActV.agg
 clear hal
 go_enter Tryz.func49, Tryz.ntmps49
 go_wp2_with fail
 go_ret
 exact ⟨rfl, HAL.out⟩
def DrawnPost (w : World) (e : Ending) (w' : World) : Prop :=
 ∃ v' acts, e = .returned v' /\ acts.length <= 45 /\ (∀ c ∈ acts, Tame c) /\ OwR actR 34 w.heap.size w' v' acts /\ Below w.heap.size w w'
theorem drawn_any (v : Value) (xs : List Raw) (w : World) (h : Sl rawR w v xs) : Calls Tryz.prog 24 #[v] w (DrawnPost w) := by
 have HA := zaa (acts_any v xs 45 5 w h (by omega) (by omega))
 obtain ⟨A, c, rfl⟩ := h.form
 clear h
 go_enter Tryz.func24, Tryz.ntmps24
 go_wp2_with fail
 refine HA.out.mono ?_
 rintro e w1 ⟨v1, acts, rfl, hal, hra, ho, hb⟩
 have HD := zaa (delA_any (fun c => c.kind == 8) v1 acts w.heap.size w.heap.size w1 ho (zab _) (fun x w' _ => drawn1_any x w'))
 have HB := zaa hb
 have HAL := zaa hal
 have HRA := zaa hra
 obtain ⟨A1, n1, c1, rfl⟩ : ∃ A n c, v1 = .slice A n c := by obtain ⟨A, c, e⟩ := (ho.sl (by decide)).form; exact ⟨A, _, c, e⟩
 clear hal hra ho hb
 go_wp2_with fail
 refine HD.out.mono ?_
 rintro e w2 ⟨v2, rfl, ho2, hb2⟩
 have HO2 := zaa ho2
 have HB2 := zaa (HB.out.trans hb2)
 obtain ⟨A2, n2, c2, rfl⟩ : ∃ A n c, v2 = .slice A n c := by obtain ⟨A, c, e⟩ := (ho2.sl (by decide)).form; exact ⟨A, _, c, e⟩
 clear ho2 hb2
 go_wp2_with fail
 go_ret
 refine ⟨_, acts.filter fun c => !(c.kind == 8), rfl, zax (zbS _ _) HAL.out, fun c hc => ?_, HO2.out, HB2.out⟩
 obtain ⟨h1, h2⟩ := zaV.1 hc
 exact drawn_tame (HRA.out c h1) (by simpa using h2)
end
end Go.Proofs.YtbhbilenbbldnaaGreatDoor
