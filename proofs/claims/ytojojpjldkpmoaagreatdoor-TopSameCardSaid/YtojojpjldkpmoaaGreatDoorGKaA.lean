/-
  
-/
import Derived.Test.YtojojpjldkpmoaaGreatDoorGNwG
import Derived.Test.YtojojpjldkpmoaaGreatDoorGKeB
import Derived.Test.YtojojpjldkpmoaaGreatDoorGKeO
import Derived.Deep.RegionHeld3
set_option linter.unusedVariables false
set_option linter.unusedSimpArgs false
set_option maxHeartbeats 16000000
namespace Go.Proofs.YtojojpjldkpmoaaGreatDoor
open Go Go.RowKit Go.Deep
structure RawAct (nodes : Nat) (c : ActV) : Prop where
 k : 1 <= c.kind /\ c.kind <= 10
 a : 0 <= c.a /\ c.a < nodes
 b : 0 <= c.b /\ c.b < nodes
 wf : c.wf
def ActsPost (most nodes : Nat) (w : World) (e : Ending) (w' : World) : Prop :=
 ∃ v' acts, e = .returned v' /\ acts.length <= most /\ (∀ c ∈ acts, RawAct nodes c) /\ OwR actR 34 w.heap.size w' v' acts /\ Below w.heap.size w w'
theorem emptyB : (⟨#[]⟩ : ByteArray).size <= maxLen := by decide
theorem rawAct_of {nodes : Nat} {k n m ad bt : Int} {p q : Nat} {key value : ByteArray} (hk : 1 <= k /\ k <= 10) (hp : p < nodes) (hq : q < nodes) (hn : nodes <= 12) (h1 : inR n) (h2 : inR m) (h3 : inR ad) (h4 : inR bt) (h5 : key.size <= maxLen) (h6 : value.size <= maxLen) : RawAct nodes ⟨k, p, q, n, m, ⟨ad, bt⟩, key, value⟩ :=
 ⟨hk, ⟨by show (0 : Int) <= (p : Int); omega, by show (p : Int) < _; omega⟩, ⟨by show (0 : Int) <= (q : Int); omega, by show (q : Int) < _; omega⟩, ⟨by unfold inR; show _ <= k /\ k <= _; omega, by unfold inR; show _ <= (p : Int) /\ (p : Int) <= _; omega, by unfold inR; show _ <= (q : Int) /\ (q : Int) <= _; omega, h1, h2, h3, h4, h5, h6⟩⟩
theorem field0_run (a b : ByteArray) (n m : Int) (w : World) : (Instr.field 44 (.agg #[.string a, .int .i64 n, .int .i64 m, .string b]) 0).run Tryz.prog w = .ok (.string a) w := by
 simp [Instr.field, asAgg, go_sem, Tryz.underlying44]
theorem field3_run (a b : ByteArray) (n m : Int) (w : World) : (Instr.field 44 (.agg #[.string a, .int .i64 n, .int .i64 m, .string b]) 3).run Tryz.prog w = .ok (.string b) w := by
 simp [Instr.field, asAgg, go_sem, Tryz.underlying44]
theorem set3_cells {W : World} {A x y z : Nat} {u v s : Value} {arr : Array Value} (h : ∀ i, W.cell? ⟨A, i, none⟩ = arr[i]?) (h0 : arr[x]?.isSome = true) (h3 : arr[y]?.isSome = true) (h4 : arr[z]?.isSome = true) (hxy : x ≠ y) (hxz : x ≠ z) (hyz : y ≠ z) :
  ∀ i, ((((W.setCell ⟨A, x, none⟩ u).setCell ⟨A, y, none⟩ v).setCell ⟨A, z, none⟩ s).drew).cell? ⟨A, i, none⟩ = if i = z then some s else if i = y then some v else if i = x then some u else arr[i]? := by
 intro i
 rw [zaK]
 by_cases e4 : i = z
 · subst e4
   rw [if_pos rfl]
   exact zay _ _ _ (by rw [zag _ _ _ _ (by intro e; injection e with _ e _; omega), zag _ _ _ _ (by intro e; injection e with _ e _; omega), h]; exact h4)
 · rw [if_neg e4, zag _ _ _ _ (by intro e; injection e with _ e _; omega)]
   by_cases e3 : i = y
   · subst e3
     rw [if_pos rfl]
     exact zay _ _ _ (by rw [zag _ _ _ _ (by intro e; injection e with _ e _; omega), h]; exact h3)
   · rw [if_neg e3, zag _ _ _ _ (by intro e; injection e with _ e _; omega)]
     by_cases e0 : i = x
     · subst e0
       rw [if_pos rfl]
       exact zay _ _ _ (by rw [h]; exact h0)
     · rw [if_neg e0, zag _ _ _ _ (by intro e; injection e with _ e _; omega)]
       exact h i
theorem grown3 (W : World) (A x y z : Nat) (u v s : Value) : W.grownBy ((((W.setCell ⟨A, x, none⟩ u).setCell ⟨A, y, none⟩ v).setCell ⟨A, z, none⟩ s).drew) (some A) :=
 (((setCell_grown W A x u).trans (setCell_grown _ A y v)).trans (setCell_grown _ A z s)).trans (below_grownN A (zad _ _).drew)
theorem fw_at {W : World} {A : Nat} {Q R : World -> Prop} (h : Hid (∀ W', W.grownBy W' (some A) -> Q W' /\ R W')) {W' : World} (g : W.grownBy W' (some A) := by repeat (first | (with_reducible exact zaX _ _) | (with_reducible refine World.grownBy.trans ?_ (setCell_grown _ _ _ _)) | (with_reducible exact HGA.out) | (with_reducible refine World.grownBy.trans ?_ (below_grownN _ (zad _ _).drew)))) : Q W' /\ R W' := h.out W' g
set_option maxRecDepth 50000 in
theorem acts_any (v : Value) (xs : List Raw) (most nodes : Nat) (w : World) (h : Sl rawR w v xs) (hm : most <= 1000) (hn : 1 <= nodes /\ nodes <= 12) :
  Calls Tryz.prog 18 #[v, .int .i64 (most : Nat), .int .i64 (nodes : Nat)] w (ActsPost most nodes w) := by
 have hlen := h.len_le
 obtain ⟨A, c, rfl⟩ := h.form
 have H := zaa h
 have HN := zaa hn
 clear h
 go_enter Tryz.func18, Tryz.ntmps18
 go_wp2_with fail
 go_loopw [7, 8] (fun o i wr => ∃ (k : Nat) (acts : List ActV), k <= xs.length /\ k <= most /\ i = .int .i64 k /\ acts.length = k /\ (∀ c ∈ acts, RawAct nodes c) /\ OwR actR 34 w.heap.size wr o acts /\ Below w.heap.size w wr) (fun _ i _ => most - (intOf i).toNat)
 case atStart => exact ⟨0, [], zak _, zak _, rfl, rfl, fun c hc => (by cases hc), OwR.nil _ _ (zab _), zad _ _⟩
 case round =>
  obtain ⟨k, acts, hk, hkm, rfl, hal, hra, ho, hb⟩ := hrel
  have HO := zaa ho
  have HB := zaa hb
  have HRA := zaa hra
  have HAL := zaa hal
  have hol := ho.base_le
  have HOB := zaa (show ∀ q, u7.ownBlock = some q -> q < wr.heap.size from fun q e => (ho.base_le q e).2)
  clear ho hb hra hal hol
  by_cases hlt : k < xs.length
  · by_cases hlm : k < most
    · have hki : (k : Int) < (xs.length : Int) := by omega
      have hkj : (k : Int) < (most : Int) := by omega
      have hk0 : (0 : Int) <= (k : Int) := zaf k
      obtain ⟨bk, off, rfl, hbk⟩ := H.out.at_ hlt
      obtain ⟨f0, f1, f2, f3, g0, g1, g2, g3⟩ := (H.out.below HB.out).raw hlt
      obtain ⟨rk, ra, rb, rc, hr⟩ : ∃ rk ra rb rc, (⟨rk, ra, rb, rc⟩ : Raw) = xs[k] := ⟨_, _, _, _, rfl⟩
      rw [<- hr] at f0 f1 f2 f3 g0 g1 g2 g3
      simp only at f0 f1 f2 f3 g0 g1 g2 g3
      have hal := (zad wr.heap.size wr).alloc (zab _) (.cells #[.int .i64 rk, .int .i64 ra, .int .i64 rb, .int .i64 rc] 77)
      have b0 : (wr.alloc (.cells #[.int .i64 rk, .int .i64 ra, .int .i64 rb, .int .i64 rc] 77)).cell? ⟨wr.heap.size, 0, none⟩ = some (.int .i64 rk) := by rw [zae _ _ _ _ rfl]; rfl
      have b1 : (wr.alloc (.cells #[.int .i64 rk, .int .i64 ra, .int .i64 rb, .int .i64 rc] 77)).cell? ⟨wr.heap.size, 1, none⟩ = some (.int .i64 ra) := by rw [zae _ _ _ _ rfl]; rfl
      have b2 : (wr.alloc (.cells #[.int .i64 rk, .int .i64 ra, .int .i64 rb, .int .i64 rc] 77)).cell? ⟨wr.heap.size, 2, none⟩ = some (.int .i64 rb) := by rw [zae _ _ _ _ rfl]; rfl
      have b3 : (wr.alloc (.cells #[.int .i64 rk, .int .i64 ra, .int .i64 rb, .int .i64 rc] 77)).cell? ⟨wr.heap.size, 3, none⟩ = some (.int .i64 rc) := by rw [zae _ _ _ _ rfl]; rfl
      have HA1 := zaa hal
      obtain ⟨p, hp⟩ : ∃ p, p = pickN ra nodes := ⟨_, rfl⟩
      obtain ⟨q, hq⟩ : ∃ q, q = pickN rb nodes := ⟨_, rfl⟩
      have HPA := zaa (fun w => picked_any ra nodes w g1 (by omega) (by omega))
      have HPB := zaa (fun w => picked_any rb nodes w g2 (by omega) (by omega))
      rw [<- hp] at HPA
      rw [<- hq] at HPB
      have HP12 := zaa (show p < nodes by rw [hp]; exact pickN_lt _ _ (by omega))
      have HQ12 := zaa (show q < nodes by rw [hq]; exact pickN_lt _ _ (by omega))
      have HG0 := zaa g0
      have HG1 := zaa g1
      have HG2 := zaa g2
      have HG3 := zaa g3
      obtain ⟨W1, hW1⟩ : ∃ x, x = wr.alloc (.cells #[.int .i64 rk, .int .i64 ra, .int .i64 rb, .int .i64 rc] 77) := ⟨_, rfl⟩
      rw [<- hW1] at b0 b1 b2 b3 HA1
      have HW1 := zaa hW1
      have HZ1 := zaa (show W1.heap.size = wr.heap.size + 1 by rw [hW1]; simp)
      clear hp hq hW1 hal hr g0 g1 g2 g3
      go_wp2_with fail
      rw [<- HW1.out]
      clear HW1 f0 f1 f2 f3
      obtain ⟨B, hB⟩ : ∃ B, B = wr.heap.size := ⟨_, rfl⟩
      rw [<- hB] at b0 b1 b2 b3 ⊢
      have HBB := zaa hB
      clear hB
      go_region_held3 (fun w' => w'.cell? ⟨B, 1, none⟩ = some (.int .i64 ra) /\ w'.cell? ⟨B, 2, none⟩ = some (.int .i64 rb)) (first | go_keep | exact ⟨b1, b2⟩)
       (first
        | (go_at_call 24; with_reducible refine (HPA.out _).mono ?_; rintro e w' ⟨rfl, rfl⟩)
        | (go_at_call 24; with_reducible refine (HPB.out _).mono ?_; rintro e w' ⟨rfl, rfl⟩))
      all_goals
       have hal2 := (zad W1.heap.size W1).alloc (zab _) (.cells #[.int .i64 0, .int .i64 (p : Int), .int .i64 (q : Int), .int .i64 (-1), .int .i64 0, .int .i64 0, .int .i64 0, .string ⟨#[]⟩, .string ⟨#[]⟩] 34)
       have HA2 := zaa hal2.drew
       have hc : ∀ i, ((W1.alloc (.cells #[.int .i64 0, .int .i64 (p : Int), .int .i64 (q : Int), .int .i64 (-1), .int .i64 0, .int .i64 0, .int .i64 0, .string ⟨#[]⟩, .string ⟨#[]⟩] 34)).drew).cell? ⟨W1.heap.size, i, none⟩ = (#[.int .i64 0, .int .i64 (p : Int), .int .i64 (q : Int), .int .i64 (-1), .int .i64 0, .int .i64 0, .int .i64 0, .string ⟨#[]⟩, .string ⟨#[]⟩] : Array Value)[i]? := fun i => by
        rw [zaK]; exact zae _ _ _ _ rfl
       have hf : ∀ i, ((W1.alloc (.cells #[.int .i64 0, .int .i64 (p : Int), .int .i64 (q : Int), .int .i64 (-1), .int .i64 0, .int .i64 0, .int .i64 0, .string ⟨#[]⟩, .string ⟨#[]⟩] 34)).drew).frozen? ⟨W1.heap.size, i, none⟩ = false := fun i => zaD _ _ _ _ rfl
       obtain ⟨W2, hW2⟩ : ∃ x, x = (W1.alloc (.cells #[.int .i64 0, .int .i64 (p : Int), .int .i64 (q : Int), .int .i64 (-1), .int .i64 0, .int .i64 0, .int .i64 0, .string ⟨#[]⟩, .string ⟨#[]⟩] 34)).drew := ⟨_, rfl⟩
       have HW2Z := zaa (show W1.heap.size < W2.heap.size by rw [hW2]; show _ < (W1.alloc _).heap.size; simp)
       rw [<- hW2] at hc hf HA2 ⊢
       clear hW2 hal2
       have b0 := cell_keep HA2.out b0
       have b2 := cell_keep HA2.out b2
       have b3 := cell_keep HA2.out b3
       have b1 := cell_keep HA2.out b1
       obtain ⟨AB, hAB⟩ : ∃ B, B = W1.heap.size := ⟨_, rfl⟩
       rw [<- hAB] at hc hf HW2Z ⊢
       have HAB := zaa hAB
       clear hAB
       have hBA : ¬ B = AB := by have := HAB.out; have := HZ1.out; have := HBB.out; omega
       have hAB2 : ¬ AB = B := fun e => hBA e.symm
       have HC := zaa hc
       have HF := zaa hf
       have HO1 := zaa (HO.out.keep HA1.out)
       have HO2 := zaa (HO1.out.keep HA2.out)
       have hbw : w.heap.size <= wr.heap.size := HB.out.size
       have HB2 := zaa (HB.out.trans ((HA1.out.mono hbw).trans (HA2.out.mono (by have := HZ1.out; omega))))
       have HFW := zaa (show ∀ W', W2.grownBy W' (some AB) -> OwR actR 34 w.heap.size W' u7 acts /\ Below w.heap.size w W' from fun W' G =>
        ⟨HO2.out.kept G (by
         rcases e : u7.ownBlock with _ | y
         · exact .inl rfl
         · right; intro e2; injection e2 with e2; have := HOB.out y e; have := HAB.out; have := HZ1.out; omega) (fun _ _ h => h), HB2.out.grown G HB2.out.size (fun y e => by injection e with e; have := HAB.out; have := HZ1.out; omega)⟩)
       have HLN := zaa (show acts.length <= 1000000 by have := HAL.out; omega)
       clear hc hf hbw
       have a0 := HC.out 0
       have a1 := HC.out 1
       have a2 := HC.out 2
       have a3 := HC.out 3
       have a4 := HC.out 4
       have a5 := HC.out 5
       have a6 := HC.out 6
       have a7 := HC.out 7
       have a8 := HC.out 8
       have za0 := HF.out 0
       have za3 := HF.out 3
       have za4 := HF.out 4
       have za5 := HF.out 5
       have za6 := HF.out 6
       have za7 := HF.out 7
       have za8 := HF.out 8
       simp only [zao, zap, zam] at a0 a1 a2 a3 a4 a5 a6 a7 a8
       obtain ⟨kq, hkq⟩ : ∃ kq, kq = pickN rk 24 := ⟨_, rfl⟩
       have HPK := zaa (fun w => picked_any rk 24 w HG0.out (by omega) (by omega))
       rw [<- hkq] at HPK
       have hk24 : kq < 24 := by rw [hkq]; exact pickN_lt _ _ (by omega)
       have hkq0 : (0 : Int) <= (kq : Int) := zaf kq
       have HNN := zaa (show nodes <= 12 from HN.out.2)
       clear hkq
       go_wp2_with fail
       refine (HPK.out _).mono ?_
       rintro e w' ⟨rfl, rfl⟩
       by_cases c1 : kq < 6
       · have d1 : (kq : Int) < 6 := by omega
         obtain ⟨nn, hnn⟩ : ∃ nn, nn = pickN rc 5 := ⟨_, rfl⟩
         have HPC := zaa (fun w => picked_any rc 5 w HG3.out (by omega) (by omega))
         rw [<- hnn] at HPC
         have hn5 : nn < 5 := by rw [hnn]; exact pickN_lt _ _ (by omega)
         have hnn0 : (0 : Int) <= (nn : Int) := zaf nn
         clear hnn
         go_wp2_with fail
         refine (HPC.out _).mono ?_
         rintro e w' ⟨rfl, rfl⟩
         have HRX := zaa (rawAct_of (nodes := nodes) (k := 1) (n := 1 + (nn : Int)) (m := 0) (ad := 0) (bt := 0) (p := p) (q := q) (key := ⟨#[]⟩) (value := ⟨#[]⟩) (by decide) HP12.out HQ12.out HNN.out (by unfold inR; omega) (by unfold inR; decide) (by unfold inR; decide) (by unfold inR; decide) emptyB emptyB)
         go_wp2_with (at_builtin; refine wpList_oneR (r := actR) (base := w.heap.size) (y := ⟨1, (p : Nat), (q : Nat), 1 + (nn : Int), 0, ⟨0, 0⟩, ⟨#[]⟩, ⟨#[]⟩⟩) (S := fun _ => False) elt_actA rfl (.tmp 117) (.tmp 119) rfl (fw_at HFW).1 ⟨rfl, HRX.out.wf⟩ (fun _ h => h.elim) rfl rfl (by first | rfl | simp) HLN.out (by decide) ?_; intro v5 w5 ho5 hg5; have HO5 := zaa ho5; have HG5 := zaa hg5; clear ho5 hg5)
         have HB5 := zaa ((ow_alloc (fw_at HFW).1 _).below_grown ((fw_at HFW).2.alloc (fw_at HFW).1.choose_spec.2.2.2 _) HG5.out.grown)
         go_roundw
         case rel => exact ⟨k + 1, acts ++ [⟨1, (p : Nat), (q : Nat), 1 + (nn : Int), 0, ⟨0, 0⟩, ⟨#[]⟩, ⟨#[]⟩⟩], by omega, by omega, by go_num, by rw [zah, HAL.out]; rfl, fun c hc => (zaI.1 hc).elim (HRA.out c) (fun h => by rw [zbl] at h; rw [h]; exact HRX.out), HO5.out, HB5.out⟩
         case measure => simp [intOf]; omega
       · have d1 : ¬ (kq : Int) < 6 := by omega
         by_cases c18 : kq = 6
         · have e6 : ((kq : Int) == 6) = true := by rw [beq_iff_eq]; omega
           have HRX := zaa (rawAct_of (nodes := nodes) (k := 2) (n := -1) (m := 0) (ad := 0) (bt := 0) (p := p) (q := q) (key := ⟨#[]⟩) (value := ⟨#[]⟩) (by decide) HP12.out HQ12.out HNN.out (by unfold inR; decide) (by unfold inR; decide) (by unfold inR; decide) (by unfold inR; decide) emptyB emptyB)
           go_wp2_with (at_builtin; refine wpList_oneR (r := actR) (base := w.heap.size) (y := ⟨2, (p : Nat), (q : Nat), -1, 0, ⟨0, 0⟩, ⟨#[]⟩, ⟨#[]⟩⟩) (S := fun _ => False) elt_actA rfl (.tmp 117) (.tmp 119) rfl (fw_at HFW).1 ⟨rfl, HRX.out.wf⟩ (fun _ h => h.elim) rfl rfl (by first | rfl | simp) HLN.out (by decide) ?_; intro v5 w5 ho5 hg5; have HO5 := zaa ho5; have HG5 := zaa hg5; clear ho5 hg5)
           have HB5 := zaa ((ow_alloc (fw_at HFW).1 _).below_grown ((fw_at HFW).2.alloc (fw_at HFW).1.choose_spec.2.2.2 _) HG5.out.grown)
           go_roundw
           case rel => exact ⟨k + 1, acts ++ [⟨2, (p : Nat), (q : Nat), -1, 0, ⟨0, 0⟩, ⟨#[]⟩, ⟨#[]⟩⟩], by omega, by omega, by go_num, by rw [zah, HAL.out]; rfl, fun c hc => (zaI.1 hc).elim (HRA.out c) (fun h => by rw [zbl] at h; rw [h]; exact HRX.out), HO5.out, HB5.out⟩
           case measure => simp [intOf]; omega
         · have e6 : ((kq : Int) == 6) = false := by rw [beq_eq_false_iff_ne]; omega
           by_cases c17 : kq = 7
           · have e7 : ((kq : Int) == 7) = true := by rw [beq_iff_eq]; omega
             obtain ⟨nn, hnn⟩ : ∃ y, y = pickN rc 2 := ⟨_, rfl⟩
             have HPC := zaa (fun w => picked_any rc 2 w HG3.out (by omega) (by omega))
             rw [<- hnn] at HPC
             have lnn : nn < 2 := by rw [hnn]; exact pickN_lt _ _ (by omega)
             have znn : (0 : Int) <= (nn : Int) := zaf nn
             clear hnn
             go_wp2_with fail
             refine (HPC.out _).mono ?_
             rintro e w' ⟨rfl, rfl⟩
             have HRX := zaa (rawAct_of (nodes := nodes) (k := 3) (n := (nn : Int)) (m := 0) (ad := 0) (bt := 0) (p := p) (q := q) (key := ⟨#[]⟩) (value := ⟨#[]⟩) (by decide) HP12.out HQ12.out HNN.out (by unfold inR; omega) (by unfold inR; decide) (by unfold inR; decide) (by unfold inR; decide) emptyB emptyB)
             go_wp2_with (at_builtin; refine wpList_oneR (r := actR) (base := w.heap.size) (y := ⟨3, (p : Nat), (q : Nat), (nn : Int), 0, ⟨0, 0⟩, ⟨#[]⟩, ⟨#[]⟩⟩) (S := fun _ => False) elt_actA rfl (.tmp 117) (.tmp 119) rfl (fw_at HFW).1 ⟨rfl, HRX.out.wf⟩ (fun _ h => h.elim) rfl rfl (by first | rfl | simp) HLN.out (by decide) ?_; intro v5 w5 ho5 hg5; have HO5 := zaa ho5; have HG5 := zaa hg5; clear ho5 hg5)
             have HB5 := zaa ((ow_alloc (fw_at HFW).1 _).below_grown ((fw_at HFW).2.alloc (fw_at HFW).1.choose_spec.2.2.2 _) HG5.out.grown)
             go_roundw
             case rel => exact ⟨k + 1, acts ++ [⟨3, (p : Nat), (q : Nat), (nn : Int), 0, ⟨0, 0⟩, ⟨#[]⟩, ⟨#[]⟩⟩], by omega, by omega, by go_num, by rw [zah, HAL.out]; rfl, fun c hc => (zaI.1 hc).elim (HRA.out c) (fun h => by rw [zbl] at h; rw [h]; exact HRX.out), HO5.out, HB5.out⟩
             case measure => simp [intOf]; omega
           · have e7 : ((kq : Int) == 7) = false := by rw [beq_eq_false_iff_ne]; omega
             by_cases c16 : kq < 10
             · have d10 :  (kq : Int) < 10 := by omega
               have hrp := rawP_in rc
               have HPX := zaa (prefixK_any rc W2 HG3.out)
               obtain ⟨px, hpx⟩ : ∃ px, px = rawP rc := ⟨_, rfl⟩
               rw [<- hpx] at hrp HPX
               clear hpx
               go_wp2_with fail
               refine HPX.out.mono ?_
               rintro e w3 ⟨rfl, hb3⟩
               have a0 := cell_keep hb3 a0
               have a1 := cell_keep hb3 a1
               have a2 := cell_keep hb3 a2
               have a3 := cell_keep hb3 a3
               have a4 := cell_keep hb3 a4
               have a5 := cell_keep hb3 a5
               have a6 := cell_keep hb3 a6
               have a7 := cell_keep hb3 a7
               have a8 := cell_keep hb3 a8
               have za0 := (hb3.frozen (p := ⟨AB, 0, none⟩) HW2Z.out).trans za0
               have za5 := (hb3.frozen (p := ⟨AB, 5, none⟩) HW2Z.out).trans za5
               have za6 := (hb3.frozen (p := ⟨AB, 6, none⟩) HW2Z.out).trans za6
               have HGA := zaa (below_grownN AB hb3)
               clear hb3
               have HRX := zaa (rawAct_of (nodes := nodes) (k := 4) (n := -1) (m := 0) (ad := px.addr) (bt := px.bits) (p := p) (q := q) (key := ⟨#[]⟩) (value := ⟨#[]⟩) (by decide) HP12.out HQ12.out HNN.out (by unfold inR; decide) (by unfold inR; decide) hrp.1 hrp.2 emptyB emptyB)
               go_wp2_with (at_builtin; refine wpList_oneR (r := actR) (base := w.heap.size) (y := ⟨4, (p : Nat), (q : Nat), -1, 0, ⟨px.addr, px.bits⟩, ⟨#[]⟩, ⟨#[]⟩⟩) (S := fun _ => False) elt_actA rfl (.tmp 117) (.tmp 119) rfl (fw_at HFW).1 ⟨rfl, HRX.out.wf⟩ (fun _ h => h.elim) rfl rfl (by first | rfl | simp) HLN.out (by decide) ?_; intro v5 w5 ho5 hg5; have HO5 := zaa ho5; have HG5 := zaa hg5; clear ho5 hg5)
               have HB5 := zaa ((ow_alloc (fw_at HFW).1 _).below_grown ((fw_at HFW).2.alloc (fw_at HFW).1.choose_spec.2.2.2 _) HG5.out.grown)
               go_roundw
               case rel => exact ⟨k + 1, acts ++ [⟨4, (p : Nat), (q : Nat), -1, 0, ⟨px.addr, px.bits⟩, ⟨#[]⟩, ⟨#[]⟩⟩], by omega, by omega, by go_num, by rw [zah, HAL.out]; rfl, fun c hc => (zaI.1 hc).elim (HRA.out c) (fun h => by rw [zbl] at h; rw [h]; exact HRX.out), HO5.out, HB5.out⟩
               case measure => simp [intOf]; omega
             · have d10 : ¬ (kq : Int) < 10 := by omega
               by_cases c15 : kq = 10
               · have e10 : ((kq : Int) == 10) = true := by rw [beq_iff_eq]; omega
                 have hrp := rawP_in rc
                 have HPX := zaa (prefixK_any rc W2 HG3.out)
                 obtain ⟨px, hpx⟩ : ∃ px, px = rawP rc := ⟨_, rfl⟩
                 rw [<- hpx] at hrp HPX
                 clear hpx
                 go_wp2_with fail
                 refine HPX.out.mono ?_
                 rintro e w3 ⟨rfl, hb3⟩
                 have a0 := cell_keep hb3 a0
                 have a1 := cell_keep hb3 a1
                 have a2 := cell_keep hb3 a2
                 have a3 := cell_keep hb3 a3
                 have a4 := cell_keep hb3 a4
                 have a5 := cell_keep hb3 a5
                 have a6 := cell_keep hb3 a6
                 have a7 := cell_keep hb3 a7
                 have a8 := cell_keep hb3 a8
                 have za0 := (hb3.frozen (p := ⟨AB, 0, none⟩) HW2Z.out).trans za0
                 have za5 := (hb3.frozen (p := ⟨AB, 5, none⟩) HW2Z.out).trans za5
                 have za6 := (hb3.frozen (p := ⟨AB, 6, none⟩) HW2Z.out).trans za6
                 have HGA := zaa (below_grownN AB hb3)
                 clear hb3
                 have HRX := zaa (rawAct_of (nodes := nodes) (k := 5) (n := -1) (m := 0) (ad := px.addr) (bt := px.bits) (p := p) (q := q) (key := ⟨#[]⟩) (value := ⟨#[]⟩) (by decide) HP12.out HQ12.out HNN.out (by unfold inR; decide) (by unfold inR; decide) hrp.1 hrp.2 emptyB emptyB)
                 go_wp2_with (at_builtin; refine wpList_oneR (r := actR) (base := w.heap.size) (y := ⟨5, (p : Nat), (q : Nat), -1, 0, ⟨px.addr, px.bits⟩, ⟨#[]⟩, ⟨#[]⟩⟩) (S := fun _ => False) elt_actA rfl (.tmp 117) (.tmp 119) rfl (fw_at HFW).1 ⟨rfl, HRX.out.wf⟩ (fun _ h => h.elim) rfl rfl (by first | rfl | simp) HLN.out (by decide) ?_; intro v5 w5 ho5 hg5; have HO5 := zaa ho5; have HG5 := zaa hg5; clear ho5 hg5)
                 have HB5 := zaa ((ow_alloc (fw_at HFW).1 _).below_grown ((fw_at HFW).2.alloc (fw_at HFW).1.choose_spec.2.2.2 _) HG5.out.grown)
                 go_roundw
                 case rel => exact ⟨k + 1, acts ++ [⟨5, (p : Nat), (q : Nat), -1, 0, ⟨px.addr, px.bits⟩, ⟨#[]⟩, ⟨#[]⟩⟩], by omega, by omega, by go_num, by rw [zah, HAL.out]; rfl, fun c hc => (zaI.1 hc).elim (HRA.out c) (fun h => by rw [zbl] at h; rw [h]; exact HRX.out), HO5.out, HB5.out⟩
                 case measure => simp [intOf]; omega
               · have e10 : ((kq : Int) == 10) = false := by rw [beq_eq_false_iff_ne]; omega
                 by_cases c14 : kq < 14
                 · have d14 :  (kq : Int) < 14 := by omega
                   have HRX := zaa (rawAct_of (nodes := nodes) (k := 6) (n := -1) (m := 0) (ad := 0) (bt := 0) (p := p) (q := q) (key := ⟨#[]⟩) (value := ⟨#[]⟩) (by decide) HP12.out HQ12.out HNN.out (by unfold inR; decide) (by unfold inR; decide) (by unfold inR; decide) (by unfold inR; decide) emptyB emptyB)
                   go_wp2_with (at_builtin; refine wpList_oneR (r := actR) (base := w.heap.size) (y := ⟨6, (p : Nat), (q : Nat), -1, 0, ⟨0, 0⟩, ⟨#[]⟩, ⟨#[]⟩⟩) (S := fun _ => False) elt_actA rfl (.tmp 117) (.tmp 119) rfl (fw_at HFW).1 ⟨rfl, HRX.out.wf⟩ (fun _ h => h.elim) rfl rfl (by first | rfl | simp) HLN.out (by decide) ?_; intro v5 w5 ho5 hg5; have HO5 := zaa ho5; have HG5 := zaa hg5; clear ho5 hg5)
                   have HB5 := zaa ((ow_alloc (fw_at HFW).1 _).below_grown ((fw_at HFW).2.alloc (fw_at HFW).1.choose_spec.2.2.2 _) HG5.out.grown)
                   go_roundw
                   case rel => exact ⟨k + 1, acts ++ [⟨6, (p : Nat), (q : Nat), -1, 0, ⟨0, 0⟩, ⟨#[]⟩, ⟨#[]⟩⟩], by omega, by omega, by go_num, by rw [zah, HAL.out]; rfl, fun c hc => (zaI.1 hc).elim (HRA.out c) (fun h => by rw [zbl] at h; rw [h]; exact HRX.out), HO5.out, HB5.out⟩
                   case measure => simp [intOf]; omega
                 · have d14 : ¬ (kq : Int) < 14 := by omega
                   by_cases c13 : kq < 19
                   · have d19 :  (kq : Int) < 19 := by omega
                     obtain ⟨n8, hn8⟩ : ∃ y, y = pickN rc 8 := ⟨_, rfl⟩
                     have HP8 := zaa (fun w => picked_any rc 8 w HG3.out (by omega) (by omega))
                     rw [<- hn8] at HP8
                     have ln8 : n8 < 8 := by rw [hn8]; exact pickN_lt _ _ (by omega)
                     have zn8 : (0 : Int) <= (n8 : Int) := zaf n8
                     clear hn8
                     obtain ⟨nn, hnn⟩ : ∃ y, y = pickN rc 100 := ⟨_, rfl⟩
                     have HPC := zaa (fun w => picked_any rc 100 w HG3.out (by omega) (by omega))
                     rw [<- hnn] at HPC
                     have lnn : nn < 100 := by rw [hnn]; exact pickN_lt _ _ (by omega)
                     have znn : (0 : Int) <= (nn : Int) := zaf nn
                     clear hnn
                     go_wp2_with fail
                     refine (HP8.out _).mono ?_
                     rintro e w' ⟨rfl, rfl⟩
                     by_cases h8 : n8 = 0
                     · have e8 : ((n8 : Int) == 0) = true := by rw [beq_iff_eq]; omega
                       go_wp2_with fail
                       refine (HPC.out _).mono ?_
                       rintro e w' ⟨rfl, rfl⟩
                       have HRX := zaa (rawAct_of (nodes := nodes) (k := 7) (n := (nn : Int)) (m := 0) (ad := 0) (bt := 0) (p := p) (q := q) (key := ⟨#[]⟩) (value := ⟨#[]⟩) (by decide) HP12.out HQ12.out HNN.out (by unfold inR; omega) (by unfold inR; decide) (by unfold inR; decide) (by unfold inR; decide) emptyB emptyB)
                       go_wp2_with (at_builtin; refine wpList_oneR (r := actR) (base := w.heap.size) (y := ⟨7, (p : Nat), (q : Nat), (nn : Int), 0, ⟨0, 0⟩, ⟨#[]⟩, ⟨#[]⟩⟩) (S := fun _ => False) elt_actA rfl (.tmp 117) (.tmp 119) rfl (fw_at HFW).1 ⟨rfl, HRX.out.wf⟩ (fun _ h => h.elim) rfl rfl (by first | rfl | simp) HLN.out (by decide) ?_; intro v5 w5 ho5 hg5; have HO5 := zaa ho5; have HG5 := zaa hg5; clear ho5 hg5)
                       have HB5 := zaa ((ow_alloc (fw_at HFW).1 _).below_grown ((fw_at HFW).2.alloc (fw_at HFW).1.choose_spec.2.2.2 _) HG5.out.grown)
                       go_roundw
                       case rel => exact ⟨k + 1, acts ++ [⟨7, (p : Nat), (q : Nat), (nn : Int), 0, ⟨0, 0⟩, ⟨#[]⟩, ⟨#[]⟩⟩], by omega, by omega, by go_num, by rw [zah, HAL.out]; rfl, fun c hc => (zaI.1 hc).elim (HRA.out c) (fun h => by rw [zbl] at h; rw [h]; exact HRX.out), HO5.out, HB5.out⟩
                       case measure => simp [intOf]; omega
                     · have e8 : ((n8 : Int) == 0) = false := by rw [beq_eq_false_iff_ne]; omega
                       have HRX := zaa (rawAct_of (nodes := nodes) (k := 7) (n := -1) (m := 0) (ad := 0) (bt := 0) (p := p) (q := q) (key := ⟨#[]⟩) (value := ⟨#[]⟩) (by decide) HP12.out HQ12.out HNN.out (by unfold inR; decide) (by unfold inR; decide) (by unfold inR; decide) (by unfold inR; decide) emptyB emptyB)
                       go_wp2_with (at_builtin; refine wpList_oneR (r := actR) (base := w.heap.size) (y := ⟨7, (p : Nat), (q : Nat), -1, 0, ⟨0, 0⟩, ⟨#[]⟩, ⟨#[]⟩⟩) (S := fun _ => False) elt_actA rfl (.tmp 117) (.tmp 119) rfl (fw_at HFW).1 ⟨rfl, HRX.out.wf⟩ (fun _ h => h.elim) rfl rfl (by first | rfl | simp) HLN.out (by decide) ?_; intro v5 w5 ho5 hg5; have HO5 := zaa ho5; have HG5 := zaa hg5; clear ho5 hg5)
                       have HB5 := zaa ((ow_alloc (fw_at HFW).1 _).below_grown ((fw_at HFW).2.alloc (fw_at HFW).1.choose_spec.2.2.2 _) HG5.out.grown)
                       go_roundw
                       case rel => exact ⟨k + 1, acts ++ [⟨7, (p : Nat), (q : Nat), -1, 0, ⟨0, 0⟩, ⟨#[]⟩, ⟨#[]⟩⟩], by omega, by omega, by go_num, by rw [zah, HAL.out]; rfl, fun c hc => (zaI.1 hc).elim (HRA.out c) (fun h => by rw [zbl] at h; rw [h]; exact HRX.out), HO5.out, HB5.out⟩
                       case measure => simp [intOf]; omega
                   · have d19 : ¬ (kq : Int) < 19 := by omega
                     by_cases c12 : kq = 19
                     · have e19 : ((kq : Int) == 19) = true := by rw [beq_iff_eq]; omega
                       have HRQ := zaa (rawE_wf ⟨rk, ra, rb, rc⟩)
                       obtain ⟨EK, EN, EM, EV, hEE⟩ : ∃ a b c d, (⟨a, b, c, d⟩ : Entry) = rawE ⟨rk, ra, rb, rc⟩ := ⟨_, _, _, _, rfl⟩
                       have HPE := zaa (show ∀ w, Calls Tryz.prog 26 #[.agg #[.int .i64 rk, .int .i64 ra, .int .i64 rb, .int .i64 rc]] w fun e w' => e = .returned (rawE ⟨rk, ra, rb, rc⟩).val /\ Below w.heap.size w w' from fun w => entryE_any ⟨rk, ra, rb, rc⟩ w HG0.out HG1.out HG2.out HG3.out)
                       rw [<- hEE] at HPE HRQ
                       change Go.RowKit.Hid (∀ w, Calls Tryz.prog 26 #[.agg #[.int .i64 rk, .int .i64 ra, .int .i64 rb, .int .i64 rc]] w fun e w' => e = .returned (.agg #[.string EK, .int .i64 EN, .int .i64 EM, .string EV]) /\ Below w.heap.size w w') at HPE
                       have HRX := zaa (rawAct_of (nodes := nodes) (k := 8) (n := -1) (m := 0) (ad := 0) (bt := 0) (p := p) (q := q) (key := EK) (value := EV) (by decide) HP12.out HQ12.out HNN.out (by unfold inR; decide) (by unfold inR; decide) (by unfold inR; decide) (by unfold inR; decide) HRQ.out.1 HRQ.out.2.2.2)
                       have HB0 := zaa (zad W2.heap.size W2).drew
                       have HCL := zaa (show ∀ w', Below W2.heap.size W2 w' -> ((w'.cell? ⟨B, 0, none⟩ = some (.int .i64 rk) /\ w'.cell? ⟨B, 1, none⟩ = some (.int .i64 ra) /\ w'.cell? ⟨B, 2, none⟩ = some (.int .i64 rb) /\ w'.cell? ⟨B, 3, none⟩ = some (.int .i64 rc)) /\ (∀ i, w'.cell? ⟨AB, i, none⟩ = (#[.int .i64 0, .int .i64 (p : Int), .int .i64 (q : Int), .int .i64 (-1), .int .i64 0, .int .i64 0, .int .i64 0, .string ⟨#[]⟩, .string ⟨#[]⟩] : Array Value)[i]?) /\ (∀ i, w'.frozen? ⟨AB, i, none⟩ = false) /\ W2.heap.size <= w'.heap.size) from fun w' hb' =>
                        ⟨⟨cell_keep hb' b0, cell_keep hb' b1, cell_keep hb' b2, cell_keep hb' b3⟩, fun i => (hb'.cell (p := ⟨AB, i, none⟩) HW2Z.out).trans (HC.out i), fun i => (hb'.frozen (p := ⟨AB, i, none⟩) HW2Z.out).trans (HF.out i), hb'.size⟩)
                       clear hEE a0 a1 a2 a3 a4 a5 a6 a7 a8 za0 za3 za4 za5 za6 za7 za8
                       have hfd0 := fun w => field0_run EK EV EN EM w
                       have hfd3 := fun w => field3_run EK EV EN EM w
                       have k0 := b0
                       have k1 := b1
                       have k2 := b2
                       have k3 := b3
                       clear b0 b1 b2 b3
                       go_wp2_with fail
                       go_region_held3 (fun w' => w'.cell? ⟨B, 0, none⟩ = some (.int .i64 rk) /\ w'.cell? ⟨B, 1, none⟩ = some (.int .i64 ra) /\ w'.cell? ⟨B, 2, none⟩ = some (.int .i64 rb) /\ w'.cell? ⟨B, 3, none⟩ = some (.int .i64 rc)) (first | go_keep | exact ⟨k0, k1, k2, k3⟩ | (simp [zag, hAB2, hBA, k0, k1, k2, k3]))
                        (first
                        | (go_at_call 26; with_reducible refine (HPE.out _).mono ?_; rintro e w2 ⟨rfl, hb2⟩; have HBB := zaa (Below.trans (by first | exact HBB.out | exact HB0.out) (hb2.mono (HCL.out _ (by first | exact HBB.out | exact HB0.out)).2.2.2)); clear hb2; obtain ⟨⟨k0, k1, k2, k3⟩, _⟩ := HCL.out _ HBB.out))
                       all_goals
                        obtain ⟨hc0, hf0, _⟩ := (HCL.out _ HBB.out).2
                        obtain ⟨W3, hW3⟩ : ∃ x, x = ((((w2.setCell ⟨AB, 0, none⟩ (.int .i64 8)).setCell ⟨AB, 7, none⟩ (.string EK)).setCell ⟨AB, 8, none⟩ (.string EV))) := ⟨_, rfl⟩
                        have hq := set3_cells (u := .int .i64 8) (v := .string EK) (s := .string EV) (x := 0) (y := 7) (z := 8) hc0 rfl rfl rfl (by decide) (by decide) (by decide)
                        have hg := (below_grownN AB HBB.out).trans (((setCell_grown w2 AB 0 (.int .i64 8)).trans (setCell_grown _ AB 7 (.string EK))).trans (setCell_grown _ AB 8 (.string EV)))
                        rw [<- hW3] at hq hg ⊢
                        simp only [zaK] at hq
                        have HGA := zaa hg
                        clear hg hW3 hc0 hf0 k0 k1 k2 k3
                        have a0 := hq 0
                        have a1 := hq 1
                        have a2 := hq 2
                        have a3 := hq 3
                        have a4 := hq 4
                        have a5 := hq 5
                        have a6 := hq 6
                        have a7 := hq 7
                        have a8 := hq 8
                        simp [-World.cell?_drew] at a0 a1 a2 a3 a4 a5 a6 a7 a8
                        clear hq hfd0 hfd3
                        go_wp2_with (at_builtin; refine wpList_oneR (r := actR) (base := w.heap.size) (y := ⟨8, (p : Nat), (q : Nat), -1, 0, ⟨0, 0⟩, EK, EV⟩) (S := fun _ => False) elt_actA rfl (.tmp 117) (.tmp 119) rfl (fw_at HFW).1 ⟨rfl, HRX.out.wf⟩ (fun _ h => h.elim) rfl rfl (by first | rfl | simp) HLN.out (by decide) ?_; intro v5 w5 ho5 hg5; have HO5 := zaa ho5; have HG5 := zaa hg5; clear ho5 hg5)
                        have HB5 := zaa ((ow_alloc (fw_at HFW).1 _).below_grown ((fw_at HFW).2.alloc (fw_at HFW).1.choose_spec.2.2.2 _) HG5.out.grown)
                        go_roundw
                        case rel => exact ⟨k + 1, acts ++ [⟨8, (p : Nat), (q : Nat), -1, 0, ⟨0, 0⟩, EK, EV⟩], by omega, by omega, by go_num, by rw [zah, HAL.out]; rfl, fun c hc => (zaI.1 hc).elim (HRA.out c) (fun h => by rw [zbl] at h; rw [h]; exact HRX.out), HO5.out, HB5.out⟩
                        case measure => simp [intOf]; omega
                     · have e19 : ((kq : Int) == 19) = false := by rw [beq_eq_false_iff_ne]; omega
                       by_cases c11 : kq < 22
                       · have d22 :  (kq : Int) < 22 := by omega
                         have HRX := zaa (rawAct_of (nodes := nodes) (k := 9) (n := -1) (m := 0) (ad := 0) (bt := 0) (p := p) (q := q) (key := ⟨#[]⟩) (value := ⟨#[]⟩) (by decide) HP12.out HQ12.out HNN.out (by unfold inR; decide) (by unfold inR; decide) (by unfold inR; decide) (by unfold inR; decide) emptyB emptyB)
                         go_wp2_with (at_builtin; refine wpList_oneR (r := actR) (base := w.heap.size) (y := ⟨9, (p : Nat), (q : Nat), -1, 0, ⟨0, 0⟩, ⟨#[]⟩, ⟨#[]⟩⟩) (S := fun _ => False) elt_actA rfl (.tmp 117) (.tmp 119) rfl (fw_at HFW).1 ⟨rfl, HRX.out.wf⟩ (fun _ h => h.elim) rfl rfl (by first | rfl | simp) HLN.out (by decide) ?_; intro v5 w5 ho5 hg5; have HO5 := zaa ho5; have HG5 := zaa hg5; clear ho5 hg5)
                         have HB5 := zaa ((ow_alloc (fw_at HFW).1 _).below_grown ((fw_at HFW).2.alloc (fw_at HFW).1.choose_spec.2.2.2 _) HG5.out.grown)
                         go_roundw
                         case rel => exact ⟨k + 1, acts ++ [⟨9, (p : Nat), (q : Nat), -1, 0, ⟨0, 0⟩, ⟨#[]⟩, ⟨#[]⟩⟩], by omega, by omega, by go_num, by rw [zah, HAL.out]; rfl, fun c hc => (zaI.1 hc).elim (HRA.out c) (fun h => by rw [zbl] at h; rw [h]; exact HRX.out), HO5.out, HB5.out⟩
                         case measure => simp [intOf]; omega
                       · have d22 : ¬ (kq : Int) < 22 := by omega
                         obtain ⟨n1, hn1⟩ : ∃ y, y = pickN rc 256 := ⟨_, rfl⟩
                         have HP1 := zaa (show ∀ w, Calls Tryz.prog 24 #[.int .i64 rc, .int .i64 256] w fun e w' => e = .returned (.int .i64 (pickN rc 256 : Nat)) /\ w = w' from fun w => picked_any rc 256 w HG3.out (by omega) (by omega))
                         rw [<- hn1] at HP1
                         have ln1 : n1 < 256 := by rw [hn1]; exact pickN_lt _ _ (by omega)
                         have zn1 : (0 : Int) <= (n1 : Int) := zaf n1
                         clear hn1
                         obtain ⟨n2, hn2⟩ : ∃ y, y = pickN rb 4 := ⟨_, rfl⟩
                         have HP2 := zaa (show ∀ w, Calls Tryz.prog 24 #[.int .i64 rb, .int .i64 4] w fun e w' => e = .returned (.int .i64 (pickN rb 4 : Nat)) /\ w = w' from fun w => picked_any rb 4 w HG2.out (by omega) (by omega))
                         rw [<- hn2] at HP2
                         have ln2 : n2 < 4 := by rw [hn2]; exact pickN_lt _ _ (by omega)
                         have zn2 : (0 : Int) <= (n2 : Int) := zaf n2
                         clear hn2
                         have HRX := zaa (rawAct_of (nodes := nodes) (k := 10) (n := (n1 : Int)) (m := (n2 : Int)) (ad := 0) (bt := 0) (p := p) (q := q) (key := ⟨#[]⟩) (value := ⟨#[]⟩) (by decide) HP12.out HQ12.out HNN.out (by unfold inR; omega) (by unfold inR; omega) (by unfold inR; decide) (by unfold inR; decide) emptyB emptyB)
                         go_wp2_with fail
                         go_region_held3 (fun w' => w'.cell? ⟨B, 2, none⟩ = some (.int .i64 rb) /\ w'.cell? ⟨B, 3, none⟩ = some (.int .i64 rc)) (first | go_keep | exact ⟨b2, b3⟩ | (simp [zag, hAB2, hBA, b2, b3]))
                          (first
                          | (go_at_call 24; with_reducible refine (HP1.out _).mono ?_; rintro e w' ⟨rfl, rfl⟩)
                          | (go_at_call 24; with_reducible refine (HP2.out _).mono ?_; rintro e w' ⟨rfl, rfl⟩))
                         all_goals
                          have hq := set3_cells (u := .int .i64 10) (v := .int .i64 (n1 : Int)) (s := .int .i64 (n2 : Int)) (x := 0) (y := 3) (z := 4) HC.out rfl rfl rfl (by decide) (by decide) (by decide)
                          have hg := grown3 W2 AB 0 3 4 (.int .i64 10) (.int .i64 (n1 : Int)) (.int .i64 (n2 : Int))
                          obtain ⟨W4, hW4⟩ : ∃ x, x = ((((W2.setCell ⟨AB, 0, none⟩ (.int .i64 10)).setCell ⟨AB, 3, none⟩ (.int .i64 (n1 : Int))).setCell ⟨AB, 4, none⟩ (.int .i64 (n2 : Int))).drew) := ⟨_, rfl⟩
                          rw [<- hW4] at hq hg ⊢
                          have HGA := zaa hg
                          clear hg hW4 a0 a1 a2 a3 a4 a5 a6 a7 a8 za0 za3 za4 za5 za6 za7 za8
                          have a0 := hq 0
                          have a1 := hq 1
                          have a2 := hq 2
                          have a3 := hq 3
                          have a4 := hq 4
                          have a5 := hq 5
                          have a6 := hq 6
                          have a7 := hq 7
                          have a8 := hq 8
                          simp [-World.cell?_drew] at a0 a1 a2 a3 a4 a5 a6 a7 a8
                          clear hq
                          go_wp2_with (at_builtin; refine wpList_oneR (r := actR) (base := w.heap.size) (y := ⟨10, (p : Nat), (q : Nat), (n1 : Int), (n2 : Int), ⟨0, 0⟩, ⟨#[]⟩, ⟨#[]⟩⟩) (S := fun _ => False) elt_actA rfl (.tmp 117) (.tmp 119) rfl (fw_at HFW).1 ⟨rfl, HRX.out.wf⟩ (fun _ h => h.elim) rfl rfl (by first | rfl | simp) HLN.out (by decide) ?_; intro v5 w5 ho5 hg5; have HO5 := zaa ho5; have HG5 := zaa hg5; clear ho5 hg5)
                          have HB5 := zaa ((ow_alloc (fw_at HFW).1 _).below_grown ((fw_at HFW).2.alloc (fw_at HFW).1.choose_spec.2.2.2 _) HG5.out.grown)
                          go_roundw
                          case rel => exact ⟨k + 1, acts ++ [⟨10, (p : Nat), (q : Nat), (n1 : Int), (n2 : Int), ⟨0, 0⟩, ⟨#[]⟩, ⟨#[]⟩⟩], by omega, by omega, by go_num, by rw [zah, HAL.out]; rfl, fun c hc => (zaI.1 hc).elim (HRA.out c) (fun h => by rw [zbl] at h; rw [h]; exact HRX.out), HO5.out, HB5.out⟩
                          case measure => simp [intOf]; omega
    · have hki : (k : Int) < (xs.length : Int) := by omega
      have hkj : ¬ (k : Int) < (most : Int) := by omega
      go_wp2_with fail
      go_ret
      exact ⟨_, acts, rfl, by have := HAL.out; omega, HRA.out, HO.out, HB.out⟩
  · have hki : ¬ (k : Int) < (xs.length : Int) := by omega
    go_wp2_with fail
    go_ret
    exact ⟨_, acts, rfl, by have := HAL.out; omega, HRA.out, HO.out, HB.out⟩
end Go.Proofs.YtojojpjldkpmoaaGreatDoor
