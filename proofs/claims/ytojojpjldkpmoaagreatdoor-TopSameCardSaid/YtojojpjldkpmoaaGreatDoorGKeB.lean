/-
  
-/
import Derived.Test.YtojojpjldkpmoaaGreatDoorGKeO
import Derived.Deep.RegionHeld
set_option linter.unusedVariables false
set_option linter.unusedSimpArgs false
set_option maxHeartbeats 16000000
namespace Go.Proofs.YtojojpjldkpmoaaGreatDoor
open Go.RowKit Go.Deep
theorem wpAnyH_mono' {P : Program} {ops : Array Oper} {Q : Exit -> Act -> World -> Prop} {md : Region.Mode} {S S' : World -> Prop} (hs : ∀ w, S' w -> S w) :
  ∀ (fuel : Nat) (listed : Array Bool) (a : Act) (w : World), wpAnyH P md ops Q S' fuel listed a w -> wpAnyH P md ops Q S fuel listed a w
 | 0, _, _, _, h => h
 | fuel + 1, _, _, _, h => ⟨h.1, fun i hi => wpOp_mono (fun a' w' h' => ⟨hs _ h'.1, wpAnyH_mono' hs fuel _ a' w' h'.2⟩) (h.2 i hi)⟩
theorem wpAnyH_more {P : Program} {ops : Array Oper} {Q : Exit -> Act -> World -> Prop} {md : Region.Mode} {S F : World -> Prop} {fuel : Nat} {listed : Array Bool} {a : Act} {w : World} (hS : S w)
  (h : (S w /\ F w) -> wpAnyH P md ops Q (fun w' => S w' /\ F w') fuel listed a w) (hF : F w := by (simp only [zaK]; rw [zae _ _ _ _ (by simp)]; first | exact e1 | exact e4)) : wpAnyH P md ops Q S fuel listed a w :=
 wpAnyH_mono' (fun _ h => h.1) _ _ _ _ (h ⟨hS, hF⟩)
theorem wpAnyH_tk {P : Program} {ops : Array Oper} {Q : Exit -> Act -> World -> Prop} {md : Region.Mode} {S : World -> Prop} (i : Nat) {oi : Oper} {v : Value} {fuel : Nat} {listed : Array Bool} {a : Act} {w : World} (hi : ops[i]? = some oi := by rfl)
  (hs : Region.noSelect ops = true := by kernel_rfl) (hf : Region.free md ops listed i = true := by kernel_rfl) (hr : (Region.ready md ops listed).contains i = true := by kernel_rfl)
  (hQ : ∀ c a w, Q (.panic c) (a.put oi.dst v) w -> Q (.panic c) a w := by exact fun _ _ _ h => h) (hw : Region.wanted oi (yielded ops a.tmps) = true := by rfl)
  (hy : ∀ w, S w -> (execOp a.eval oi).run P w = .ok (.value v) w := by ((intro w hSw; (try dsimp only at hSw); go_simp) <;> with_reducible rfl)) (hS : S w := by assumption)
  (h : wpAnyH P md ops Q S fuel (listed.setIfInBounds i true) (a.put oi.dst v) w) : wpAnyH P md ops Q S (fuel + 1) listed a w :=
 wpAnyH_take hi hs hf hr hQ (Or.inl ⟨hw, hy⟩) hS h
theorem c_lt {W : World} {o : Obj} {b p : Nat} (h : b < W.heap.size) : (W.alloc o).cell? ⟨b, p, none⟩ = W.cell? ⟨b, p, none⟩ := World.cell?_alloc_lt _ _ _ h
theorem kp {A B C : Prop} (f : A -> B -> C) (hb : B) (ha : A := by ((try dsimp only); (try simp only [zaK]); (repeat' apply And.intro) <;> (first | (rw [zae _ _ _ _ (by simp)]; exact e1) | (rw [zae _ _ _ _ (by simp)]; exact e4) | (rw [c_lt (by simp), zae _ _ _ _ (by simp)]; exact e1) | (rw [c_lt (by simp), zae _ _ _ _ (by simp)]; exact e4) | (go_keep; done)))) : C := f ha hb
set_option maxRecDepth 100000 in
theorem entryE_any (r : Raw) (w : World) (h1 : inR r.kind) (h2 : inR r.a) (h3 : inR r.b) (h4 : inR r.c) :
  Calls Tryz.prog 26 #[.agg #[.int .i64 r.kind, .int .i64 r.a, .int .i64 r.b, .int .i64 r.c]] w fun e w' => e = .returned (rawE r).val /\ Below w.heap.size w w' := by
 obtain ⟨r1, r2, r3, r4⟩ := r
 simp only at h1 h2 h3 h4 ⊢
 have HP1 := zaa (fun w' => picked_q r1 6 w' h1 (by omega) (by omega))
 have HP2 := zaa (fun w' => picked_q r2 4 w' h2 (by omega) (by omega))
 have HP3 := zaa (fun w' => picked_q r3 3 w' h3 (by omega) (by omega))
 have HP4 := zaa (fun w' => picked_q r4 5 w' h4 (by omega) (by omega))
 have hl1 := pickN_lt r1 6 (by omega)
 have hl2 := pickN_lt r2 4 (by omega)
 have hl3 := pickN_lt r3 3 (by omega)
 have hl4 := pickN_lt r4 5 (by omega)
 unfold rawE Entry.val
 simp only
 obtain ⟨p1, hp1⟩ : ∃ p, pickN r1 6 = p := ⟨_, rfl⟩
 obtain ⟨p2, hp2⟩ : ∃ p, pickN r2 4 = p := ⟨_, rfl⟩
 obtain ⟨p3, hp3⟩ : ∃ p, pickN r3 3 = p := ⟨_, rfl⟩
 obtain ⟨p4, hp4⟩ : ∃ p, pickN r4 5 = p := ⟨_, rfl⟩
 rw [hp1] at HP1 hl1 ⊢
 rw [hp2] at HP2 hl2 ⊢
 rw [hp3] at HP3 hl3 ⊢
 rw [hp4] at HP4 hl4 ⊢
 have b1 : (0 : Int) <= (p1 : Int) := by omega
 have b1' : (p1 : Int) < 6 := by omega
 have b4 : (0 : Int) <= (p4 : Int) := by omega
 have b4' : (p4 : Int) < 5 := by omega
 have b2' : (p2 : Int) < 4 := by omega
 have b2 : (0 : Int) <= (p2 : Int) := by omega
 have k1 : ∀ k, k < 6 -> #[Value.string ⟨#[97, 58, 49]⟩, .string ⟨#[97, 58, 50]⟩, .string ⟨#[112, 58, 49]⟩, .string ⟨#[120]⟩, .string ⟨#[121, 58, 122]⟩, .string ⟨#[107, 57]⟩][k]? = some (.string (keyN k)) := by
  intro k hk
  match k, hk with
  | 0, _ => rfl
  | 1, _ => rfl
  | 2, _ => rfl
  | 3, _ => rfl
  | 4, _ => rfl
  | 5, _ => rfl
  | k + 6, hk => omega
 have k4 : ∀ k, k < 5 -> #[Value.string ⟨#[]⟩, .string ⟨#[118]⟩, .string ⟨#[119]⟩, .string ⟨#[49, 61, 53]⟩, .string ⟨#[49, 50, 56, 47, 49]⟩][k]? = some (.string (valN k)) := by
  intro k hk
  match k, hk with
  | 0, _ => rfl
  | 1, _ => rfl
  | 2, _ => rfl
  | 3, _ => rfl
  | 4, _ => rfl
  | k + 5, hk => omega
 have e1 := k1 p1 hl1
 have e4 := k4 p4 hl4
 have hw : IntKind.i64.wrap (1 + (p2 : Int)) = 1 + (p2 : Int) := by rw [IntKind.wrap_i64]; omega
 clear hp1 hp2 hp3 hp4 k1 k4 h1 h2 h3 h4
 go_enter Tryz.func26, Tryz.ntmps26
 go_wp2_with fail
 refine wp_region_held_drew (S := fun w' => w'.cell? ⟨w.heap.size, 0, none⟩ = some (.int .i64 r1) /\ w'.cell? ⟨w.heap.size, 1, none⟩ = some (.int .i64 r2) /\ w'.cell? ⟨w.heap.size, 2, none⟩ = some (.int .i64 r3) /\ w'.cell? ⟨w.heap.size, 3, none⟩ = some (.int .i64 r4)) (by kernel_rfl) ?_ (fun hHeld => ?_)
 · go_keep
 refine wpAnyH_tk 1 (h := ?_)
 refine wpAnyH_tk 2 (h := ?_)
 refine wpAnyH_tk 6 (h := ?_)
 refine wpAnyH_tk 7 (h := ?_)
 refine wpAnyH_tk 10 (h := ?_)
 refine wpAnyH_tk 11 (h := ?_)
 refine wpAnyH_tk 14 (h := ?_)
 refine wpAnyH_tk 15 (h := ?_)
 refine wpAnyH_ready (rs := [0, 3, 13]) (by kernel_rfl) (by simp) ?_
 refine AllReadyH.cons rfl (fun K hK => ?_) ?_
 · skip
   go_simp
   refine kp (hK.out _ _) (fun hS1 => ?_)
   clear hHeld hK K
   refine wpAnyH_more (F := fun w' => w'.cell? ⟨w.heap.size + 1 + 1, p1, none⟩ = some (.string (keyN p1))) hS1 (fun hHeld => ?_)
   clear hS1
   refine wpAnyH_ready (rs := [3, 13]) (by kernel_rfl) (by simp) ?_
   refine AllReadyH.cons rfl (fun K hK => ?_) ?_
   · skip
     go_simp
     go_wp2_with (go_at_call 24; refine (HP1.out _).mono ?_; rintro e w' ⟨rfl, rfl⟩)
     refine hK.out _ _ (by assumption) (fun hS1 => ?_)
     clear hS1 hK K
     refine wpAnyH_tk 4 (h := ?_)
     refine wpAnyH_tk 5 (h := ?_)
     refine wpAnyH_ready (rs := [8, 13]) (by kernel_rfl) (by simp) ?_
     refine AllReadyH.cons rfl (fun K hK => ?_) ?_
     · skip
       go_simp
       go_wp2_with (go_at_call 24; refine (HP2.out _).mono ?_; rintro e w' ⟨rfl, rfl⟩)
       refine hK.out _ _ (by assumption) (fun hS1 => ?_)
       clear hS1 hK K
       refine wpAnyH_tk 9 (h := ?_)
       refine wpAnyH_ready (rs := [12, 13]) (by kernel_rfl) (by simp) ?_
       refine AllReadyH.cons rfl (fun K hK => ?_) ?_
       · skip
         go_simp
         go_wp2_with (go_at_call 24; refine (HP3.out _).mono ?_; rintro e w' ⟨rfl, rfl⟩)
         refine hK.out _ _ (by assumption) (fun hS1 => ?_)
         clear hS1 hK K
         refine wpAnyH_ready (rs := [13, 16]) (by kernel_rfl) (by simp) ?_
         refine AllReadyH.cons rfl (fun K hK => ?_) ?_
         · skip
           go_simp
           refine kp (hK.out _ _) (fun hS1 => ?_)
           clear hHeld hK K
           refine wpAnyH_more (F := fun w' => w'.cell? ⟨w.heap.size + 1 + 1 + 1, p4, none⟩ = some (.string (valN p4))) hS1 (fun hHeld => ?_)
           clear hS1
           refine wpAnyH_ready (rs := [16]) (by kernel_rfl) (by simp) ?_
           refine AllReadyH.cons rfl (fun K hK => ?_) ?_
           · skip
             go_simp
             go_wp2_with (go_at_call 24; refine (HP4.out _).mono ?_; rintro e w' ⟨rfl, rfl⟩)
             refine hK.out _ _ (by assumption) (fun hS1 => ?_)
             clear hS1 hK K
             refine wpAnyH_tk 17 (h := ?_)
             refine wpAnyH_tk 18 (h := ?_)
             refine wpAnyH_tk 19 (h := ?_)
             refine wpAnyH_ready (rs := [20]) (by kernel_rfl) (by simp) ?_
             refine AllReadyH.cons rfl (fun K hK => ?_) AllReadyH.nil
             go_simp
             refine kp (hK.out _ _) (fun hS1 => ?_)
             clear hS1 hK K hHeld
             refine wpAnyH_done (by kernel_rfl) ?_ _
             go_wp2_with fail
             refine bodyPost_ret (v := .agg #[.string (keyN p1), .int .i64 (1 + (p2 : Int)), .int .i64 (p3 : Int), .string (valN p4)]) (by simp [results, Tryz.results26, go_sem, hw]) rfl ⟨rfl, ?_⟩
             repeat first | exact zad _ _ | refine zbc ?_ | refine zaT ?_ (by simp <;> omega) _
           exact AllReadyH.nil
         refine AllReadyH.cons rfl (fun K hK => ?_) ?_
         · skip
           go_simp
           go_wp2_with (go_at_call 24; refine (HP4.out _).mono ?_; rintro e w' ⟨rfl, rfl⟩)
           refine hK.out _ _ (by assumption) (fun hS1 => ?_)
           clear hS1 hK K
           refine wpAnyH_ready (rs := [13]) (by kernel_rfl) (by simp) ?_
           refine AllReadyH.cons rfl (fun K hK => ?_) ?_
           · skip
             go_simp
             refine kp (hK.out _ _) (fun hS1 => ?_)
             clear hHeld hK K
             refine wpAnyH_more (F := fun w' => w'.cell? ⟨w.heap.size + 1 + 1 + 1, p4, none⟩ = some (.string (valN p4))) hS1 (fun hHeld => ?_)
             clear hS1
             refine wpAnyH_tk 17 (h := ?_)
             refine wpAnyH_tk 18 (h := ?_)
             refine wpAnyH_tk 19 (h := ?_)
             refine wpAnyH_ready (rs := [20]) (by kernel_rfl) (by simp) ?_
             refine AllReadyH.cons rfl (fun K hK => ?_) AllReadyH.nil
             go_simp
             refine kp (hK.out _ _) (fun hS1 => ?_)
             clear hS1 hK K hHeld
             refine wpAnyH_done (by kernel_rfl) ?_ _
             go_wp2_with fail
             refine bodyPost_ret (v := .agg #[.string (keyN p1), .int .i64 (1 + (p2 : Int)), .int .i64 (p3 : Int), .string (valN p4)]) (by simp [results, Tryz.results26, go_sem, hw]) rfl ⟨rfl, ?_⟩
             repeat first | exact zad _ _ | refine zbc ?_ | refine zaT ?_ (by simp <;> omega) _
           exact AllReadyH.nil
         exact AllReadyH.nil
       refine AllReadyH.cons rfl (fun K hK => ?_) ?_
       · skip
         go_simp
         refine kp (hK.out _ _) (fun hS1 => ?_)
         clear hHeld hK K
         refine wpAnyH_more (F := fun w' => w'.cell? ⟨w.heap.size + 1 + 1 + 1, p4, none⟩ = some (.string (valN p4))) hS1 (fun hHeld => ?_)
         clear hS1
         refine wpAnyH_ready (rs := [12]) (by kernel_rfl) (by simp) ?_
         refine AllReadyH.cons rfl (fun K hK => ?_) ?_
         · skip
           go_simp
           go_wp2_with (go_at_call 24; refine (HP3.out _).mono ?_; rintro e w' ⟨rfl, rfl⟩)
           refine hK.out _ _ (by assumption) (fun hS1 => ?_)
           clear hS1 hK K
           refine wpAnyH_ready (rs := [16]) (by kernel_rfl) (by simp) ?_
           refine AllReadyH.cons rfl (fun K hK => ?_) ?_
           · skip
             go_simp
             go_wp2_with (go_at_call 24; refine (HP4.out _).mono ?_; rintro e w' ⟨rfl, rfl⟩)
             refine hK.out _ _ (by assumption) (fun hS1 => ?_)
             clear hS1 hK K
             refine wpAnyH_tk 17 (h := ?_)
             refine wpAnyH_tk 18 (h := ?_)
             refine wpAnyH_tk 19 (h := ?_)
             refine wpAnyH_ready (rs := [20]) (by kernel_rfl) (by simp) ?_
             refine AllReadyH.cons rfl (fun K hK => ?_) AllReadyH.nil
             go_simp
             refine kp (hK.out _ _) (fun hS1 => ?_)
             clear hS1 hK K hHeld
             refine wpAnyH_done (by kernel_rfl) ?_ _
             go_wp2_with fail
             refine bodyPost_ret (v := .agg #[.string (keyN p1), .int .i64 (1 + (p2 : Int)), .int .i64 (p3 : Int), .string (valN p4)]) (by simp [results, Tryz.results26, go_sem, hw]) rfl ⟨rfl, ?_⟩
             repeat first | exact zad _ _ | refine zbc ?_ | refine zaT ?_ (by simp <;> omega) _
           exact AllReadyH.nil
         exact AllReadyH.nil
       exact AllReadyH.nil
     refine AllReadyH.cons rfl (fun K hK => ?_) ?_
     · skip
       go_simp
       refine kp (hK.out _ _) (fun hS1 => ?_)
       clear hHeld hK K
       refine wpAnyH_more (F := fun w' => w'.cell? ⟨w.heap.size + 1 + 1 + 1, p4, none⟩ = some (.string (valN p4))) hS1 (fun hHeld => ?_)
       clear hS1
       refine wpAnyH_ready (rs := [8]) (by kernel_rfl) (by simp) ?_
       refine AllReadyH.cons rfl (fun K hK => ?_) ?_
       · skip
         go_simp
         go_wp2_with (go_at_call 24; refine (HP2.out _).mono ?_; rintro e w' ⟨rfl, rfl⟩)
         refine hK.out _ _ (by assumption) (fun hS1 => ?_)
         clear hS1 hK K
         refine wpAnyH_tk 9 (h := ?_)
         refine wpAnyH_ready (rs := [12]) (by kernel_rfl) (by simp) ?_
         refine AllReadyH.cons rfl (fun K hK => ?_) ?_
         · skip
           go_simp
           go_wp2_with (go_at_call 24; refine (HP3.out _).mono ?_; rintro e w' ⟨rfl, rfl⟩)
           refine hK.out _ _ (by assumption) (fun hS1 => ?_)
           clear hS1 hK K
           refine wpAnyH_ready (rs := [16]) (by kernel_rfl) (by simp) ?_
           refine AllReadyH.cons rfl (fun K hK => ?_) ?_
           · skip
             go_simp
             go_wp2_with (go_at_call 24; refine (HP4.out _).mono ?_; rintro e w' ⟨rfl, rfl⟩)
             refine hK.out _ _ (by assumption) (fun hS1 => ?_)
             clear hS1 hK K
             refine wpAnyH_tk 17 (h := ?_)
             refine wpAnyH_tk 18 (h := ?_)
             refine wpAnyH_tk 19 (h := ?_)
             refine wpAnyH_ready (rs := [20]) (by kernel_rfl) (by simp) ?_
             refine AllReadyH.cons rfl (fun K hK => ?_) AllReadyH.nil
             go_simp
             refine kp (hK.out _ _) (fun hS1 => ?_)
             clear hS1 hK K hHeld
             refine wpAnyH_done (by kernel_rfl) ?_ _
             go_wp2_with fail
             refine bodyPost_ret (v := .agg #[.string (keyN p1), .int .i64 (1 + (p2 : Int)), .int .i64 (p3 : Int), .string (valN p4)]) (by simp [results, Tryz.results26, go_sem, hw]) rfl ⟨rfl, ?_⟩
             repeat first | exact zad _ _ | refine zbc ?_ | refine zaT ?_ (by simp <;> omega) _
           exact AllReadyH.nil
         exact AllReadyH.nil
       exact AllReadyH.nil
     exact AllReadyH.nil
   refine AllReadyH.cons rfl (fun K hK => ?_) ?_
   · skip
     go_simp
     refine kp (hK.out _ _) (fun hS1 => ?_)
     clear hHeld hK K
     refine wpAnyH_more (F := fun w' => w'.cell? ⟨w.heap.size + 1 + 1 + 1, p4, none⟩ = some (.string (valN p4))) hS1 (fun hHeld => ?_)
     clear hS1
     refine wpAnyH_ready (rs := [3]) (by kernel_rfl) (by simp) ?_
     refine AllReadyH.cons rfl (fun K hK => ?_) ?_
     · skip
       go_simp
       go_wp2_with (go_at_call 24; refine (HP1.out _).mono ?_; rintro e w' ⟨rfl, rfl⟩)
       refine hK.out _ _ (by assumption) (fun hS1 => ?_)
       clear hS1 hK K
       refine wpAnyH_tk 4 (h := ?_)
       refine wpAnyH_tk 5 (h := ?_)
       refine wpAnyH_ready (rs := [8]) (by kernel_rfl) (by simp) ?_
       refine AllReadyH.cons rfl (fun K hK => ?_) ?_
       · skip
         go_simp
         go_wp2_with (go_at_call 24; refine (HP2.out _).mono ?_; rintro e w' ⟨rfl, rfl⟩)
         refine hK.out _ _ (by assumption) (fun hS1 => ?_)
         clear hS1 hK K
         refine wpAnyH_tk 9 (h := ?_)
         refine wpAnyH_ready (rs := [12]) (by kernel_rfl) (by simp) ?_
         refine AllReadyH.cons rfl (fun K hK => ?_) ?_
         · skip
           go_simp
           go_wp2_with (go_at_call 24; refine (HP3.out _).mono ?_; rintro e w' ⟨rfl, rfl⟩)
           refine hK.out _ _ (by assumption) (fun hS1 => ?_)
           clear hS1 hK K
           refine wpAnyH_ready (rs := [16]) (by kernel_rfl) (by simp) ?_
           refine AllReadyH.cons rfl (fun K hK => ?_) ?_
           · skip
             go_simp
             go_wp2_with (go_at_call 24; refine (HP4.out _).mono ?_; rintro e w' ⟨rfl, rfl⟩)
             refine hK.out _ _ (by assumption) (fun hS1 => ?_)
             clear hS1 hK K
             refine wpAnyH_tk 17 (h := ?_)
             refine wpAnyH_tk 18 (h := ?_)
             refine wpAnyH_tk 19 (h := ?_)
             refine wpAnyH_ready (rs := [20]) (by kernel_rfl) (by simp) ?_
             refine AllReadyH.cons rfl (fun K hK => ?_) AllReadyH.nil
             go_simp
             refine kp (hK.out _ _) (fun hS1 => ?_)
             clear hS1 hK K hHeld
             refine wpAnyH_done (by kernel_rfl) ?_ _
             go_wp2_with fail
             refine bodyPost_ret (v := .agg #[.string (keyN p1), .int .i64 (1 + (p2 : Int)), .int .i64 (p3 : Int), .string (valN p4)]) (by simp [results, Tryz.results26, go_sem, hw]) rfl ⟨rfl, ?_⟩
             repeat first | exact zad _ _ | refine zbc ?_ | refine zaT ?_ (by simp <;> omega) _
           exact AllReadyH.nil
         exact AllReadyH.nil
       exact AllReadyH.nil
     exact AllReadyH.nil
   exact AllReadyH.nil
 refine AllReadyH.cons rfl (fun K hK => ?_) ?_
 · skip
   go_simp
   go_wp2_with (go_at_call 24; refine (HP1.out _).mono ?_; rintro e w' ⟨rfl, rfl⟩)
   refine hK.out _ _ (by assumption) (fun hS1 => ?_)
   clear hS1 hK K
   refine wpAnyH_ready (rs := [0, 8, 13]) (by kernel_rfl) (by simp) ?_
   refine AllReadyH.cons rfl (fun K hK => ?_) ?_
   · skip
     go_simp
     refine kp (hK.out _ _) (fun hS1 => ?_)
     clear hHeld hK K
     refine wpAnyH_more (F := fun w' => w'.cell? ⟨w.heap.size + 1 + 1, p1, none⟩ = some (.string (keyN p1))) hS1 (fun hHeld => ?_)
     clear hS1
     refine wpAnyH_tk 4 (h := ?_)
     refine wpAnyH_tk 5 (h := ?_)
     refine wpAnyH_ready (rs := [8, 13]) (by kernel_rfl) (by simp) ?_
     refine AllReadyH.cons rfl (fun K hK => ?_) ?_
     · skip
       go_simp
       go_wp2_with (go_at_call 24; refine (HP2.out _).mono ?_; rintro e w' ⟨rfl, rfl⟩)
       refine hK.out _ _ (by assumption) (fun hS1 => ?_)
       clear hS1 hK K
       refine wpAnyH_tk 9 (h := ?_)
       refine wpAnyH_ready (rs := [12, 13]) (by kernel_rfl) (by simp) ?_
       refine AllReadyH.cons rfl (fun K hK => ?_) ?_
       · skip
         go_simp
         go_wp2_with (go_at_call 24; refine (HP3.out _).mono ?_; rintro e w' ⟨rfl, rfl⟩)
         refine hK.out _ _ (by assumption) (fun hS1 => ?_)
         clear hS1 hK K
         refine wpAnyH_ready (rs := [13, 16]) (by kernel_rfl) (by simp) ?_
         refine AllReadyH.cons rfl (fun K hK => ?_) ?_
         · skip
           go_simp
           refine kp (hK.out _ _) (fun hS1 => ?_)
           clear hHeld hK K
           refine wpAnyH_more (F := fun w' => w'.cell? ⟨w.heap.size + 1 + 1 + 1, p4, none⟩ = some (.string (valN p4))) hS1 (fun hHeld => ?_)
           clear hS1
           refine wpAnyH_ready (rs := [16]) (by kernel_rfl) (by simp) ?_
           refine AllReadyH.cons rfl (fun K hK => ?_) ?_
           · skip
             go_simp
             go_wp2_with (go_at_call 24; refine (HP4.out _).mono ?_; rintro e w' ⟨rfl, rfl⟩)
             refine hK.out _ _ (by assumption) (fun hS1 => ?_)
             clear hS1 hK K
             refine wpAnyH_tk 17 (h := ?_)
             refine wpAnyH_tk 18 (h := ?_)
             refine wpAnyH_tk 19 (h := ?_)
             refine wpAnyH_ready (rs := [20]) (by kernel_rfl) (by simp) ?_
             refine AllReadyH.cons rfl (fun K hK => ?_) AllReadyH.nil
             go_simp
             refine kp (hK.out _ _) (fun hS1 => ?_)
             clear hS1 hK K hHeld
             refine wpAnyH_done (by kernel_rfl) ?_ _
             go_wp2_with fail
             refine bodyPost_ret (v := .agg #[.string (keyN p1), .int .i64 (1 + (p2 : Int)), .int .i64 (p3 : Int), .string (valN p4)]) (by simp [results, Tryz.results26, go_sem, hw]) rfl ⟨rfl, ?_⟩
             repeat first | exact zad _ _ | refine zbc ?_ | refine zaT ?_ (by simp <;> omega) _
           exact AllReadyH.nil
         refine AllReadyH.cons rfl (fun K hK => ?_) ?_
         · skip
           go_simp
           go_wp2_with (go_at_call 24; refine (HP4.out _).mono ?_; rintro e w' ⟨rfl, rfl⟩)
           refine hK.out _ _ (by assumption) (fun hS1 => ?_)
           clear hS1 hK K
           refine wpAnyH_ready (rs := [13]) (by kernel_rfl) (by simp) ?_
           refine AllReadyH.cons rfl (fun K hK => ?_) ?_
           · skip
             go_simp
             refine kp (hK.out _ _) (fun hS1 => ?_)
             clear hHeld hK K
             refine wpAnyH_more (F := fun w' => w'.cell? ⟨w.heap.size + 1 + 1 + 1, p4, none⟩ = some (.string (valN p4))) hS1 (fun hHeld => ?_)
             clear hS1
             refine wpAnyH_tk 17 (h := ?_)
             refine wpAnyH_tk 18 (h := ?_)
             refine wpAnyH_tk 19 (h := ?_)
             refine wpAnyH_ready (rs := [20]) (by kernel_rfl) (by simp) ?_
             refine AllReadyH.cons rfl (fun K hK => ?_) AllReadyH.nil
             go_simp
             refine kp (hK.out _ _) (fun hS1 => ?_)
             clear hS1 hK K hHeld
             refine wpAnyH_done (by kernel_rfl) ?_ _
             go_wp2_with fail
             refine bodyPost_ret (v := .agg #[.string (keyN p1), .int .i64 (1 + (p2 : Int)), .int .i64 (p3 : Int), .string (valN p4)]) (by simp [results, Tryz.results26, go_sem, hw]) rfl ⟨rfl, ?_⟩
             repeat first | exact zad _ _ | refine zbc ?_ | refine zaT ?_ (by simp <;> omega) _
           exact AllReadyH.nil
         exact AllReadyH.nil
       refine AllReadyH.cons rfl (fun K hK => ?_) ?_
       · skip
         go_simp
         refine kp (hK.out _ _) (fun hS1 => ?_)
         clear hHeld hK K
         refine wpAnyH_more (F := fun w' => w'.cell? ⟨w.heap.size + 1 + 1 + 1, p4, none⟩ = some (.string (valN p4))) hS1 (fun hHeld => ?_)
         clear hS1
         refine wpAnyH_ready (rs := [12]) (by kernel_rfl) (by simp) ?_
         refine AllReadyH.cons rfl (fun K hK => ?_) ?_
         · skip
           go_simp
           go_wp2_with (go_at_call 24; refine (HP3.out _).mono ?_; rintro e w' ⟨rfl, rfl⟩)
           refine hK.out _ _ (by assumption) (fun hS1 => ?_)
           clear hS1 hK K
           refine wpAnyH_ready (rs := [16]) (by kernel_rfl) (by simp) ?_
           refine AllReadyH.cons rfl (fun K hK => ?_) ?_
           · skip
             go_simp
             go_wp2_with (go_at_call 24; refine (HP4.out _).mono ?_; rintro e w' ⟨rfl, rfl⟩)
             refine hK.out _ _ (by assumption) (fun hS1 => ?_)
             clear hS1 hK K
             refine wpAnyH_tk 17 (h := ?_)
             refine wpAnyH_tk 18 (h := ?_)
             refine wpAnyH_tk 19 (h := ?_)
             refine wpAnyH_ready (rs := [20]) (by kernel_rfl) (by simp) ?_
             refine AllReadyH.cons rfl (fun K hK => ?_) AllReadyH.nil
             go_simp
             refine kp (hK.out _ _) (fun hS1 => ?_)
             clear hS1 hK K hHeld
             refine wpAnyH_done (by kernel_rfl) ?_ _
             go_wp2_with fail
             refine bodyPost_ret (v := .agg #[.string (keyN p1), .int .i64 (1 + (p2 : Int)), .int .i64 (p3 : Int), .string (valN p4)]) (by simp [results, Tryz.results26, go_sem, hw]) rfl ⟨rfl, ?_⟩
             repeat first | exact zad _ _ | refine zbc ?_ | refine zaT ?_ (by simp <;> omega) _
           exact AllReadyH.nil
         exact AllReadyH.nil
       exact AllReadyH.nil
     refine AllReadyH.cons rfl (fun K hK => ?_) ?_
     · skip
       go_simp
       refine kp (hK.out _ _) (fun hS1 => ?_)
       clear hHeld hK K
       refine wpAnyH_more (F := fun w' => w'.cell? ⟨w.heap.size + 1 + 1 + 1, p4, none⟩ = some (.string (valN p4))) hS1 (fun hHeld => ?_)
       clear hS1
       refine wpAnyH_ready (rs := [8]) (by kernel_rfl) (by simp) ?_
       refine AllReadyH.cons rfl (fun K hK => ?_) ?_
       · skip
         go_simp
         go_wp2_with (go_at_call 24; refine (HP2.out _).mono ?_; rintro e w' ⟨rfl, rfl⟩)
         refine hK.out _ _ (by assumption) (fun hS1 => ?_)
         clear hS1 hK K
         refine wpAnyH_tk 9 (h := ?_)
         refine wpAnyH_ready (rs := [12]) (by kernel_rfl) (by simp) ?_
         refine AllReadyH.cons rfl (fun K hK => ?_) ?_
         · skip
           go_simp
           go_wp2_with (go_at_call 24; refine (HP3.out _).mono ?_; rintro e w' ⟨rfl, rfl⟩)
           refine hK.out _ _ (by assumption) (fun hS1 => ?_)
           clear hS1 hK K
           refine wpAnyH_ready (rs := [16]) (by kernel_rfl) (by simp) ?_
           refine AllReadyH.cons rfl (fun K hK => ?_) ?_
           · skip
             go_simp
             go_wp2_with (go_at_call 24; refine (HP4.out _).mono ?_; rintro e w' ⟨rfl, rfl⟩)
             refine hK.out _ _ (by assumption) (fun hS1 => ?_)
             clear hS1 hK K
             refine wpAnyH_tk 17 (h := ?_)
             refine wpAnyH_tk 18 (h := ?_)
             refine wpAnyH_tk 19 (h := ?_)
             refine wpAnyH_ready (rs := [20]) (by kernel_rfl) (by simp) ?_
             refine AllReadyH.cons rfl (fun K hK => ?_) AllReadyH.nil
             go_simp
             refine kp (hK.out _ _) (fun hS1 => ?_)
             clear hS1 hK K hHeld
             refine wpAnyH_done (by kernel_rfl) ?_ _
             go_wp2_with fail
             refine bodyPost_ret (v := .agg #[.string (keyN p1), .int .i64 (1 + (p2 : Int)), .int .i64 (p3 : Int), .string (valN p4)]) (by simp [results, Tryz.results26, go_sem, hw]) rfl ⟨rfl, ?_⟩
             repeat first | exact zad _ _ | refine zbc ?_ | refine zaT ?_ (by simp <;> omega) _
           exact AllReadyH.nil
         exact AllReadyH.nil
       exact AllReadyH.nil
     exact AllReadyH.nil
   refine AllReadyH.cons rfl (fun K hK => ?_) ?_
   · skip
     go_simp
     go_wp2_with (go_at_call 24; refine (HP2.out _).mono ?_; rintro e w' ⟨rfl, rfl⟩)
     refine hK.out _ _ (by assumption) (fun hS1 => ?_)
     clear hS1 hK K
     refine wpAnyH_tk 9 (h := ?_)
     refine wpAnyH_ready (rs := [0, 12, 13]) (by kernel_rfl) (by simp) ?_
     refine AllReadyH.cons rfl (fun K hK => ?_) ?_
     · skip
       go_simp
       refine kp (hK.out _ _) (fun hS1 => ?_)
       clear hHeld hK K
       refine wpAnyH_more (F := fun w' => w'.cell? ⟨w.heap.size + 1 + 1, p1, none⟩ = some (.string (keyN p1))) hS1 (fun hHeld => ?_)
       clear hS1
       refine wpAnyH_tk 4 (h := ?_)
       refine wpAnyH_tk 5 (h := ?_)
       refine wpAnyH_ready (rs := [12, 13]) (by kernel_rfl) (by simp) ?_
       refine AllReadyH.cons rfl (fun K hK => ?_) ?_
       · skip
         go_simp
         go_wp2_with (go_at_call 24; refine (HP3.out _).mono ?_; rintro e w' ⟨rfl, rfl⟩)
         refine hK.out _ _ (by assumption) (fun hS1 => ?_)
         clear hS1 hK K
         refine wpAnyH_ready (rs := [13, 16]) (by kernel_rfl) (by simp) ?_
         refine AllReadyH.cons rfl (fun K hK => ?_) ?_
         · skip
           go_simp
           refine kp (hK.out _ _) (fun hS1 => ?_)
           clear hHeld hK K
           refine wpAnyH_more (F := fun w' => w'.cell? ⟨w.heap.size + 1 + 1 + 1, p4, none⟩ = some (.string (valN p4))) hS1 (fun hHeld => ?_)
           clear hS1
           refine wpAnyH_ready (rs := [16]) (by kernel_rfl) (by simp) ?_
           refine AllReadyH.cons rfl (fun K hK => ?_) ?_
           · skip
             go_simp
             go_wp2_with (go_at_call 24; refine (HP4.out _).mono ?_; rintro e w' ⟨rfl, rfl⟩)
             refine hK.out _ _ (by assumption) (fun hS1 => ?_)
             clear hS1 hK K
             refine wpAnyH_tk 17 (h := ?_)
             refine wpAnyH_tk 18 (h := ?_)
             refine wpAnyH_tk 19 (h := ?_)
             refine wpAnyH_ready (rs := [20]) (by kernel_rfl) (by simp) ?_
             refine AllReadyH.cons rfl (fun K hK => ?_) AllReadyH.nil
             go_simp
             refine kp (hK.out _ _) (fun hS1 => ?_)
             clear hS1 hK K hHeld
             refine wpAnyH_done (by kernel_rfl) ?_ _
             go_wp2_with fail
             refine bodyPost_ret (v := .agg #[.string (keyN p1), .int .i64 (1 + (p2 : Int)), .int .i64 (p3 : Int), .string (valN p4)]) (by simp [results, Tryz.results26, go_sem, hw]) rfl ⟨rfl, ?_⟩
             repeat first | exact zad _ _ | refine zbc ?_ | refine zaT ?_ (by simp <;> omega) _
           exact AllReadyH.nil
         refine AllReadyH.cons rfl (fun K hK => ?_) ?_
         · skip
           go_simp
           go_wp2_with (go_at_call 24; refine (HP4.out _).mono ?_; rintro e w' ⟨rfl, rfl⟩)
           refine hK.out _ _ (by assumption) (fun hS1 => ?_)
           clear hS1 hK K
           refine wpAnyH_ready (rs := [13]) (by kernel_rfl) (by simp) ?_
           refine AllReadyH.cons rfl (fun K hK => ?_) ?_
           · skip
             go_simp
             refine kp (hK.out _ _) (fun hS1 => ?_)
             clear hHeld hK K
             refine wpAnyH_more (F := fun w' => w'.cell? ⟨w.heap.size + 1 + 1 + 1, p4, none⟩ = some (.string (valN p4))) hS1 (fun hHeld => ?_)
             clear hS1
             refine wpAnyH_tk 17 (h := ?_)
             refine wpAnyH_tk 18 (h := ?_)
             refine wpAnyH_tk 19 (h := ?_)
             refine wpAnyH_ready (rs := [20]) (by kernel_rfl) (by simp) ?_
             refine AllReadyH.cons rfl (fun K hK => ?_) AllReadyH.nil
             go_simp
             refine kp (hK.out _ _) (fun hS1 => ?_)
             clear hS1 hK K hHeld
             refine wpAnyH_done (by kernel_rfl) ?_ _
             go_wp2_with fail
             refine bodyPost_ret (v := .agg #[.string (keyN p1), .int .i64 (1 + (p2 : Int)), .int .i64 (p3 : Int), .string (valN p4)]) (by simp [results, Tryz.results26, go_sem, hw]) rfl ⟨rfl, ?_⟩
             repeat first | exact zad _ _ | refine zbc ?_ | refine zaT ?_ (by simp <;> omega) _
           exact AllReadyH.nil
         exact AllReadyH.nil
       refine AllReadyH.cons rfl (fun K hK => ?_) ?_
       · skip
         go_simp
         refine kp (hK.out _ _) (fun hS1 => ?_)
         clear hHeld hK K
         refine wpAnyH_more (F := fun w' => w'.cell? ⟨w.heap.size + 1 + 1 + 1, p4, none⟩ = some (.string (valN p4))) hS1 (fun hHeld => ?_)
         clear hS1
         refine wpAnyH_ready (rs := [12]) (by kernel_rfl) (by simp) ?_
         refine AllReadyH.cons rfl (fun K hK => ?_) ?_
         · skip
           go_simp
           go_wp2_with (go_at_call 24; refine (HP3.out _).mono ?_; rintro e w' ⟨rfl, rfl⟩)
           refine hK.out _ _ (by assumption) (fun hS1 => ?_)
           clear hS1 hK K
           refine wpAnyH_ready (rs := [16]) (by kernel_rfl) (by simp) ?_
           refine AllReadyH.cons rfl (fun K hK => ?_) ?_
           · skip
             go_simp
             go_wp2_with (go_at_call 24; refine (HP4.out _).mono ?_; rintro e w' ⟨rfl, rfl⟩)
             refine hK.out _ _ (by assumption) (fun hS1 => ?_)
             clear hS1 hK K
             refine wpAnyH_tk 17 (h := ?_)
             refine wpAnyH_tk 18 (h := ?_)
             refine wpAnyH_tk 19 (h := ?_)
             refine wpAnyH_ready (rs := [20]) (by kernel_rfl) (by simp) ?_
             refine AllReadyH.cons rfl (fun K hK => ?_) AllReadyH.nil
             go_simp
             refine kp (hK.out _ _) (fun hS1 => ?_)
             clear hS1 hK K hHeld
             refine wpAnyH_done (by kernel_rfl) ?_ _
             go_wp2_with fail
             refine bodyPost_ret (v := .agg #[.string (keyN p1), .int .i64 (1 + (p2 : Int)), .int .i64 (p3 : Int), .string (valN p4)]) (by simp [results, Tryz.results26, go_sem, hw]) rfl ⟨rfl, ?_⟩
             repeat first | exact zad _ _ | refine zbc ?_ | refine zaT ?_ (by simp <;> omega) _
           exact AllReadyH.nil
         exact AllReadyH.nil
       exact AllReadyH.nil
     refine AllReadyH.cons rfl (fun K hK => ?_) ?_
     · skip
       go_simp
       go_wp2_with (go_at_call 24; refine (HP3.out _).mono ?_; rintro e w' ⟨rfl, rfl⟩)
       refine hK.out _ _ (by assumption) (fun hS1 => ?_)
       clear hS1 hK K
       refine wpAnyH_ready (rs := [0, 13, 16]) (by kernel_rfl) (by simp) ?_
       refine AllReadyH.cons rfl (fun K hK => ?_) ?_
       · skip
         go_simp
         refine kp (hK.out _ _) (fun hS1 => ?_)
         clear hHeld hK K
         refine wpAnyH_more (F := fun w' => w'.cell? ⟨w.heap.size + 1 + 1, p1, none⟩ = some (.string (keyN p1))) hS1 (fun hHeld => ?_)
         clear hS1
         refine wpAnyH_tk 4 (h := ?_)
         refine wpAnyH_tk 5 (h := ?_)
         refine wpAnyH_ready (rs := [13, 16]) (by kernel_rfl) (by simp) ?_
         refine AllReadyH.cons rfl (fun K hK => ?_) ?_
         · skip
           go_simp
           refine kp (hK.out _ _) (fun hS1 => ?_)
           clear hHeld hK K
           refine wpAnyH_more (F := fun w' => w'.cell? ⟨w.heap.size + 1 + 1 + 1, p4, none⟩ = some (.string (valN p4))) hS1 (fun hHeld => ?_)
           clear hS1
           refine wpAnyH_ready (rs := [16]) (by kernel_rfl) (by simp) ?_
           refine AllReadyH.cons rfl (fun K hK => ?_) ?_
           · skip
             go_simp
             go_wp2_with (go_at_call 24; refine (HP4.out _).mono ?_; rintro e w' ⟨rfl, rfl⟩)
             refine hK.out _ _ (by assumption) (fun hS1 => ?_)
             clear hS1 hK K
             refine wpAnyH_tk 17 (h := ?_)
             refine wpAnyH_tk 18 (h := ?_)
             refine wpAnyH_tk 19 (h := ?_)
             refine wpAnyH_ready (rs := [20]) (by kernel_rfl) (by simp) ?_
             refine AllReadyH.cons rfl (fun K hK => ?_) AllReadyH.nil
             go_simp
             refine kp (hK.out _ _) (fun hS1 => ?_)
             clear hS1 hK K hHeld
             refine wpAnyH_done (by kernel_rfl) ?_ _
             go_wp2_with fail
             refine bodyPost_ret (v := .agg #[.string (keyN p1), .int .i64 (1 + (p2 : Int)), .int .i64 (p3 : Int), .string (valN p4)]) (by simp [results, Tryz.results26, go_sem, hw]) rfl ⟨rfl, ?_⟩
             repeat first | exact zad _ _ | refine zbc ?_ | refine zaT ?_ (by simp <;> omega) _
           exact AllReadyH.nil
         refine AllReadyH.cons rfl (fun K hK => ?_) ?_
         · skip
           go_simp
           go_wp2_with (go_at_call 24; refine (HP4.out _).mono ?_; rintro e w' ⟨rfl, rfl⟩)
           refine hK.out _ _ (by assumption) (fun hS1 => ?_)
           clear hS1 hK K
           refine wpAnyH_ready (rs := [13]) (by kernel_rfl) (by simp) ?_
           refine AllReadyH.cons rfl (fun K hK => ?_) ?_
           · skip
             go_simp
             refine kp (hK.out _ _) (fun hS1 => ?_)
             clear hHeld hK K
             refine wpAnyH_more (F := fun w' => w'.cell? ⟨w.heap.size + 1 + 1 + 1, p4, none⟩ = some (.string (valN p4))) hS1 (fun hHeld => ?_)
             clear hS1
             refine wpAnyH_tk 17 (h := ?_)
             refine wpAnyH_tk 18 (h := ?_)
             refine wpAnyH_tk 19 (h := ?_)
             refine wpAnyH_ready (rs := [20]) (by kernel_rfl) (by simp) ?_
             refine AllReadyH.cons rfl (fun K hK => ?_) AllReadyH.nil
             go_simp
             refine kp (hK.out _ _) (fun hS1 => ?_)
             clear hS1 hK K hHeld
             refine wpAnyH_done (by kernel_rfl) ?_ _
             go_wp2_with fail
             refine bodyPost_ret (v := .agg #[.string (keyN p1), .int .i64 (1 + (p2 : Int)), .int .i64 (p3 : Int), .string (valN p4)]) (by simp [results, Tryz.results26, go_sem, hw]) rfl ⟨rfl, ?_⟩
             repeat first | exact zad _ _ | refine zbc ?_ | refine zaT ?_ (by simp <;> omega) _
           exact AllReadyH.nil
         exact AllReadyH.nil
       refine AllReadyH.cons rfl (fun K hK => ?_) ?_
       · skip
         go_simp
         refine kp (hK.out _ _) (fun hS1 => ?_)
         clear hHeld hK K
         refine wpAnyH_more (F := fun w' => w'.cell? ⟨w.heap.size + 1 + 1, p4, none⟩ = some (.string (valN p4))) hS1 (fun hHeld => ?_)
         clear hS1
         refine wpAnyH_ready (rs := [0, 16]) (by kernel_rfl) (by simp) ?_
         refine AllReadyH.cons rfl (fun K hK => ?_) ?_
         · skip
           go_simp
           refine kp (hK.out _ _) (fun hS1 => ?_)
           clear hHeld hK K
           refine wpAnyH_more (F := fun w' => w'.cell? ⟨w.heap.size + 1 + 1 + 1, p1, none⟩ = some (.string (keyN p1))) hS1 (fun hHeld => ?_)
           clear hS1
           refine wpAnyH_tk 4 (h := ?_)
           refine wpAnyH_tk 5 (h := ?_)
           refine wpAnyH_ready (rs := [16]) (by kernel_rfl) (by simp) ?_
           refine AllReadyH.cons rfl (fun K hK => ?_) ?_
           · skip
             go_simp
             go_wp2_with (go_at_call 24; refine (HP4.out _).mono ?_; rintro e w' ⟨rfl, rfl⟩)
             refine hK.out _ _ (by assumption) (fun hS1 => ?_)
             clear hS1 hK K
             refine wpAnyH_tk 17 (h := ?_)
             refine wpAnyH_tk 18 (h := ?_)
             refine wpAnyH_tk 19 (h := ?_)
             refine wpAnyH_ready (rs := [20]) (by kernel_rfl) (by simp) ?_
             refine AllReadyH.cons rfl (fun K hK => ?_) AllReadyH.nil
             go_simp
             refine kp (hK.out _ _) (fun hS1 => ?_)
             clear hS1 hK K hHeld
             refine wpAnyH_done (by kernel_rfl) ?_ _
             go_wp2_with fail
             refine bodyPost_ret (v := .agg #[.string (keyN p1), .int .i64 (1 + (p2 : Int)), .int .i64 (p3 : Int), .string (valN p4)]) (by simp [results, Tryz.results26, go_sem, hw]) rfl ⟨rfl, ?_⟩
             repeat first | exact zad _ _ | refine zbc ?_ | refine zaT ?_ (by simp <;> omega) _
           exact AllReadyH.nil
         refine AllReadyH.cons rfl (fun K hK => ?_) ?_
         · skip
           go_simp
           go_wp2_with (go_at_call 24; refine (HP4.out _).mono ?_; rintro e w' ⟨rfl, rfl⟩)
           refine hK.out _ _ (by assumption) (fun hS1 => ?_)
           clear hS1 hK K
           refine wpAnyH_tk 17 (h := ?_)
           refine wpAnyH_tk 18 (h := ?_)
           refine wpAnyH_ready (rs := [0]) (by kernel_rfl) (by simp) ?_
           refine AllReadyH.cons rfl (fun K hK => ?_) ?_
           · skip
             go_simp
             refine kp (hK.out _ _) (fun hS1 => ?_)
             clear hHeld hK K
             refine wpAnyH_more (F := fun w' => w'.cell? ⟨w.heap.size + 1 + 1 + 1, p1, none⟩ = some (.string (keyN p1))) hS1 (fun hHeld => ?_)
             clear hS1
             refine wpAnyH_tk 4 (h := ?_)
             refine wpAnyH_tk 5 (h := ?_)
             refine wpAnyH_tk 19 (h := ?_)
             refine wpAnyH_ready (rs := [20]) (by kernel_rfl) (by simp) ?_
             refine AllReadyH.cons rfl (fun K hK => ?_) AllReadyH.nil
             go_simp
             refine kp (hK.out _ _) (fun hS1 => ?_)
             clear hS1 hK K hHeld
             refine wpAnyH_done (by kernel_rfl) ?_ _
             go_wp2_with fail
             refine bodyPost_ret (v := .agg #[.string (keyN p1), .int .i64 (1 + (p2 : Int)), .int .i64 (p3 : Int), .string (valN p4)]) (by simp [results, Tryz.results26, go_sem, hw]) rfl ⟨rfl, ?_⟩
             repeat first | exact zad _ _ | refine zbc ?_ | refine zaT ?_ (by simp <;> omega) _
           exact AllReadyH.nil
         exact AllReadyH.nil
       refine AllReadyH.cons rfl (fun K hK => ?_) ?_
       · skip
         go_simp
         go_wp2_with (go_at_call 24; refine (HP4.out _).mono ?_; rintro e w' ⟨rfl, rfl⟩)
         refine hK.out _ _ (by assumption) (fun hS1 => ?_)
         clear hS1 hK K
         refine wpAnyH_ready (rs := [0, 13]) (by kernel_rfl) (by simp) ?_
         refine AllReadyH.cons rfl (fun K hK => ?_) ?_
         · skip
           go_simp
           refine kp (hK.out _ _) (fun hS1 => ?_)
           clear hHeld hK K
           refine wpAnyH_more (F := fun w' => w'.cell? ⟨w.heap.size + 1 + 1, p1, none⟩ = some (.string (keyN p1))) hS1 (fun hHeld => ?_)
           clear hS1
           refine wpAnyH_tk 4 (h := ?_)
           refine wpAnyH_tk 5 (h := ?_)
           refine wpAnyH_ready (rs := [13]) (by kernel_rfl) (by simp) ?_
           refine AllReadyH.cons rfl (fun K hK => ?_) ?_
           · skip
             go_simp
             refine kp (hK.out _ _) (fun hS1 => ?_)
             clear hHeld hK K
             refine wpAnyH_more (F := fun w' => w'.cell? ⟨w.heap.size + 1 + 1 + 1, p4, none⟩ = some (.string (valN p4))) hS1 (fun hHeld => ?_)
             clear hS1
             refine wpAnyH_tk 17 (h := ?_)
             refine wpAnyH_tk 18 (h := ?_)
             refine wpAnyH_tk 19 (h := ?_)
             refine wpAnyH_ready (rs := [20]) (by kernel_rfl) (by simp) ?_
             refine AllReadyH.cons rfl (fun K hK => ?_) AllReadyH.nil
             go_simp
             refine kp (hK.out _ _) (fun hS1 => ?_)
             clear hS1 hK K hHeld
             refine wpAnyH_done (by kernel_rfl) ?_ _
             go_wp2_with fail
             refine bodyPost_ret (v := .agg #[.string (keyN p1), .int .i64 (1 + (p2 : Int)), .int .i64 (p3 : Int), .string (valN p4)]) (by simp [results, Tryz.results26, go_sem, hw]) rfl ⟨rfl, ?_⟩
             repeat first | exact zad _ _ | refine zbc ?_ | refine zaT ?_ (by simp <;> omega) _
           exact AllReadyH.nil
         refine AllReadyH.cons rfl (fun K hK => ?_) ?_
         · skip
           go_simp
           refine kp (hK.out _ _) (fun hS1 => ?_)
           clear hHeld hK K
           refine wpAnyH_more (F := fun w' => w'.cell? ⟨w.heap.size + 1 + 1, p4, none⟩ = some (.string (valN p4))) hS1 (fun hHeld => ?_)
           clear hS1
           refine wpAnyH_tk 17 (h := ?_)
           refine wpAnyH_tk 18 (h := ?_)
           refine wpAnyH_ready (rs := [0]) (by kernel_rfl) (by simp) ?_
           refine AllReadyH.cons rfl (fun K hK => ?_) ?_
           · skip
             go_simp
             refine kp (hK.out _ _) (fun hS1 => ?_)
             clear hHeld hK K
             refine wpAnyH_more (F := fun w' => w'.cell? ⟨w.heap.size + 1 + 1 + 1, p1, none⟩ = some (.string (keyN p1))) hS1 (fun hHeld => ?_)
             clear hS1
             refine wpAnyH_tk 4 (h := ?_)
             refine wpAnyH_tk 5 (h := ?_)
             refine wpAnyH_tk 19 (h := ?_)
             refine wpAnyH_ready (rs := [20]) (by kernel_rfl) (by simp) ?_
             refine AllReadyH.cons rfl (fun K hK => ?_) AllReadyH.nil
             go_simp
             refine kp (hK.out _ _) (fun hS1 => ?_)
             clear hS1 hK K hHeld
             refine wpAnyH_done (by kernel_rfl) ?_ _
             go_wp2_with fail
             refine bodyPost_ret (v := .agg #[.string (keyN p1), .int .i64 (1 + (p2 : Int)), .int .i64 (p3 : Int), .string (valN p4)]) (by simp [results, Tryz.results26, go_sem, hw]) rfl ⟨rfl, ?_⟩
             repeat first | exact zad _ _ | refine zbc ?_ | refine zaT ?_ (by simp <;> omega) _
           exact AllReadyH.nil
         exact AllReadyH.nil
       exact AllReadyH.nil
     refine AllReadyH.cons rfl (fun K hK => ?_) ?_
     · skip
       go_simp
       refine kp (hK.out _ _) (fun hS1 => ?_)
       clear hHeld hK K
       refine wpAnyH_more (F := fun w' => w'.cell? ⟨w.heap.size + 1 + 1, p4, none⟩ = some (.string (valN p4))) hS1 (fun hHeld => ?_)
       clear hS1
       refine wpAnyH_ready (rs := [0, 12]) (by kernel_rfl) (by simp) ?_
       refine AllReadyH.cons rfl (fun K hK => ?_) ?_
       · skip
         go_simp
         refine kp (hK.out _ _) (fun hS1 => ?_)
         clear hHeld hK K
         refine wpAnyH_more (F := fun w' => w'.cell? ⟨w.heap.size + 1 + 1 + 1, p1, none⟩ = some (.string (keyN p1))) hS1 (fun hHeld => ?_)
         clear hS1
         refine wpAnyH_tk 4 (h := ?_)
         refine wpAnyH_tk 5 (h := ?_)
         refine wpAnyH_ready (rs := [12]) (by kernel_rfl) (by simp) ?_
         refine AllReadyH.cons rfl (fun K hK => ?_) ?_
         · skip
           go_simp
           go_wp2_with (go_at_call 24; refine (HP3.out _).mono ?_; rintro e w' ⟨rfl, rfl⟩)
           refine hK.out _ _ (by assumption) (fun hS1 => ?_)
           clear hS1 hK K
           refine wpAnyH_ready (rs := [16]) (by kernel_rfl) (by simp) ?_
           refine AllReadyH.cons rfl (fun K hK => ?_) ?_
           · skip
             go_simp
             go_wp2_with (go_at_call 24; refine (HP4.out _).mono ?_; rintro e w' ⟨rfl, rfl⟩)
             refine hK.out _ _ (by assumption) (fun hS1 => ?_)
             clear hS1 hK K
             refine wpAnyH_tk 17 (h := ?_)
             refine wpAnyH_tk 18 (h := ?_)
             refine wpAnyH_tk 19 (h := ?_)
             refine wpAnyH_ready (rs := [20]) (by kernel_rfl) (by simp) ?_
             refine AllReadyH.cons rfl (fun K hK => ?_) AllReadyH.nil
             go_simp
             refine kp (hK.out _ _) (fun hS1 => ?_)
             clear hS1 hK K hHeld
             refine wpAnyH_done (by kernel_rfl) ?_ _
             go_wp2_with fail
             refine bodyPost_ret (v := .agg #[.string (keyN p1), .int .i64 (1 + (p2 : Int)), .int .i64 (p3 : Int), .string (valN p4)]) (by simp [results, Tryz.results26, go_sem, hw]) rfl ⟨rfl, ?_⟩
             repeat first | exact zad _ _ | refine zbc ?_ | refine zaT ?_ (by simp <;> omega) _
           exact AllReadyH.nil
         exact AllReadyH.nil
       refine AllReadyH.cons rfl (fun K hK => ?_) ?_
       · skip
         go_simp
         go_wp2_with (go_at_call 24; refine (HP3.out _).mono ?_; rintro e w' ⟨rfl, rfl⟩)
         refine hK.out _ _ (by assumption) (fun hS1 => ?_)
         clear hS1 hK K
         refine wpAnyH_ready (rs := [0, 16]) (by kernel_rfl) (by simp) ?_
         refine AllReadyH.cons rfl (fun K hK => ?_) ?_
         · skip
           go_simp
           refine kp (hK.out _ _) (fun hS1 => ?_)
           clear hHeld hK K
           refine wpAnyH_more (F := fun w' => w'.cell? ⟨w.heap.size + 1 + 1 + 1, p1, none⟩ = some (.string (keyN p1))) hS1 (fun hHeld => ?_)
           clear hS1
           refine wpAnyH_tk 4 (h := ?_)
           refine wpAnyH_tk 5 (h := ?_)
           refine wpAnyH_ready (rs := [16]) (by kernel_rfl) (by simp) ?_
           refine AllReadyH.cons rfl (fun K hK => ?_) ?_
           · skip
             go_simp
             go_wp2_with (go_at_call 24; refine (HP4.out _).mono ?_; rintro e w' ⟨rfl, rfl⟩)
             refine hK.out _ _ (by assumption) (fun hS1 => ?_)
             clear hS1 hK K
             refine wpAnyH_tk 17 (h := ?_)
             refine wpAnyH_tk 18 (h := ?_)
             refine wpAnyH_tk 19 (h := ?_)
             refine wpAnyH_ready (rs := [20]) (by kernel_rfl) (by simp) ?_
             refine AllReadyH.cons rfl (fun K hK => ?_) AllReadyH.nil
             go_simp
             refine kp (hK.out _ _) (fun hS1 => ?_)
             clear hS1 hK K hHeld
             refine wpAnyH_done (by kernel_rfl) ?_ _
             go_wp2_with fail
             refine bodyPost_ret (v := .agg #[.string (keyN p1), .int .i64 (1 + (p2 : Int)), .int .i64 (p3 : Int), .string (valN p4)]) (by simp [results, Tryz.results26, go_sem, hw]) rfl ⟨rfl, ?_⟩
             repeat first | exact zad _ _ | refine zbc ?_ | refine zaT ?_ (by simp <;> omega) _
           exact AllReadyH.nil
         refine AllReadyH.cons rfl (fun K hK => ?_) ?_
         · skip
           go_simp
           go_wp2_with (go_at_call 24; refine (HP4.out _).mono ?_; rintro e w' ⟨rfl, rfl⟩)
           refine hK.out _ _ (by assumption) (fun hS1 => ?_)
           clear hS1 hK K
           refine wpAnyH_tk 17 (h := ?_)
           refine wpAnyH_tk 18 (h := ?_)
           refine wpAnyH_ready (rs := [0]) (by kernel_rfl) (by simp) ?_
           refine AllReadyH.cons rfl (fun K hK => ?_) ?_
           · skip
             go_simp
             refine kp (hK.out _ _) (fun hS1 => ?_)
             clear hHeld hK K
             refine wpAnyH_more (F := fun w' => w'.cell? ⟨w.heap.size + 1 + 1 + 1, p1, none⟩ = some (.string (keyN p1))) hS1 (fun hHeld => ?_)
             clear hS1
             refine wpAnyH_tk 4 (h := ?_)
             refine wpAnyH_tk 5 (h := ?_)
             refine wpAnyH_tk 19 (h := ?_)
             refine wpAnyH_ready (rs := [20]) (by kernel_rfl) (by simp) ?_
             refine AllReadyH.cons rfl (fun K hK => ?_) AllReadyH.nil
             go_simp
             refine kp (hK.out _ _) (fun hS1 => ?_)
             clear hS1 hK K hHeld
             refine wpAnyH_done (by kernel_rfl) ?_ _
             go_wp2_with fail
             refine bodyPost_ret (v := .agg #[.string (keyN p1), .int .i64 (1 + (p2 : Int)), .int .i64 (p3 : Int), .string (valN p4)]) (by simp [results, Tryz.results26, go_sem, hw]) rfl ⟨rfl, ?_⟩
             repeat first | exact zad _ _ | refine zbc ?_ | refine zaT ?_ (by simp <;> omega) _
           exact AllReadyH.nil
         exact AllReadyH.nil
       exact AllReadyH.nil
     exact AllReadyH.nil
   refine AllReadyH.cons rfl (fun K hK => ?_) ?_
   · skip
     go_simp
     refine kp (hK.out _ _) (fun hS1 => ?_)
     clear hHeld hK K
     refine wpAnyH_more (F := fun w' => w'.cell? ⟨w.heap.size + 1 + 1, p4, none⟩ = some (.string (valN p4))) hS1 (fun hHeld => ?_)
     clear hS1
     refine wpAnyH_ready (rs := [0, 8]) (by kernel_rfl) (by simp) ?_
     refine AllReadyH.cons rfl (fun K hK => ?_) ?_
     · skip
       go_simp
       refine kp (hK.out _ _) (fun hS1 => ?_)
       clear hHeld hK K
       refine wpAnyH_more (F := fun w' => w'.cell? ⟨w.heap.size + 1 + 1 + 1, p1, none⟩ = some (.string (keyN p1))) hS1 (fun hHeld => ?_)
       clear hS1
       refine wpAnyH_tk 4 (h := ?_)
       refine wpAnyH_tk 5 (h := ?_)
       refine wpAnyH_ready (rs := [8]) (by kernel_rfl) (by simp) ?_
       refine AllReadyH.cons rfl (fun K hK => ?_) ?_
       · skip
         go_simp
         go_wp2_with (go_at_call 24; refine (HP2.out _).mono ?_; rintro e w' ⟨rfl, rfl⟩)
         refine hK.out _ _ (by assumption) (fun hS1 => ?_)
         clear hS1 hK K
         refine wpAnyH_tk 9 (h := ?_)
         refine wpAnyH_ready (rs := [12]) (by kernel_rfl) (by simp) ?_
         refine AllReadyH.cons rfl (fun K hK => ?_) ?_
         · skip
           go_simp
           go_wp2_with (go_at_call 24; refine (HP3.out _).mono ?_; rintro e w' ⟨rfl, rfl⟩)
           refine hK.out _ _ (by assumption) (fun hS1 => ?_)
           clear hS1 hK K
           refine wpAnyH_ready (rs := [16]) (by kernel_rfl) (by simp) ?_
           refine AllReadyH.cons rfl (fun K hK => ?_) ?_
           · skip
             go_simp
             go_wp2_with (go_at_call 24; refine (HP4.out _).mono ?_; rintro e w' ⟨rfl, rfl⟩)
             refine hK.out _ _ (by assumption) (fun hS1 => ?_)
             clear hS1 hK K
             refine wpAnyH_tk 17 (h := ?_)
             refine wpAnyH_tk 18 (h := ?_)
             refine wpAnyH_tk 19 (h := ?_)
             refine wpAnyH_ready (rs := [20]) (by kernel_rfl) (by simp) ?_
             refine AllReadyH.cons rfl (fun K hK => ?_) AllReadyH.nil
             go_simp
             refine kp (hK.out _ _) (fun hS1 => ?_)
             clear hS1 hK K hHeld
             refine wpAnyH_done (by kernel_rfl) ?_ _
             go_wp2_with fail
             refine bodyPost_ret (v := .agg #[.string (keyN p1), .int .i64 (1 + (p2 : Int)), .int .i64 (p3 : Int), .string (valN p4)]) (by simp [results, Tryz.results26, go_sem, hw]) rfl ⟨rfl, ?_⟩
             repeat first | exact zad _ _ | refine zbc ?_ | refine zaT ?_ (by simp <;> omega) _
           exact AllReadyH.nil
         exact AllReadyH.nil
       exact AllReadyH.nil
     refine AllReadyH.cons rfl (fun K hK => ?_) ?_
     · skip
       go_simp
       go_wp2_with (go_at_call 24; refine (HP2.out _).mono ?_; rintro e w' ⟨rfl, rfl⟩)
       refine hK.out _ _ (by assumption) (fun hS1 => ?_)
       clear hS1 hK K
       refine wpAnyH_tk 9 (h := ?_)
       refine wpAnyH_ready (rs := [0, 12]) (by kernel_rfl) (by simp) ?_
       refine AllReadyH.cons rfl (fun K hK => ?_) ?_
       · skip
         go_simp
         refine kp (hK.out _ _) (fun hS1 => ?_)
         clear hHeld hK K
         refine wpAnyH_more (F := fun w' => w'.cell? ⟨w.heap.size + 1 + 1 + 1, p1, none⟩ = some (.string (keyN p1))) hS1 (fun hHeld => ?_)
         clear hS1
         refine wpAnyH_tk 4 (h := ?_)
         refine wpAnyH_tk 5 (h := ?_)
         refine wpAnyH_ready (rs := [12]) (by kernel_rfl) (by simp) ?_
         refine AllReadyH.cons rfl (fun K hK => ?_) ?_
         · skip
           go_simp
           go_wp2_with (go_at_call 24; refine (HP3.out _).mono ?_; rintro e w' ⟨rfl, rfl⟩)
           refine hK.out _ _ (by assumption) (fun hS1 => ?_)
           clear hS1 hK K
           refine wpAnyH_ready (rs := [16]) (by kernel_rfl) (by simp) ?_
           refine AllReadyH.cons rfl (fun K hK => ?_) ?_
           · skip
             go_simp
             go_wp2_with (go_at_call 24; refine (HP4.out _).mono ?_; rintro e w' ⟨rfl, rfl⟩)
             refine hK.out _ _ (by assumption) (fun hS1 => ?_)
             clear hS1 hK K
             refine wpAnyH_tk 17 (h := ?_)
             refine wpAnyH_tk 18 (h := ?_)
             refine wpAnyH_tk 19 (h := ?_)
             refine wpAnyH_ready (rs := [20]) (by kernel_rfl) (by simp) ?_
             refine AllReadyH.cons rfl (fun K hK => ?_) AllReadyH.nil
             go_simp
             refine kp (hK.out _ _) (fun hS1 => ?_)
             clear hS1 hK K hHeld
             refine wpAnyH_done (by kernel_rfl) ?_ _
             go_wp2_with fail
             refine bodyPost_ret (v := .agg #[.string (keyN p1), .int .i64 (1 + (p2 : Int)), .int .i64 (p3 : Int), .string (valN p4)]) (by simp [results, Tryz.results26, go_sem, hw]) rfl ⟨rfl, ?_⟩
             repeat first | exact zad _ _ | refine zbc ?_ | refine zaT ?_ (by simp <;> omega) _
           exact AllReadyH.nil
         exact AllReadyH.nil
       refine AllReadyH.cons rfl (fun K hK => ?_) ?_
       · skip
         go_simp
         go_wp2_with (go_at_call 24; refine (HP3.out _).mono ?_; rintro e w' ⟨rfl, rfl⟩)
         refine hK.out _ _ (by assumption) (fun hS1 => ?_)
         clear hS1 hK K
         refine wpAnyH_ready (rs := [0, 16]) (by kernel_rfl) (by simp) ?_
         refine AllReadyH.cons rfl (fun K hK => ?_) ?_
         · skip
           go_simp
           refine kp (hK.out _ _) (fun hS1 => ?_)
           clear hHeld hK K
           refine wpAnyH_more (F := fun w' => w'.cell? ⟨w.heap.size + 1 + 1 + 1, p1, none⟩ = some (.string (keyN p1))) hS1 (fun hHeld => ?_)
           clear hS1
           refine wpAnyH_tk 4 (h := ?_)
           refine wpAnyH_tk 5 (h := ?_)
           refine wpAnyH_ready (rs := [16]) (by kernel_rfl) (by simp) ?_
           refine AllReadyH.cons rfl (fun K hK => ?_) ?_
           · skip
             go_simp
             go_wp2_with (go_at_call 24; refine (HP4.out _).mono ?_; rintro e w' ⟨rfl, rfl⟩)
             refine hK.out _ _ (by assumption) (fun hS1 => ?_)
             clear hS1 hK K
             refine wpAnyH_tk 17 (h := ?_)
             refine wpAnyH_tk 18 (h := ?_)
             refine wpAnyH_tk 19 (h := ?_)
             refine wpAnyH_ready (rs := [20]) (by kernel_rfl) (by simp) ?_
             refine AllReadyH.cons rfl (fun K hK => ?_) AllReadyH.nil
             go_simp
             refine kp (hK.out _ _) (fun hS1 => ?_)
             clear hS1 hK K hHeld
             refine wpAnyH_done (by kernel_rfl) ?_ _
             go_wp2_with fail
             refine bodyPost_ret (v := .agg #[.string (keyN p1), .int .i64 (1 + (p2 : Int)), .int .i64 (p3 : Int), .string (valN p4)]) (by simp [results, Tryz.results26, go_sem, hw]) rfl ⟨rfl, ?_⟩
             repeat first | exact zad _ _ | refine zbc ?_ | refine zaT ?_ (by simp <;> omega) _
           exact AllReadyH.nil
         refine AllReadyH.cons rfl (fun K hK => ?_) ?_
         · skip
           go_simp
           go_wp2_with (go_at_call 24; refine (HP4.out _).mono ?_; rintro e w' ⟨rfl, rfl⟩)
           refine hK.out _ _ (by assumption) (fun hS1 => ?_)
           clear hS1 hK K
           refine wpAnyH_tk 17 (h := ?_)
           refine wpAnyH_tk 18 (h := ?_)
           refine wpAnyH_ready (rs := [0]) (by kernel_rfl) (by simp) ?_
           refine AllReadyH.cons rfl (fun K hK => ?_) ?_
           · skip
             go_simp
             refine kp (hK.out _ _) (fun hS1 => ?_)
             clear hHeld hK K
             refine wpAnyH_more (F := fun w' => w'.cell? ⟨w.heap.size + 1 + 1 + 1, p1, none⟩ = some (.string (keyN p1))) hS1 (fun hHeld => ?_)
             clear hS1
             refine wpAnyH_tk 4 (h := ?_)
             refine wpAnyH_tk 5 (h := ?_)
             refine wpAnyH_tk 19 (h := ?_)
             refine wpAnyH_ready (rs := [20]) (by kernel_rfl) (by simp) ?_
             refine AllReadyH.cons rfl (fun K hK => ?_) AllReadyH.nil
             go_simp
             refine kp (hK.out _ _) (fun hS1 => ?_)
             clear hS1 hK K hHeld
             refine wpAnyH_done (by kernel_rfl) ?_ _
             go_wp2_with fail
             refine bodyPost_ret (v := .agg #[.string (keyN p1), .int .i64 (1 + (p2 : Int)), .int .i64 (p3 : Int), .string (valN p4)]) (by simp [results, Tryz.results26, go_sem, hw]) rfl ⟨rfl, ?_⟩
             repeat first | exact zad _ _ | refine zbc ?_ | refine zaT ?_ (by simp <;> omega) _
           exact AllReadyH.nil
         exact AllReadyH.nil
       exact AllReadyH.nil
     exact AllReadyH.nil
   exact AllReadyH.nil
 refine AllReadyH.cons rfl (fun K hK => ?_) ?_
 · skip
   go_simp
   refine kp (hK.out _ _) (fun hS1 => ?_)
   clear hHeld hK K
   refine wpAnyH_more (F := fun w' => w'.cell? ⟨w.heap.size + 1 + 1, p4, none⟩ = some (.string (valN p4))) hS1 (fun hHeld => ?_)
   clear hS1
   refine wpAnyH_ready (rs := [0, 3]) (by kernel_rfl) (by simp) ?_
   refine AllReadyH.cons rfl (fun K hK => ?_) ?_
   · skip
     go_simp
     refine kp (hK.out _ _) (fun hS1 => ?_)
     clear hHeld hK K
     refine wpAnyH_more (F := fun w' => w'.cell? ⟨w.heap.size + 1 + 1 + 1, p1, none⟩ = some (.string (keyN p1))) hS1 (fun hHeld => ?_)
     clear hS1
     refine wpAnyH_ready (rs := [3]) (by kernel_rfl) (by simp) ?_
     refine AllReadyH.cons rfl (fun K hK => ?_) ?_
     · skip
       go_simp
       go_wp2_with (go_at_call 24; refine (HP1.out _).mono ?_; rintro e w' ⟨rfl, rfl⟩)
       refine hK.out _ _ (by assumption) (fun hS1 => ?_)
       clear hS1 hK K
       refine wpAnyH_tk 4 (h := ?_)
       refine wpAnyH_tk 5 (h := ?_)
       refine wpAnyH_ready (rs := [8]) (by kernel_rfl) (by simp) ?_
       refine AllReadyH.cons rfl (fun K hK => ?_) ?_
       · skip
         go_simp
         go_wp2_with (go_at_call 24; refine (HP2.out _).mono ?_; rintro e w' ⟨rfl, rfl⟩)
         refine hK.out _ _ (by assumption) (fun hS1 => ?_)
         clear hS1 hK K
         refine wpAnyH_tk 9 (h := ?_)
         refine wpAnyH_ready (rs := [12]) (by kernel_rfl) (by simp) ?_
         refine AllReadyH.cons rfl (fun K hK => ?_) ?_
         · skip
           go_simp
           go_wp2_with (go_at_call 24; refine (HP3.out _).mono ?_; rintro e w' ⟨rfl, rfl⟩)
           refine hK.out _ _ (by assumption) (fun hS1 => ?_)
           clear hS1 hK K
           refine wpAnyH_ready (rs := [16]) (by kernel_rfl) (by simp) ?_
           refine AllReadyH.cons rfl (fun K hK => ?_) ?_
           · skip
             go_simp
             go_wp2_with (go_at_call 24; refine (HP4.out _).mono ?_; rintro e w' ⟨rfl, rfl⟩)
             refine hK.out _ _ (by assumption) (fun hS1 => ?_)
             clear hS1 hK K
             refine wpAnyH_tk 17 (h := ?_)
             refine wpAnyH_tk 18 (h := ?_)
             refine wpAnyH_tk 19 (h := ?_)
             refine wpAnyH_ready (rs := [20]) (by kernel_rfl) (by simp) ?_
             refine AllReadyH.cons rfl (fun K hK => ?_) AllReadyH.nil
             go_simp
             refine kp (hK.out _ _) (fun hS1 => ?_)
             clear hS1 hK K hHeld
             refine wpAnyH_done (by kernel_rfl) ?_ _
             go_wp2_with fail
             refine bodyPost_ret (v := .agg #[.string (keyN p1), .int .i64 (1 + (p2 : Int)), .int .i64 (p3 : Int), .string (valN p4)]) (by simp [results, Tryz.results26, go_sem, hw]) rfl ⟨rfl, ?_⟩
             repeat first | exact zad _ _ | refine zbc ?_ | refine zaT ?_ (by simp <;> omega) _
           exact AllReadyH.nil
         exact AllReadyH.nil
       exact AllReadyH.nil
     exact AllReadyH.nil
   refine AllReadyH.cons rfl (fun K hK => ?_) ?_
   · skip
     go_simp
     go_wp2_with (go_at_call 24; refine (HP1.out _).mono ?_; rintro e w' ⟨rfl, rfl⟩)
     refine hK.out _ _ (by assumption) (fun hS1 => ?_)
     clear hS1 hK K
     refine wpAnyH_ready (rs := [0, 8]) (by kernel_rfl) (by simp) ?_
     refine AllReadyH.cons rfl (fun K hK => ?_) ?_
     · skip
       go_simp
       refine kp (hK.out _ _) (fun hS1 => ?_)
       clear hHeld hK K
       refine wpAnyH_more (F := fun w' => w'.cell? ⟨w.heap.size + 1 + 1 + 1, p1, none⟩ = some (.string (keyN p1))) hS1 (fun hHeld => ?_)
       clear hS1
       refine wpAnyH_tk 4 (h := ?_)
       refine wpAnyH_tk 5 (h := ?_)
       refine wpAnyH_ready (rs := [8]) (by kernel_rfl) (by simp) ?_
       refine AllReadyH.cons rfl (fun K hK => ?_) ?_
       · skip
         go_simp
         go_wp2_with (go_at_call 24; refine (HP2.out _).mono ?_; rintro e w' ⟨rfl, rfl⟩)
         refine hK.out _ _ (by assumption) (fun hS1 => ?_)
         clear hS1 hK K
         refine wpAnyH_tk 9 (h := ?_)
         refine wpAnyH_ready (rs := [12]) (by kernel_rfl) (by simp) ?_
         refine AllReadyH.cons rfl (fun K hK => ?_) ?_
         · skip
           go_simp
           go_wp2_with (go_at_call 24; refine (HP3.out _).mono ?_; rintro e w' ⟨rfl, rfl⟩)
           refine hK.out _ _ (by assumption) (fun hS1 => ?_)
           clear hS1 hK K
           refine wpAnyH_ready (rs := [16]) (by kernel_rfl) (by simp) ?_
           refine AllReadyH.cons rfl (fun K hK => ?_) ?_
           · skip
             go_simp
             go_wp2_with (go_at_call 24; refine (HP4.out _).mono ?_; rintro e w' ⟨rfl, rfl⟩)
             refine hK.out _ _ (by assumption) (fun hS1 => ?_)
             clear hS1 hK K
             refine wpAnyH_tk 17 (h := ?_)
             refine wpAnyH_tk 18 (h := ?_)
             refine wpAnyH_tk 19 (h := ?_)
             refine wpAnyH_ready (rs := [20]) (by kernel_rfl) (by simp) ?_
             refine AllReadyH.cons rfl (fun K hK => ?_) AllReadyH.nil
             go_simp
             refine kp (hK.out _ _) (fun hS1 => ?_)
             clear hS1 hK K hHeld
             refine wpAnyH_done (by kernel_rfl) ?_ _
             go_wp2_with fail
             refine bodyPost_ret (v := .agg #[.string (keyN p1), .int .i64 (1 + (p2 : Int)), .int .i64 (p3 : Int), .string (valN p4)]) (by simp [results, Tryz.results26, go_sem, hw]) rfl ⟨rfl, ?_⟩
             repeat first | exact zad _ _ | refine zbc ?_ | refine zaT ?_ (by simp <;> omega) _
           exact AllReadyH.nil
         exact AllReadyH.nil
       exact AllReadyH.nil
     refine AllReadyH.cons rfl (fun K hK => ?_) ?_
     · skip
       go_simp
       go_wp2_with (go_at_call 24; refine (HP2.out _).mono ?_; rintro e w' ⟨rfl, rfl⟩)
       refine hK.out _ _ (by assumption) (fun hS1 => ?_)
       clear hS1 hK K
       refine wpAnyH_tk 9 (h := ?_)
       refine wpAnyH_ready (rs := [0, 12]) (by kernel_rfl) (by simp) ?_
       refine AllReadyH.cons rfl (fun K hK => ?_) ?_
       · skip
         go_simp
         refine kp (hK.out _ _) (fun hS1 => ?_)
         clear hHeld hK K
         refine wpAnyH_more (F := fun w' => w'.cell? ⟨w.heap.size + 1 + 1 + 1, p1, none⟩ = some (.string (keyN p1))) hS1 (fun hHeld => ?_)
         clear hS1
         refine wpAnyH_tk 4 (h := ?_)
         refine wpAnyH_tk 5 (h := ?_)
         refine wpAnyH_ready (rs := [12]) (by kernel_rfl) (by simp) ?_
         refine AllReadyH.cons rfl (fun K hK => ?_) ?_
         · skip
           go_simp
           go_wp2_with (go_at_call 24; refine (HP3.out _).mono ?_; rintro e w' ⟨rfl, rfl⟩)
           refine hK.out _ _ (by assumption) (fun hS1 => ?_)
           clear hS1 hK K
           refine wpAnyH_ready (rs := [16]) (by kernel_rfl) (by simp) ?_
           refine AllReadyH.cons rfl (fun K hK => ?_) ?_
           · skip
             go_simp
             go_wp2_with (go_at_call 24; refine (HP4.out _).mono ?_; rintro e w' ⟨rfl, rfl⟩)
             refine hK.out _ _ (by assumption) (fun hS1 => ?_)
             clear hS1 hK K
             refine wpAnyH_tk 17 (h := ?_)
             refine wpAnyH_tk 18 (h := ?_)
             refine wpAnyH_tk 19 (h := ?_)
             refine wpAnyH_ready (rs := [20]) (by kernel_rfl) (by simp) ?_
             refine AllReadyH.cons rfl (fun K hK => ?_) AllReadyH.nil
             go_simp
             refine kp (hK.out _ _) (fun hS1 => ?_)
             clear hS1 hK K hHeld
             refine wpAnyH_done (by kernel_rfl) ?_ _
             go_wp2_with fail
             refine bodyPost_ret (v := .agg #[.string (keyN p1), .int .i64 (1 + (p2 : Int)), .int .i64 (p3 : Int), .string (valN p4)]) (by simp [results, Tryz.results26, go_sem, hw]) rfl ⟨rfl, ?_⟩
             repeat first | exact zad _ _ | refine zbc ?_ | refine zaT ?_ (by simp <;> omega) _
           exact AllReadyH.nil
         exact AllReadyH.nil
       refine AllReadyH.cons rfl (fun K hK => ?_) ?_
       · skip
         go_simp
         go_wp2_with (go_at_call 24; refine (HP3.out _).mono ?_; rintro e w' ⟨rfl, rfl⟩)
         refine hK.out _ _ (by assumption) (fun hS1 => ?_)
         clear hS1 hK K
         refine wpAnyH_ready (rs := [0, 16]) (by kernel_rfl) (by simp) ?_
         refine AllReadyH.cons rfl (fun K hK => ?_) ?_
         · skip
           go_simp
           refine kp (hK.out _ _) (fun hS1 => ?_)
           clear hHeld hK K
           refine wpAnyH_more (F := fun w' => w'.cell? ⟨w.heap.size + 1 + 1 + 1, p1, none⟩ = some (.string (keyN p1))) hS1 (fun hHeld => ?_)
           clear hS1
           refine wpAnyH_tk 4 (h := ?_)
           refine wpAnyH_tk 5 (h := ?_)
           refine wpAnyH_ready (rs := [16]) (by kernel_rfl) (by simp) ?_
           refine AllReadyH.cons rfl (fun K hK => ?_) ?_
           · skip
             go_simp
             go_wp2_with (go_at_call 24; refine (HP4.out _).mono ?_; rintro e w' ⟨rfl, rfl⟩)
             refine hK.out _ _ (by assumption) (fun hS1 => ?_)
             clear hS1 hK K
             refine wpAnyH_tk 17 (h := ?_)
             refine wpAnyH_tk 18 (h := ?_)
             refine wpAnyH_tk 19 (h := ?_)
             refine wpAnyH_ready (rs := [20]) (by kernel_rfl) (by simp) ?_
             refine AllReadyH.cons rfl (fun K hK => ?_) AllReadyH.nil
             go_simp
             refine kp (hK.out _ _) (fun hS1 => ?_)
             clear hS1 hK K hHeld
             refine wpAnyH_done (by kernel_rfl) ?_ _
             go_wp2_with fail
             refine bodyPost_ret (v := .agg #[.string (keyN p1), .int .i64 (1 + (p2 : Int)), .int .i64 (p3 : Int), .string (valN p4)]) (by simp [results, Tryz.results26, go_sem, hw]) rfl ⟨rfl, ?_⟩
             repeat first | exact zad _ _ | refine zbc ?_ | refine zaT ?_ (by simp <;> omega) _
           exact AllReadyH.nil
         refine AllReadyH.cons rfl (fun K hK => ?_) ?_
         · skip
           go_simp
           go_wp2_with (go_at_call 24; refine (HP4.out _).mono ?_; rintro e w' ⟨rfl, rfl⟩)
           refine hK.out _ _ (by assumption) (fun hS1 => ?_)
           clear hS1 hK K
           refine wpAnyH_tk 17 (h := ?_)
           refine wpAnyH_tk 18 (h := ?_)
           refine wpAnyH_ready (rs := [0]) (by kernel_rfl) (by simp) ?_
           refine AllReadyH.cons rfl (fun K hK => ?_) ?_
           · skip
             go_simp
             refine kp (hK.out _ _) (fun hS1 => ?_)
             clear hHeld hK K
             refine wpAnyH_more (F := fun w' => w'.cell? ⟨w.heap.size + 1 + 1 + 1, p1, none⟩ = some (.string (keyN p1))) hS1 (fun hHeld => ?_)
             clear hS1
             refine wpAnyH_tk 4 (h := ?_)
             refine wpAnyH_tk 5 (h := ?_)
             refine wpAnyH_tk 19 (h := ?_)
             refine wpAnyH_ready (rs := [20]) (by kernel_rfl) (by simp) ?_
             refine AllReadyH.cons rfl (fun K hK => ?_) AllReadyH.nil
             go_simp
             refine kp (hK.out _ _) (fun hS1 => ?_)
             clear hS1 hK K hHeld
             refine wpAnyH_done (by kernel_rfl) ?_ _
             go_wp2_with fail
             refine bodyPost_ret (v := .agg #[.string (keyN p1), .int .i64 (1 + (p2 : Int)), .int .i64 (p3 : Int), .string (valN p4)]) (by simp [results, Tryz.results26, go_sem, hw]) rfl ⟨rfl, ?_⟩
             repeat first | exact zad _ _ | refine zbc ?_ | refine zaT ?_ (by simp <;> omega) _
           exact AllReadyH.nil
         exact AllReadyH.nil
       exact AllReadyH.nil
     exact AllReadyH.nil
   exact AllReadyH.nil
 exact AllReadyH.nil
end Go.Proofs.YtojojpjldkpmoaaGreatDoor
