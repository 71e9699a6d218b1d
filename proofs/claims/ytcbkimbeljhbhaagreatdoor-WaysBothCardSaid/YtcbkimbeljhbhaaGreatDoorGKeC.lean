/-
  Walks of package tollbarkeep, part B: Entry (a region that draws its order, with two allocations and four calls: 30 ways).
  What Decode computes, and that it is Encode's other side: plain lemmas, no program in sight.
  Walks of package tollbarkeep, part C: Store, merged, StoreTells.
-/
import Derived.Test.YtcbkimbeljhbhaaGreatDoorGKeO
import Derived.Deep.RegionHeld
import Derived.Test.YtcbkimbeljhbhaaGreatDoorGStG
import Derived.Test.YtcbkimbeljhbhaaGreatDoorGKmC
set_option linter.unusedVariables false
set_option linter.unusedSimpArgs false
namespace Go.Proofs.YtcbkimbeljhbhaaGreatDoor
open Go.RowKit Go.Deep

/-- what is held through a region may be more from here on -/
theorem wpAnyH_mono' {P : Program} {ops : Array Oper} {Q : Exit → Act → World → Prop} {md : Region.Mode} {S S' : World → Prop} (hs : ∀ w, S' w → S w) :
    ∀ (fuel : Nat) (listed : Array Bool) (a : Act) (w : World), wpAnyH P md ops Q S' fuel listed a w → wpAnyH P md ops Q S fuel listed a w
  | 0, _, _, _, h => h
  | fuel + 1, _, _, _, h => ⟨h.1, fun i hi => wpOp_mono (fun a' w' h' => ⟨hs _ h'.1, wpAnyH_mono' hs fuel _ a' w' h'.2⟩) (h.2 i hi)⟩
theorem wpAnyH_more {P : Program} {ops : Array Oper} {Q : Exit → Act → World → Prop} {md : Region.Mode} {S F : World → Prop} {fuel : Nat} {listed : Array Bool} {a : Act} {w : World} (hS : S w) (hF : F w)
    (h : (S w ∧ F w) → wpAnyH P md ops Q (fun w' => S w' ∧ F w') fuel listed a w) : wpAnyH P md ops Q S fuel listed a w :=
  wpAnyH_mono' (fun _ h => h.1) _ _ _ _ (h ⟨hS, hF⟩)

theorem c_lt {W : World} {o : Obj} {b p : Nat} (h : b < W.heap.size) : (W.alloc o).cell? ⟨b, p, none⟩ = W.cell? ⟨b, p, none⟩ := World.cell?_alloc_lt _ _ _ h
set_option maxRecDepth 100000 in
set_option maxHeartbeats 4000000 in
theorem entryE_any (r : Raw) (w : World) (h1 : inR r.kind) (h2 : inR r.a) (h3 : inR r.b) (h4 : inR r.c) :
    Calls Tryz.prog 78 #[.agg #[.int .i64 r.kind, .int .i64 r.a, .int .i64 r.b, .int .i64 r.c]] w fun e w' => e = .returned (rawE r).val ∧ Below w.heap.size w w' := by
  obtain ⟨r1, r2, r3, r4⟩ := r
  simp only at h1 h2 h3 h4 ⊢
  have HP1 := Go.Lib.hid (fun w' => picked_q r1 6 w' h1 (by omega) (by omega))
  have HP2 := Go.Lib.hid (fun w' => picked_q r2 4 w' h2 (by omega) (by omega))
  have HP3 := Go.Lib.hid (fun w' => picked_q r3 3 w' h3 (by omega) (by omega))
  have HP4 := Go.Lib.hid (fun w' => picked_q r4 5 w' h4 (by omega) (by omega))
  have hl1 := pickN_lt r1 6 (by omega)
  have hl2 := pickN_lt r2 4 (by omega)
  have hl3 := pickN_lt r3 3 (by omega)
  have hl4 := pickN_lt r4 5 (by omega)
  unfold rawE Entry.val
  simp only
  obtain ⟨p1, hp1⟩ : ∃ p, pickN r1 6 = p := ⟨_, rfl⟩
  obtain ⟨p2, hp2⟩ : ∃ p, pickN r2 4 = p := ⟨_, rfl⟩
  obtain ⟨p3, hp3⟩ : ∃ p, pickN r3 3 = p := ⟨_, rfl⟩
  obtain ⟨p4, hp4⟩ : ∃ p, pickN r4 5 = p := ⟨_, rfl⟩
  rw [hp1] at HP1 hl1 ⊢
  rw [hp2] at HP2 hl2 ⊢
  rw [hp3] at HP3 hl3 ⊢
  rw [hp4] at HP4 hl4 ⊢
  have b1 : (0 : Int) ≤ (p1 : Int) := by omega
  have b1' : (p1 : Int) < 6 := by omega
  have b4 : (0 : Int) ≤ (p4 : Int) := by omega
  have b4' : (p4 : Int) < 5 := by omega
  have b2' : (p2 : Int) < 4 := by omega
  have b2 : (0 : Int) ≤ (p2 : Int) := by omega
  have k1 : ∀ k, k < 6 → #[Value.string ⟨#[97, 58, 49]⟩, .string ⟨#[97, 58, 50]⟩, .string ⟨#[112, 58, 49]⟩, .string ⟨#[120]⟩, .string ⟨#[121, 58, 122]⟩, .string ⟨#[107, 57]⟩][k]? = some (.string (keyN k)) := by
    intro k hk
    match k, hk with
    | 0, _ => rfl
    | 1, _ => rfl
    | 2, _ => rfl
    | 3, _ => rfl
    | 4, _ => rfl
    | 5, _ => rfl
    | k + 6, hk => omega
  have k4 : ∀ k, k < 5 → #[Value.string ⟨#[]⟩, .string ⟨#[118]⟩, .string ⟨#[119]⟩, .string ⟨#[49, 61, 53]⟩, .string ⟨#[49, 50, 56, 47, 49]⟩][k]? = some (.string (valN k)) := by
    intro k hk
    match k, hk with
    | 0, _ => rfl
    | 1, _ => rfl
    | 2, _ => rfl
    | 3, _ => rfl
    | 4, _ => rfl
    | k + 5, hk => omega
  have e1 := k1 p1 hl1
  have e4 := k4 p4 hl4
  have hw : IntKind.i64.wrap (1 + (p2 : Int)) = 1 + (p2 : Int) := by rw [IntKind.wrap_i64]; omega
  clear hp1 hp2 hp3 hp4 k1 k4 h1 h2 h3 h4
  go_enter Tryz.func78, Tryz.ntmps78
  go_wp2_with fail
  refine wp_region_held_drew (S := fun w' => w'.cell? ⟨w.heap.size, 0, none⟩ = some (.int .i64 r1) ∧ w'.cell? ⟨w.heap.size, 1, none⟩ = some (.int .i64 r2) ∧ w'.cell? ⟨w.heap.size, 2, none⟩ = some (.int .i64 r3) ∧ w'.cell? ⟨w.heap.size, 3, none⟩ = some (.int .i64 r4)) (by kernel_rfl) ?_ (fun hHeld => ?_)
  · go_keep
  refine wpAnyH_take (i := 1) (v := ?_) rfl (by kernel_rfl) (by kernel_rfl) (by kernel_rfl) (fun _ _ _ h => h) (Or.inl ⟨by rfl, ?_⟩) (by assumption) ?_
  rotate_left
  · (intro w hSw; (try dsimp only at hSw); go_simp) <;> with_reducible rfl
  try simp only [Act.put, List.setIfInBounds_toArray, List.set_cons_zero, List.set_cons_succ, List.getElem_toArray, List.getElem_cons_zero, List.getElem_cons_succ]
  refine wpAnyH_take (i := 2) (v := ?_) rfl (by kernel_rfl) (by kernel_rfl) (by kernel_rfl) (fun _ _ _ h => h) (Or.inl ⟨by rfl, ?_⟩) (by assumption) ?_
  rotate_left
  · (intro w hSw; (try dsimp only at hSw); go_simp) <;> with_reducible rfl
  try simp only [Act.put, List.setIfInBounds_toArray, List.set_cons_zero, List.set_cons_succ, List.getElem_toArray, List.getElem_cons_zero, List.getElem_cons_succ]
  refine wpAnyH_take (i := 6) (v := ?_) rfl (by kernel_rfl) (by kernel_rfl) (by kernel_rfl) (fun _ _ _ h => h) (Or.inl ⟨by rfl, ?_⟩) (by assumption) ?_
  rotate_left
  · (intro w hSw; (try dsimp only at hSw); go_simp) <;> with_reducible rfl
  try simp only [Act.put, List.setIfInBounds_toArray, List.set_cons_zero, List.set_cons_succ, List.getElem_toArray, List.getElem_cons_zero, List.getElem_cons_succ]
  refine wpAnyH_take (i := 7) (v := ?_) rfl (by kernel_rfl) (by kernel_rfl) (by kernel_rfl) (fun _ _ _ h => h) (Or.inl ⟨by rfl, ?_⟩) (by assumption) ?_
  rotate_left
  · (intro w hSw; (try dsimp only at hSw); go_simp) <;> with_reducible rfl
  try simp only [Act.put, List.setIfInBounds_toArray, List.set_cons_zero, List.set_cons_succ, List.getElem_toArray, List.getElem_cons_zero, List.getElem_cons_succ]
  refine wpAnyH_take (i := 10) (v := ?_) rfl (by kernel_rfl) (by kernel_rfl) (by kernel_rfl) (fun _ _ _ h => h) (Or.inl ⟨by rfl, ?_⟩) (by assumption) ?_
  rotate_left
  · (intro w hSw; (try dsimp only at hSw); go_simp) <;> with_reducible rfl
  try simp only [Act.put, List.setIfInBounds_toArray, List.set_cons_zero, List.set_cons_succ, List.getElem_toArray, List.getElem_cons_zero, List.getElem_cons_succ]
  refine wpAnyH_take (i := 11) (v := ?_) rfl (by kernel_rfl) (by kernel_rfl) (by kernel_rfl) (fun _ _ _ h => h) (Or.inl ⟨by rfl, ?_⟩) (by assumption) ?_
  rotate_left
  · (intro w hSw; (try dsimp only at hSw); go_simp) <;> with_reducible rfl
  try simp only [Act.put, List.setIfInBounds_toArray, List.set_cons_zero, List.set_cons_succ, List.getElem_toArray, List.getElem_cons_zero, List.getElem_cons_succ]
  refine wpAnyH_take (i := 14) (v := ?_) rfl (by kernel_rfl) (by kernel_rfl) (by kernel_rfl) (fun _ _ _ h => h) (Or.inl ⟨by rfl, ?_⟩) (by assumption) ?_
  rotate_left
  · (intro w hSw; (try dsimp only at hSw); go_simp) <;> with_reducible rfl
  try simp only [Act.put, List.setIfInBounds_toArray, List.set_cons_zero, List.set_cons_succ, List.getElem_toArray, List.getElem_cons_zero, List.getElem_cons_succ]
  refine wpAnyH_take (i := 15) (v := ?_) rfl (by kernel_rfl) (by kernel_rfl) (by kernel_rfl) (fun _ _ _ h => h) (Or.inl ⟨by rfl, ?_⟩) (by assumption) ?_
  rotate_left
  · (intro w hSw; (try dsimp only at hSw); go_simp) <;> with_reducible rfl
  try simp only [Act.put, List.setIfInBounds_toArray, List.set_cons_zero, List.set_cons_succ, List.getElem_toArray, List.getElem_cons_zero, List.getElem_cons_succ]
  refine wpAnyH_ready (rs := [0, 3, 13]) (by kernel_rfl) (by simp) ?_
  refine AllReadyH.cons rfl (fun K hK => ?_) ?_
  · skip
    go_simp
    refine hK.out _ _ ?_ (fun hS1 => ?_)
    · (try dsimp only); (try simp only [World.cell?_drew]); (repeat' apply And.intro) <;> (first | (rw [World.cell?_alloc_at _ _ _ _ (by simp)]; exact e1) | (rw [World.cell?_alloc_at _ _ _ _ (by simp)]; exact e4) | (rw [c_lt (by simp), World.cell?_alloc_at _ _ _ _ (by simp)]; exact e1) | (rw [c_lt (by simp), World.cell?_alloc_at _ _ _ _ (by simp)]; exact e4) | (go_keep; done))
    clear hHeld hK K
    refine wpAnyH_more (F := fun w' => w'.cell? ⟨w.heap.size + 1 + 1, p1, none⟩ = some (.string (keyN p1))) hS1 ?_ (fun hHeld => ?_)
    · simp only [World.cell?_drew]
      rw [World.cell?_alloc_at _ _ _ _ (by simp)]
      exact e1
    clear hS1
    try simp only [Act.put, List.setIfInBounds_toArray, List.set_cons_zero, List.set_cons_succ, List.getElem_toArray, List.getElem_cons_zero, List.getElem_cons_succ]
    refine wpAnyH_ready (rs := [3, 13]) (by kernel_rfl) (by simp) ?_
    refine AllReadyH.cons rfl (fun K hK => ?_) ?_
    · skip
      go_simp
      go_wp2_with (go_at_call 11; refine (HP1.out _).mono ?_; rintro e w' ⟨rfl, rfl⟩)
      refine hK.out _ _ (by assumption) (fun hS1 => ?_)
      clear hS1 hK K
      try simp only [Act.put, List.setIfInBounds_toArray, List.set_cons_zero, List.set_cons_succ, List.getElem_toArray, List.getElem_cons_zero, List.getElem_cons_succ]
      refine wpAnyH_take (i := 4) (v := ?_) rfl (by kernel_rfl) (by kernel_rfl) (by kernel_rfl) (fun _ _ _ h => h) (Or.inl ⟨by rfl, ?_⟩) (by assumption) ?_
      rotate_left
      · (intro w hSw; (try dsimp only at hSw); go_simp) <;> with_reducible rfl
      try simp only [Act.put, List.setIfInBounds_toArray, List.set_cons_zero, List.set_cons_succ, List.getElem_toArray, List.getElem_cons_zero, List.getElem_cons_succ]
      refine wpAnyH_take (i := 5) (v := ?_) rfl (by kernel_rfl) (by kernel_rfl) (by kernel_rfl) (fun _ _ _ h => h) (Or.inl ⟨by rfl, ?_⟩) (by assumption) ?_
      rotate_left
      · (intro w hSw; (try dsimp only at hSw); go_simp) <;> with_reducible rfl
      try simp only [Act.put, List.setIfInBounds_toArray, List.set_cons_zero, List.set_cons_succ, List.getElem_toArray, List.getElem_cons_zero, List.getElem_cons_succ]
      refine wpAnyH_ready (rs := [8, 13]) (by kernel_rfl) (by simp) ?_
      refine AllReadyH.cons rfl (fun K hK => ?_) ?_
      · skip
        go_simp
        go_wp2_with (go_at_call 11; refine (HP2.out _).mono ?_; rintro e w' ⟨rfl, rfl⟩)
        refine hK.out _ _ (by assumption) (fun hS1 => ?_)
        clear hS1 hK K
        try simp only [Act.put, List.setIfInBounds_toArray, List.set_cons_zero, List.set_cons_succ, List.getElem_toArray, List.getElem_cons_zero, List.getElem_cons_succ]
        refine wpAnyH_take (i := 9) (v := ?_) rfl (by kernel_rfl) (by kernel_rfl) (by kernel_rfl) (fun _ _ _ h => h) (Or.inl ⟨by rfl, ?_⟩) (by assumption) ?_
        rotate_left
        · (intro w hSw; (try dsimp only at hSw); go_simp) <;> with_reducible rfl
        try simp only [Act.put, List.setIfInBounds_toArray, List.set_cons_zero, List.set_cons_succ, List.getElem_toArray, List.getElem_cons_zero, List.getElem_cons_succ]
        refine wpAnyH_ready (rs := [12, 13]) (by kernel_rfl) (by simp) ?_
        refine AllReadyH.cons rfl (fun K hK => ?_) ?_
        · skip
          go_simp
          go_wp2_with (go_at_call 11; refine (HP3.out _).mono ?_; rintro e w' ⟨rfl, rfl⟩)
          refine hK.out _ _ (by assumption) (fun hS1 => ?_)
          clear hS1 hK K
          try simp only [Act.put, List.setIfInBounds_toArray, List.set_cons_zero, List.set_cons_succ, List.getElem_toArray, List.getElem_cons_zero, List.getElem_cons_succ]
          refine wpAnyH_ready (rs := [13, 16]) (by kernel_rfl) (by simp) ?_
          refine AllReadyH.cons rfl (fun K hK => ?_) ?_
          · skip
            go_simp
            refine hK.out _ _ ?_ (fun hS1 => ?_)
            · (try dsimp only); (try simp only [World.cell?_drew]); (repeat' apply And.intro) <;> (first | (rw [World.cell?_alloc_at _ _ _ _ (by simp)]; exact e1) | (rw [World.cell?_alloc_at _ _ _ _ (by simp)]; exact e4) | (rw [c_lt (by simp), World.cell?_alloc_at _ _ _ _ (by simp)]; exact e1) | (rw [c_lt (by simp), World.cell?_alloc_at _ _ _ _ (by simp)]; exact e4) | (go_keep; done))
            clear hHeld hK K
            refine wpAnyH_more (F := fun w' => w'.cell? ⟨w.heap.size + 1 + 1 + 1, p4, none⟩ = some (.string (valN p4))) hS1 ?_ (fun hHeld => ?_)
            · simp only [World.cell?_drew]
              rw [World.cell?_alloc_at _ _ _ _ (by simp)]
              exact e4
            clear hS1
            try simp only [Act.put, List.setIfInBounds_toArray, List.set_cons_zero, List.set_cons_succ, List.getElem_toArray, List.getElem_cons_zero, List.getElem_cons_succ]
            refine wpAnyH_ready (rs := [16]) (by kernel_rfl) (by simp) ?_
            refine AllReadyH.cons rfl (fun K hK => ?_) ?_
            · skip
              go_simp
              go_wp2_with (go_at_call 11; refine (HP4.out _).mono ?_; rintro e w' ⟨rfl, rfl⟩)
              refine hK.out _ _ (by assumption) (fun hS1 => ?_)
              clear hS1 hK K
              try simp only [Act.put, List.setIfInBounds_toArray, List.set_cons_zero, List.set_cons_succ, List.getElem_toArray, List.getElem_cons_zero, List.getElem_cons_succ]
              refine wpAnyH_take (i := 17) (v := ?_) rfl (by kernel_rfl) (by kernel_rfl) (by kernel_rfl) (fun _ _ _ h => h) (Or.inl ⟨by rfl, ?_⟩) (by assumption) ?_
              rotate_left
              · (intro w hSw; (try dsimp only at hSw); go_simp) <;> with_reducible rfl
              try simp only [Act.put, List.setIfInBounds_toArray, List.set_cons_zero, List.set_cons_succ, List.getElem_toArray, List.getElem_cons_zero, List.getElem_cons_succ]
              refine wpAnyH_take (i := 18) (v := ?_) rfl (by kernel_rfl) (by kernel_rfl) (by kernel_rfl) (fun _ _ _ h => h) (Or.inl ⟨by rfl, ?_⟩) (by assumption) ?_
              rotate_left
              · (intro w hSw; (try dsimp only at hSw); go_simp) <;> with_reducible rfl
              try simp only [Act.put, List.setIfInBounds_toArray, List.set_cons_zero, List.set_cons_succ, List.getElem_toArray, List.getElem_cons_zero, List.getElem_cons_succ]
              refine wpAnyH_take (i := 19) (v := ?_) rfl (by kernel_rfl) (by kernel_rfl) (by kernel_rfl) (fun _ _ _ h => h) (Or.inl ⟨by rfl, ?_⟩) (by assumption) ?_
              rotate_left
              · (intro w hSw; (try dsimp only at hSw); go_simp) <;> with_reducible rfl
              try simp only [Act.put, List.setIfInBounds_toArray, List.set_cons_zero, List.set_cons_succ, List.getElem_toArray, List.getElem_cons_zero, List.getElem_cons_succ]
              refine wpAnyH_ready (rs := [20]) (by kernel_rfl) (by simp) ?_
              refine AllReadyH.cons rfl (fun K hK => ?_) AllReadyH.nil
              go_simp
              refine hK.out _ _ ?_ (fun hS1 => ?_)
              · (try dsimp only); (try simp only [World.cell?_drew]); (repeat' apply And.intro) <;> (first | (rw [World.cell?_alloc_at _ _ _ _ (by simp)]; exact e1) | (rw [World.cell?_alloc_at _ _ _ _ (by simp)]; exact e4) | (rw [c_lt (by simp), World.cell?_alloc_at _ _ _ _ (by simp)]; exact e1) | (rw [c_lt (by simp), World.cell?_alloc_at _ _ _ _ (by simp)]; exact e4) | (go_keep; done))
              clear hS1 hK K hHeld
              refine wpAnyH_done (by kernel_rfl) ?_ _
              go_wp2_with fail
              refine bodyPost_ret (v := .agg #[.string (keyN p1), .int .i64 (1 + (p2 : Int)), .int .i64 (p3 : Int), .string (valN p4)]) (by simp [results, Tryz.results78, go_sem, hw]) rfl ⟨rfl, ?_⟩
              repeat first | exact Below.refl _ _ | refine Below.drew ?_ | refine Below.alloc ?_ (by simp <;> omega) _
            exact AllReadyH.nil
          refine AllReadyH.cons rfl (fun K hK => ?_) ?_
          · skip
            go_simp
            go_wp2_with (go_at_call 11; refine (HP4.out _).mono ?_; rintro e w' ⟨rfl, rfl⟩)
            refine hK.out _ _ (by assumption) (fun hS1 => ?_)
            clear hS1 hK K
            try simp only [Act.put, List.setIfInBounds_toArray, List.set_cons_zero, List.set_cons_succ, List.getElem_toArray, List.getElem_cons_zero, List.getElem_cons_succ]
            refine wpAnyH_ready (rs := [13]) (by kernel_rfl) (by simp) ?_
            refine AllReadyH.cons rfl (fun K hK => ?_) ?_
            · skip
              go_simp
              refine hK.out _ _ ?_ (fun hS1 => ?_)
              · (try dsimp only); (try simp only [World.cell?_drew]); (repeat' apply And.intro) <;> (first | (rw [World.cell?_alloc_at _ _ _ _ (by simp)]; exact e1) | (rw [World.cell?_alloc_at _ _ _ _ (by simp)]; exact e4) | (rw [c_lt (by simp), World.cell?_alloc_at _ _ _ _ (by simp)]; exact e1) | (rw [c_lt (by simp), World.cell?_alloc_at _ _ _ _ (by simp)]; exact e4) | (go_keep; done))
              clear hHeld hK K
              refine wpAnyH_more (F := fun w' => w'.cell? ⟨w.heap.size + 1 + 1 + 1, p4, none⟩ = some (.string (valN p4))) hS1 ?_ (fun hHeld => ?_)
              · simp only [World.cell?_drew]
                rw [World.cell?_alloc_at _ _ _ _ (by simp)]
                exact e4
              clear hS1
              try simp only [Act.put, List.setIfInBounds_toArray, List.set_cons_zero, List.set_cons_succ, List.getElem_toArray, List.getElem_cons_zero, List.getElem_cons_succ]
              refine wpAnyH_take (i := 17) (v := ?_) rfl (by kernel_rfl) (by kernel_rfl) (by kernel_rfl) (fun _ _ _ h => h) (Or.inl ⟨by rfl, ?_⟩) (by assumption) ?_
              rotate_left
              · (intro w hSw; (try dsimp only at hSw); go_simp) <;> with_reducible rfl
              try simp only [Act.put, List.setIfInBounds_toArray, List.set_cons_zero, List.set_cons_succ, List.getElem_toArray, List.getElem_cons_zero, List.getElem_cons_succ]
              refine wpAnyH_take (i := 18) (v := ?_) rfl (by kernel_rfl) (by kernel_rfl) (by kernel_rfl) (fun _ _ _ h => h) (Or.inl ⟨by rfl, ?_⟩) (by assumption) ?_
              rotate_left
              · (intro w hSw; (try dsimp only at hSw); go_simp) <;> with_reducible rfl
              try simp only [Act.put, List.setIfInBounds_toArray, List.set_cons_zero, List.set_cons_succ, List.getElem_toArray, List.getElem_cons_zero, List.getElem_cons_succ]
              refine wpAnyH_take (i := 19) (v := ?_) rfl (by kernel_rfl) (by kernel_rfl) (by kernel_rfl) (fun _ _ _ h => h) (Or.inl ⟨by rfl, ?_⟩) (by assumption) ?_
              rotate_left
              · (intro w hSw; (try dsimp only at hSw); go_simp) <;> with_reducible rfl
              try simp only [Act.put, List.setIfInBounds_toArray, List.set_cons_zero, List.set_cons_succ, List.getElem_toArray, List.getElem_cons_zero, List.getElem_cons_succ]
              refine wpAnyH_ready (rs := [20]) (by kernel_rfl) (by simp) ?_
              refine AllReadyH.cons rfl (fun K hK => ?_) AllReadyH.nil
              go_simp
              refine hK.out _ _ ?_ (fun hS1 => ?_)
              · (try dsimp only); (try simp only [World.cell?_drew]); (repeat' apply And.intro) <;> (first | (rw [World.cell?_alloc_at _ _ _ _ (by simp)]; exact e1) | (rw [World.cell?_alloc_at _ _ _ _ (by simp)]; exact e4) | (rw [c_lt (by simp), World.cell?_alloc_at _ _ _ _ (by simp)]; exact e1) | (rw [c_lt (by simp), World.cell?_alloc_at _ _ _ _ (by simp)]; exact e4) | (go_keep; done))
              clear hS1 hK K hHeld
              refine wpAnyH_done (by kernel_rfl) ?_ _
              go_wp2_with fail
              refine bodyPost_ret (v := .agg #[.string (keyN p1), .int .i64 (1 + (p2 : Int)), .int .i64 (p3 : Int), .string (valN p4)]) (by simp [results, Tryz.results78, go_sem, hw]) rfl ⟨rfl, ?_⟩
              repeat first | exact Below.refl _ _ | refine Below.drew ?_ | refine Below.alloc ?_ (by simp <;> omega) _
            exact AllReadyH.nil
          exact AllReadyH.nil
        refine AllReadyH.cons rfl (fun K hK => ?_) ?_
        · skip
          go_simp
          refine hK.out _ _ ?_ (fun hS1 => ?_)
          · (try dsimp only); (try simp only [World.cell?_drew]); (repeat' apply And.intro) <;> (first | (rw [World.cell?_alloc_at _ _ _ _ (by simp)]; exact e1) | (rw [World.cell?_alloc_at _ _ _ _ (by simp)]; exact e4) | (rw [c_lt (by simp), World.cell?_alloc_at _ _ _ _ (by simp)]; exact e1) | (rw [c_lt (by simp), World.cell?_alloc_at _ _ _ _ (by simp)]; exact e4) | (go_keep; done))
          clear hHeld hK K
          refine wpAnyH_more (F := fun w' => w'.cell? ⟨w.heap.size + 1 + 1 + 1, p4, none⟩ = some (.string (valN p4))) hS1 ?_ (fun hHeld => ?_)
          · simp only [World.cell?_drew]
            rw [World.cell?_alloc_at _ _ _ _ (by simp)]
            exact e4
          clear hS1
          try simp only [Act.put, List.setIfInBounds_toArray, List.set_cons_zero, List.set_cons_succ, List.getElem_toArray, List.getElem_cons_zero, List.getElem_cons_succ]
          refine wpAnyH_ready (rs := [12]) (by kernel_rfl) (by simp) ?_
          refine AllReadyH.cons rfl (fun K hK => ?_) ?_
          · skip
            go_simp
            go_wp2_with (go_at_call 11; refine (HP3.out _).mono ?_; rintro e w' ⟨rfl, rfl⟩)
            refine hK.out _ _ (by assumption) (fun hS1 => ?_)
            clear hS1 hK K
            try simp only [Act.put, List.setIfInBounds_toArray, List.set_cons_zero, List.set_cons_succ, List.getElem_toArray, List.getElem_cons_zero, List.getElem_cons_succ]
            refine wpAnyH_ready (rs := [16]) (by kernel_rfl) (by simp) ?_
            refine AllReadyH.cons rfl (fun K hK => ?_) ?_
            · skip
              go_simp
              go_wp2_with (go_at_call 11; refine (HP4.out _).mono ?_; rintro e w' ⟨rfl, rfl⟩)
              refine hK.out _ _ (by assumption) (fun hS1 => ?_)
              clear hS1 hK K
              try simp only [Act.put, List.setIfInBounds_toArray, List.set_cons_zero, List.set_cons_succ, List.getElem_toArray, List.getElem_cons_zero, List.getElem_cons_succ]
              refine wpAnyH_take (i := 17) (v := ?_) rfl (by kernel_rfl) (by kernel_rfl) (by kernel_rfl) (fun _ _ _ h => h) (Or.inl ⟨by rfl, ?_⟩) (by assumption) ?_
              rotate_left
              · (intro w hSw; (try dsimp only at hSw); go_simp) <;> with_reducible rfl
              try simp only [Act.put, List.setIfInBounds_toArray, List.set_cons_zero, List.set_cons_succ, List.getElem_toArray, List.getElem_cons_zero, List.getElem_cons_succ]
              refine wpAnyH_take (i := 18) (v := ?_) rfl (by kernel_rfl) (by kernel_rfl) (by kernel_rfl) (fun _ _ _ h => h) (Or.inl ⟨by rfl, ?_⟩) (by assumption) ?_
              rotate_left
              · (intro w hSw; (try dsimp only at hSw); go_simp) <;> with_reducible rfl
              try simp only [Act.put, List.setIfInBounds_toArray, List.set_cons_zero, List.set_cons_succ, List.getElem_toArray, List.getElem_cons_zero, List.getElem_cons_succ]
              refine wpAnyH_take (i := 19) (v := ?_) rfl (by kernel_rfl) (by kernel_rfl) (by kernel_rfl) (fun _ _ _ h => h) (Or.inl ⟨by rfl, ?_⟩) (by assumption) ?_
              rotate_left
              · (intro w hSw; (try dsimp only at hSw); go_simp) <;> with_reducible rfl
              try simp only [Act.put, List.setIfInBounds_toArray, List.set_cons_zero, List.set_cons_succ, List.getElem_toArray, List.getElem_cons_zero, List.getElem_cons_succ]
              refine wpAnyH_ready (rs := [20]) (by kernel_rfl) (by simp) ?_
              refine AllReadyH.cons rfl (fun K hK => ?_) AllReadyH.nil
              go_simp
              refine hK.out _ _ ?_ (fun hS1 => ?_)
              · (try dsimp only); (try simp only [World.cell?_drew]); (repeat' apply And.intro) <;> (first | (rw [World.cell?_alloc_at _ _ _ _ (by simp)]; exact e1) | (rw [World.cell?_alloc_at _ _ _ _ (by simp)]; exact e4) | (rw [c_lt (by simp), World.cell?_alloc_at _ _ _ _ (by simp)]; exact e1) | (rw [c_lt (by simp), World.cell?_alloc_at _ _ _ _ (by simp)]; exact e4) | (go_keep; done))
              clear hS1 hK K hHeld
              refine wpAnyH_done (by kernel_rfl) ?_ _
              go_wp2_with fail
              refine bodyPost_ret (v := .agg #[.string (keyN p1), .int .i64 (1 + (p2 : Int)), .int .i64 (p3 : Int), .string (valN p4)]) (by simp [results, Tryz.results78, go_sem, hw]) rfl ⟨rfl, ?_⟩
              repeat first | exact Below.refl _ _ | refine Below.drew ?_ | refine Below.alloc ?_ (by simp <;> omega) _
            exact AllReadyH.nil
          exact AllReadyH.nil
        exact AllReadyH.nil
      refine AllReadyH.cons rfl (fun K hK => ?_) ?_
      · skip
        go_simp
        refine hK.out _ _ ?_ (fun hS1 => ?_)
        · (try dsimp only); (try simp only [World.cell?_drew]); (repeat' apply And.intro) <;> (first | (rw [World.cell?_alloc_at _ _ _ _ (by simp)]; exact e1) | (rw [World.cell?_alloc_at _ _ _ _ (by simp)]; exact e4) | (rw [c_lt (by simp), World.cell?_alloc_at _ _ _ _ (by simp)]; exact e1) | (rw [c_lt (by simp), World.cell?_alloc_at _ _ _ _ (by simp)]; exact e4) | (go_keep; done))
        clear hHeld hK K
        refine wpAnyH_more (F := fun w' => w'.cell? ⟨w.heap.size + 1 + 1 + 1, p4, none⟩ = some (.string (valN p4))) hS1 ?_ (fun hHeld => ?_)
        · simp only [World.cell?_drew]
          rw [World.cell?_alloc_at _ _ _ _ (by simp)]
          exact e4
        clear hS1
        try simp only [Act.put, List.setIfInBounds_toArray, List.set_cons_zero, List.set_cons_succ, List.getElem_toArray, List.getElem_cons_zero, List.getElem_cons_succ]
        refine wpAnyH_ready (rs := [8]) (by kernel_rfl) (by simp) ?_
        refine AllReadyH.cons rfl (fun K hK => ?_) ?_
        · skip
          go_simp
          go_wp2_with (go_at_call 11; refine (HP2.out _).mono ?_; rintro e w' ⟨rfl, rfl⟩)
          refine hK.out _ _ (by assumption) (fun hS1 => ?_)
          clear hS1 hK K
          try simp only [Act.put, List.setIfInBounds_toArray, List.set_cons_zero, List.set_cons_succ, List.getElem_toArray, List.getElem_cons_zero, List.getElem_cons_succ]
          refine wpAnyH_take (i := 9) (v := ?_) rfl (by kernel_rfl) (by kernel_rfl) (by kernel_rfl) (fun _ _ _ h => h) (Or.inl ⟨by rfl, ?_⟩) (by assumption) ?_
          rotate_left
          · (intro w hSw; (try dsimp only at hSw); go_simp) <;> with_reducible rfl
          try simp only [Act.put, List.setIfInBounds_toArray, List.set_cons_zero, List.set_cons_succ, List.getElem_toArray, List.getElem_cons_zero, List.getElem_cons_succ]
          refine wpAnyH_ready (rs := [12]) (by kernel_rfl) (by simp) ?_
          refine AllReadyH.cons rfl (fun K hK => ?_) ?_
          · skip
            go_simp
            go_wp2_with (go_at_call 11; refine (HP3.out _).mono ?_; rintro e w' ⟨rfl, rfl⟩)
            refine hK.out _ _ (by assumption) (fun hS1 => ?_)
            clear hS1 hK K
            try simp only [Act.put, List.setIfInBounds_toArray, List.set_cons_zero, List.set_cons_succ, List.getElem_toArray, List.getElem_cons_zero, List.getElem_cons_succ]
            refine wpAnyH_ready (rs := [16]) (by kernel_rfl) (by simp) ?_
            refine AllReadyH.cons rfl (fun K hK => ?_) ?_
            · skip
              go_simp
              go_wp2_with (go_at_call 11; refine (HP4.out _).mono ?_; rintro e w' ⟨rfl, rfl⟩)
              refine hK.out _ _ (by assumption) (fun hS1 => ?_)
              clear hS1 hK K
              try simp only [Act.put, List.setIfInBounds_toArray, List.set_cons_zero, List.set_cons_succ, List.getElem_toArray, List.getElem_cons_zero, List.getElem_cons_succ]
              refine wpAnyH_take (i := 17) (v := ?_) rfl (by kernel_rfl) (by kernel_rfl) (by kernel_rfl) (fun _ _ _ h => h) (Or.inl ⟨by rfl, ?_⟩) (by assumption) ?_
              rotate_left
              · (intro w hSw; (try dsimp only at hSw); go_simp) <;> with_reducible rfl
              try simp only [Act.put, List.setIfInBounds_toArray, List.set_cons_zero, List.set_cons_succ, List.getElem_toArray, List.getElem_cons_zero, List.getElem_cons_succ]
              refine wpAnyH_take (i := 18) (v := ?_) rfl (by kernel_rfl) (by kernel_rfl) (by kernel_rfl) (fun _ _ _ h => h) (Or.inl ⟨by rfl, ?_⟩) (by assumption) ?_
              rotate_left
              · (intro w hSw; (try dsimp only at hSw); go_simp) <;> with_reducible rfl
              try simp only [Act.put, List.setIfInBounds_toArray, List.set_cons_zero, List.set_cons_succ, List.getElem_toArray, List.getElem_cons_zero, List.getElem_cons_succ]
              refine wpAnyH_take (i := 19) (v := ?_) rfl (by kernel_rfl) (by kernel_rfl) (by kernel_rfl) (fun _ _ _ h => h) (Or.inl ⟨by rfl, ?_⟩) (by assumption) ?_
              rotate_left
              · (intro w hSw; (try dsimp only at hSw); go_simp) <;> with_reducible rfl
              try simp only [Act.put, List.setIfInBounds_toArray, List.set_cons_zero, List.set_cons_succ, List.getElem_toArray, List.getElem_cons_zero, List.getElem_cons_succ]
              refine wpAnyH_ready (rs := [20]) (by kernel_rfl) (by simp) ?_
              refine AllReadyH.cons rfl (fun K hK => ?_) AllReadyH.nil
              go_simp
              refine hK.out _ _ ?_ (fun hS1 => ?_)
              · (try dsimp only); (try simp only [World.cell?_drew]); (repeat' apply And.intro) <;> (first | (rw [World.cell?_alloc_at _ _ _ _ (by simp)]; exact e1) | (rw [World.cell?_alloc_at _ _ _ _ (by simp)]; exact e4) | (rw [c_lt (by simp), World.cell?_alloc_at _ _ _ _ (by simp)]; exact e1) | (rw [c_lt (by simp), World.cell?_alloc_at _ _ _ _ (by simp)]; exact e4) | (go_keep; done))
              clear hS1 hK K hHeld
              refine wpAnyH_done (by kernel_rfl) ?_ _
              go_wp2_with fail
              refine bodyPost_ret (v := .agg #[.string (keyN p1), .int .i64 (1 + (p2 : Int)), .int .i64 (p3 : Int), .string (valN p4)]) (by simp [results, Tryz.results78, go_sem, hw]) rfl ⟨rfl, ?_⟩
              repeat first | exact Below.refl _ _ | refine Below.drew ?_ | refine Below.alloc ?_ (by simp <;> omega) _
            exact AllReadyH.nil
          exact AllReadyH.nil
        exact AllReadyH.nil
      exact AllReadyH.nil
    refine AllReadyH.cons rfl (fun K hK => ?_) ?_
    · skip
      go_simp
      refine hK.out _ _ ?_ (fun hS1 => ?_)
      · (try dsimp only); (try simp only [World.cell?_drew]); (repeat' apply And.intro) <;> (first | (rw [World.cell?_alloc_at _ _ _ _ (by simp)]; exact e1) | (rw [World.cell?_alloc_at _ _ _ _ (by simp)]; exact e4) | (rw [c_lt (by simp), World.cell?_alloc_at _ _ _ _ (by simp)]; exact e1) | (rw [c_lt (by simp), World.cell?_alloc_at _ _ _ _ (by simp)]; exact e4) | (go_keep; done))
      clear hHeld hK K
      refine wpAnyH_more (F := fun w' => w'.cell? ⟨w.heap.size + 1 + 1 + 1, p4, none⟩ = some (.string (valN p4))) hS1 ?_ (fun hHeld => ?_)
      · simp only [World.cell?_drew]
        rw [World.cell?_alloc_at _ _ _ _ (by simp)]
        exact e4
      clear hS1
      try simp only [Act.put, List.setIfInBounds_toArray, List.set_cons_zero, List.set_cons_succ, List.getElem_toArray, List.getElem_cons_zero, List.getElem_cons_succ]
      refine wpAnyH_ready (rs := [3]) (by kernel_rfl) (by simp) ?_
      refine AllReadyH.cons rfl (fun K hK => ?_) ?_
      · skip
        go_simp
        go_wp2_with (go_at_call 11; refine (HP1.out _).mono ?_; rintro e w' ⟨rfl, rfl⟩)
        refine hK.out _ _ (by assumption) (fun hS1 => ?_)
        clear hS1 hK K
        try simp only [Act.put, List.setIfInBounds_toArray, List.set_cons_zero, List.set_cons_succ, List.getElem_toArray, List.getElem_cons_zero, List.getElem_cons_succ]
        refine wpAnyH_take (i := 4) (v := ?_) rfl (by kernel_rfl) (by kernel_rfl) (by kernel_rfl) (fun _ _ _ h => h) (Or.inl ⟨by rfl, ?_⟩) (by assumption) ?_
        rotate_left
        · (intro w hSw; (try dsimp only at hSw); go_simp) <;> with_reducible rfl
        try simp only [Act.put, List.setIfInBounds_toArray, List.set_cons_zero, List.set_cons_succ, List.getElem_toArray, List.getElem_cons_zero, List.getElem_cons_succ]
        refine wpAnyH_take (i := 5) (v := ?_) rfl (by kernel_rfl) (by kernel_rfl) (by kernel_rfl) (fun _ _ _ h => h) (Or.inl ⟨by rfl, ?_⟩) (by assumption) ?_
        rotate_left
        · (intro w hSw; (try dsimp only at hSw); go_simp) <;> with_reducible rfl
        try simp only [Act.put, List.setIfInBounds_toArray, List.set_cons_zero, List.set_cons_succ, List.getElem_toArray, List.getElem_cons_zero, List.getElem_cons_succ]
        refine wpAnyH_ready (rs := [8]) (by kernel_rfl) (by simp) ?_
        refine AllReadyH.cons rfl (fun K hK => ?_) ?_
        · skip
          go_simp
          go_wp2_with (go_at_call 11; refine (HP2.out _).mono ?_; rintro e w' ⟨rfl, rfl⟩)
          refine hK.out _ _ (by assumption) (fun hS1 => ?_)
          clear hS1 hK K
          try simp only [Act.put, List.setIfInBounds_toArray, List.set_cons_zero, List.set_cons_succ, List.getElem_toArray, List.getElem_cons_zero, List.getElem_cons_succ]
          refine wpAnyH_take (i := 9) (v := ?_) rfl (by kernel_rfl) (by kernel_rfl) (by kernel_rfl) (fun _ _ _ h => h) (Or.inl ⟨by rfl, ?_⟩) (by assumption) ?_
          rotate_left
          · (intro w hSw; (try dsimp only at hSw); go_simp) <;> with_reducible rfl
          try simp only [Act.put, List.setIfInBounds_toArray, List.set_cons_zero, List.set_cons_succ, List.getElem_toArray, List.getElem_cons_zero, List.getElem_cons_succ]
          refine wpAnyH_ready (rs := [12]) (by kernel_rfl) (by simp) ?_
          refine AllReadyH.cons rfl (fun K hK => ?_) ?_
          · skip
            go_simp
            go_wp2_with (go_at_call 11; refine (HP3.out _).mono ?_; rintro e w' ⟨rfl, rfl⟩)
            refine hK.out _ _ (by assumption) (fun hS1 => ?_)
            clear hS1 hK K
            try simp only [Act.put, List.setIfInBounds_toArray, List.set_cons_zero, List.set_cons_succ, List.getElem_toArray, List.getElem_cons_zero, List.getElem_cons_succ]
            refine wpAnyH_ready (rs := [16]) (by kernel_rfl) (by simp) ?_
            refine AllReadyH.cons rfl (fun K hK => ?_) ?_
            · skip
              go_simp
              go_wp2_with (go_at_call 11; refine (HP4.out _).mono ?_; rintro e w' ⟨rfl, rfl⟩)
              refine hK.out _ _ (by assumption) (fun hS1 => ?_)
              clear hS1 hK K
              try simp only [Act.put, List.setIfInBounds_toArray, List.set_cons_zero, List.set_cons_succ, List.getElem_toArray, List.getElem_cons_zero, List.getElem_cons_succ]
              refine wpAnyH_take (i := 17) (v := ?_) rfl (by kernel_rfl) (by kernel_rfl) (by kernel_rfl) (fun _ _ _ h => h) (Or.inl ⟨by rfl, ?_⟩) (by assumption) ?_
              rotate_left
              · (intro w hSw; (try dsimp only at hSw); go_simp) <;> with_reducible rfl
              try simp only [Act.put, List.setIfInBounds_toArray, List.set_cons_zero, List.set_cons_succ, List.getElem_toArray, List.getElem_cons_zero, List.getElem_cons_succ]
              refine wpAnyH_take (i := 18) (v := ?_) rfl (by kernel_rfl) (by kernel_rfl) (by kernel_rfl) (fun _ _ _ h => h) (Or.inl ⟨by rfl, ?_⟩) (by assumption) ?_
              rotate_left
              · (intro w hSw; (try dsimp only at hSw); go_simp) <;> with_reducible rfl
              try simp only [Act.put, List.setIfInBounds_toArray, List.set_cons_zero, List.set_cons_succ, List.getElem_toArray, List.getElem_cons_zero, List.getElem_cons_succ]
              refine wpAnyH_take (i := 19) (v := ?_) rfl (by kernel_rfl) (by kernel_rfl) (by kernel_rfl) (fun _ _ _ h => h) (Or.inl ⟨by rfl, ?_⟩) (by assumption) ?_
              rotate_left
              · (intro w hSw; (try dsimp only at hSw); go_simp) <;> with_reducible rfl
              try simp only [Act.put, List.setIfInBounds_toArray, List.set_cons_zero, List.set_cons_succ, List.getElem_toArray, List.getElem_cons_zero, List.getElem_cons_succ]
              refine wpAnyH_ready (rs := [20]) (by kernel_rfl) (by simp) ?_
              refine AllReadyH.cons rfl (fun K hK => ?_) AllReadyH.nil
              go_simp
              refine hK.out _ _ ?_ (fun hS1 => ?_)
              · (try dsimp only); (try simp only [World.cell?_drew]); (repeat' apply And.intro) <;> (first | (rw [World.cell?_alloc_at _ _ _ _ (by simp)]; exact e1) | (rw [World.cell?_alloc_at _ _ _ _ (by simp)]; exact e4) | (rw [c_lt (by simp), World.cell?_alloc_at _ _ _ _ (by simp)]; exact e1) | (rw [c_lt (by simp), World.cell?_alloc_at _ _ _ _ (by simp)]; exact e4) | (go_keep; done))
              clear hS1 hK K hHeld
              refine wpAnyH_done (by kernel_rfl) ?_ _
              go_wp2_with fail
              refine bodyPost_ret (v := .agg #[.string (keyN p1), .int .i64 (1 + (p2 : Int)), .int .i64 (p3 : Int), .string (valN p4)]) (by simp [results, Tryz.results78, go_sem, hw]) rfl ⟨rfl, ?_⟩
              repeat first | exact Below.refl _ _ | refine Below.drew ?_ | refine Below.alloc ?_ (by simp <;> omega) _
            exact AllReadyH.nil
          exact AllReadyH.nil
        exact AllReadyH.nil
      exact AllReadyH.nil
    exact AllReadyH.nil
  refine AllReadyH.cons rfl (fun K hK => ?_) ?_
  · skip
    go_simp
    go_wp2_with (go_at_call 11; refine (HP1.out _).mono ?_; rintro e w' ⟨rfl, rfl⟩)
    refine hK.out _ _ (by assumption) (fun hS1 => ?_)
    clear hS1 hK K
    try simp only [Act.put, List.setIfInBounds_toArray, List.set_cons_zero, List.set_cons_succ, List.getElem_toArray, List.getElem_cons_zero, List.getElem_cons_succ]
    refine wpAnyH_ready (rs := [0, 8, 13]) (by kernel_rfl) (by simp) ?_
    refine AllReadyH.cons rfl (fun K hK => ?_) ?_
    · skip
      go_simp
      refine hK.out _ _ ?_ (fun hS1 => ?_)
      · (try dsimp only); (try simp only [World.cell?_drew]); (repeat' apply And.intro) <;> (first | (rw [World.cell?_alloc_at _ _ _ _ (by simp)]; exact e1) | (rw [World.cell?_alloc_at _ _ _ _ (by simp)]; exact e4) | (rw [c_lt (by simp), World.cell?_alloc_at _ _ _ _ (by simp)]; exact e1) | (rw [c_lt (by simp), World.cell?_alloc_at _ _ _ _ (by simp)]; exact e4) | (go_keep; done))
      clear hHeld hK K
      refine wpAnyH_more (F := fun w' => w'.cell? ⟨w.heap.size + 1 + 1, p1, none⟩ = some (.string (keyN p1))) hS1 ?_ (fun hHeld => ?_)
      · simp only [World.cell?_drew]
        rw [World.cell?_alloc_at _ _ _ _ (by simp)]
        exact e1
      clear hS1
      try simp only [Act.put, List.setIfInBounds_toArray, List.set_cons_zero, List.set_cons_succ, List.getElem_toArray, List.getElem_cons_zero, List.getElem_cons_succ]
      refine wpAnyH_take (i := 4) (v := ?_) rfl (by kernel_rfl) (by kernel_rfl) (by kernel_rfl) (fun _ _ _ h => h) (Or.inl ⟨by rfl, ?_⟩) (by assumption) ?_
      rotate_left
      · (intro w hSw; (try dsimp only at hSw); go_simp) <;> with_reducible rfl
      try simp only [Act.put, List.setIfInBounds_toArray, List.set_cons_zero, List.set_cons_succ, List.getElem_toArray, List.getElem_cons_zero, List.getElem_cons_succ]
      refine wpAnyH_take (i := 5) (v := ?_) rfl (by kernel_rfl) (by kernel_rfl) (by kernel_rfl) (fun _ _ _ h => h) (Or.inl ⟨by rfl, ?_⟩) (by assumption) ?_
      rotate_left
      · (intro w hSw; (try dsimp only at hSw); go_simp) <;> with_reducible rfl
      try simp only [Act.put, List.setIfInBounds_toArray, List.set_cons_zero, List.set_cons_succ, List.getElem_toArray, List.getElem_cons_zero, List.getElem_cons_succ]
      refine wpAnyH_ready (rs := [8, 13]) (by kernel_rfl) (by simp) ?_
      refine AllReadyH.cons rfl (fun K hK => ?_) ?_
      · skip
        go_simp
        go_wp2_with (go_at_call 11; refine (HP2.out _).mono ?_; rintro e w' ⟨rfl, rfl⟩)
        refine hK.out _ _ (by assumption) (fun hS1 => ?_)
        clear hS1 hK K
        try simp only [Act.put, List.setIfInBounds_toArray, List.set_cons_zero, List.set_cons_succ, List.getElem_toArray, List.getElem_cons_zero, List.getElem_cons_succ]
        refine wpAnyH_take (i := 9) (v := ?_) rfl (by kernel_rfl) (by kernel_rfl) (by kernel_rfl) (fun _ _ _ h => h) (Or.inl ⟨by rfl, ?_⟩) (by assumption) ?_
        rotate_left
        · (intro w hSw; (try dsimp only at hSw); go_simp) <;> with_reducible rfl
        try simp only [Act.put, List.setIfInBounds_toArray, List.set_cons_zero, List.set_cons_succ, List.getElem_toArray, List.getElem_cons_zero, List.getElem_cons_succ]
        refine wpAnyH_ready (rs := [12, 13]) (by kernel_rfl) (by simp) ?_
        refine AllReadyH.cons rfl (fun K hK => ?_) ?_
        · skip
          go_simp
          go_wp2_with (go_at_call 11; refine (HP3.out _).mono ?_; rintro e w' ⟨rfl, rfl⟩)
          refine hK.out _ _ (by assumption) (fun hS1 => ?_)
          clear hS1 hK K
          try simp only [Act.put, List.setIfInBounds_toArray, List.set_cons_zero, List.set_cons_succ, List.getElem_toArray, List.getElem_cons_zero, List.getElem_cons_succ]
          refine wpAnyH_ready (rs := [13, 16]) (by kernel_rfl) (by simp) ?_
          refine AllReadyH.cons rfl (fun K hK => ?_) ?_
          · skip
            go_simp
            refine hK.out _ _ ?_ (fun hS1 => ?_)
            · (try dsimp only); (try simp only [World.cell?_drew]); (repeat' apply And.intro) <;> (first | (rw [World.cell?_alloc_at _ _ _ _ (by simp)]; exact e1) | (rw [World.cell?_alloc_at _ _ _ _ (by simp)]; exact e4) | (rw [c_lt (by simp), World.cell?_alloc_at _ _ _ _ (by simp)]; exact e1) | (rw [c_lt (by simp), World.cell?_alloc_at _ _ _ _ (by simp)]; exact e4) | (go_keep; done))
            clear hHeld hK K
            refine wpAnyH_more (F := fun w' => w'.cell? ⟨w.heap.size + 1 + 1 + 1, p4, none⟩ = some (.string (valN p4))) hS1 ?_ (fun hHeld => ?_)
            · simp only [World.cell?_drew]
              rw [World.cell?_alloc_at _ _ _ _ (by simp)]
              exact e4
            clear hS1
            try simp only [Act.put, List.setIfInBounds_toArray, List.set_cons_zero, List.set_cons_succ, List.getElem_toArray, List.getElem_cons_zero, List.getElem_cons_succ]
            refine wpAnyH_ready (rs := [16]) (by kernel_rfl) (by simp) ?_
            refine AllReadyH.cons rfl (fun K hK => ?_) ?_
            · skip
              go_simp
              go_wp2_with (go_at_call 11; refine (HP4.out _).mono ?_; rintro e w' ⟨rfl, rfl⟩)
              refine hK.out _ _ (by assumption) (fun hS1 => ?_)
              clear hS1 hK K
              try simp only [Act.put, List.setIfInBounds_toArray, List.set_cons_zero, List.set_cons_succ, List.getElem_toArray, List.getElem_cons_zero, List.getElem_cons_succ]
              refine wpAnyH_take (i := 17) (v := ?_) rfl (by kernel_rfl) (by kernel_rfl) (by kernel_rfl) (fun _ _ _ h => h) (Or.inl ⟨by rfl, ?_⟩) (by assumption) ?_
              rotate_left
              · (intro w hSw; (try dsimp only at hSw); go_simp) <;> with_reducible rfl
              try simp only [Act.put, List.setIfInBounds_toArray, List.set_cons_zero, List.set_cons_succ, List.getElem_toArray, List.getElem_cons_zero, List.getElem_cons_succ]
              refine wpAnyH_take (i := 18) (v := ?_) rfl (by kernel_rfl) (by kernel_rfl) (by kernel_rfl) (fun _ _ _ h => h) (Or.inl ⟨by rfl, ?_⟩) (by assumption) ?_
              rotate_left
              · (intro w hSw; (try dsimp only at hSw); go_simp) <;> with_reducible rfl
              try simp only [Act.put, List.setIfInBounds_toArray, List.set_cons_zero, List.set_cons_succ, List.getElem_toArray, List.getElem_cons_zero, List.getElem_cons_succ]
              refine wpAnyH_take (i := 19) (v := ?_) rfl (by kernel_rfl) (by kernel_rfl) (by kernel_rfl) (fun _ _ _ h => h) (Or.inl ⟨by rfl, ?_⟩) (by assumption) ?_
              rotate_left
              · (intro w hSw; (try dsimp only at hSw); go_simp) <;> with_reducible rfl
              try simp only [Act.put, List.setIfInBounds_toArray, List.set_cons_zero, List.set_cons_succ, List.getElem_toArray, List.getElem_cons_zero, List.getElem_cons_succ]
              refine wpAnyH_ready (rs := [20]) (by kernel_rfl) (by simp) ?_
              refine AllReadyH.cons rfl (fun K hK => ?_) AllReadyH.nil
              go_simp
              refine hK.out _ _ ?_ (fun hS1 => ?_)
              · (try dsimp only); (try simp only [World.cell?_drew]); (repeat' apply And.intro) <;> (first | (rw [World.cell?_alloc_at _ _ _ _ (by simp)]; exact e1) | (rw [World.cell?_alloc_at _ _ _ _ (by simp)]; exact e4) | (rw [c_lt (by simp), World.cell?_alloc_at _ _ _ _ (by simp)]; exact e1) | (rw [c_lt (by simp), World.cell?_alloc_at _ _ _ _ (by simp)]; exact e4) | (go_keep; done))
              clear hS1 hK K hHeld
              refine wpAnyH_done (by kernel_rfl) ?_ _
              go_wp2_with fail
              refine bodyPost_ret (v := .agg #[.string (keyN p1), .int .i64 (1 + (p2 : Int)), .int .i64 (p3 : Int), .string (valN p4)]) (by simp [results, Tryz.results78, go_sem, hw]) rfl ⟨rfl, ?_⟩
              repeat first | exact Below.refl _ _ | refine Below.drew ?_ | refine Below.alloc ?_ (by simp <;> omega) _
            exact AllReadyH.nil
          refine AllReadyH.cons rfl (fun K hK => ?_) ?_
          · skip
            go_simp
            go_wp2_with (go_at_call 11; refine (HP4.out _).mono ?_; rintro e w' ⟨rfl, rfl⟩)
            refine hK.out _ _ (by assumption) (fun hS1 => ?_)
            clear hS1 hK K
            try simp only [Act.put, List.setIfInBounds_toArray, List.set_cons_zero, List.set_cons_succ, List.getElem_toArray, List.getElem_cons_zero, List.getElem_cons_succ]
            refine wpAnyH_ready (rs := [13]) (by kernel_rfl) (by simp) ?_
            refine AllReadyH.cons rfl (fun K hK => ?_) ?_
            · skip
              go_simp
              refine hK.out _ _ ?_ (fun hS1 => ?_)
              · (try dsimp only); (try simp only [World.cell?_drew]); (repeat' apply And.intro) <;> (first | (rw [World.cell?_alloc_at _ _ _ _ (by simp)]; exact e1) | (rw [World.cell?_alloc_at _ _ _ _ (by simp)]; exact e4) | (rw [c_lt (by simp), World.cell?_alloc_at _ _ _ _ (by simp)]; exact e1) | (rw [c_lt (by simp), World.cell?_alloc_at _ _ _ _ (by simp)]; exact e4) | (go_keep; done))
              clear hHeld hK K
              refine wpAnyH_more (F := fun w' => w'.cell? ⟨w.heap.size + 1 + 1 + 1, p4, none⟩ = some (.string (valN p4))) hS1 ?_ (fun hHeld => ?_)
              · simp only [World.cell?_drew]
                rw [World.cell?_alloc_at _ _ _ _ (by simp)]
                exact e4
              clear hS1
              try simp only [Act.put, List.setIfInBounds_toArray, List.set_cons_zero, List.set_cons_succ, List.getElem_toArray, List.getElem_cons_zero, List.getElem_cons_succ]
              refine wpAnyH_take (i := 17) (v := ?_) rfl (by kernel_rfl) (by kernel_rfl) (by kernel_rfl) (fun _ _ _ h => h) (Or.inl ⟨by rfl, ?_⟩) (by assumption) ?_
              rotate_left
              · (intro w hSw; (try dsimp only at hSw); go_simp) <;> with_reducible rfl
              try simp only [Act.put, List.setIfInBounds_toArray, List.set_cons_zero, List.set_cons_succ, List.getElem_toArray, List.getElem_cons_zero, List.getElem_cons_succ]
              refine wpAnyH_take (i := 18) (v := ?_) rfl (by kernel_rfl) (by kernel_rfl) (by kernel_rfl) (fun _ _ _ h => h) (Or.inl ⟨by rfl, ?_⟩) (by assumption) ?_
              rotate_left
              · (intro w hSw; (try dsimp only at hSw); go_simp) <;> with_reducible rfl
              try simp only [Act.put, List.setIfInBounds_toArray, List.set_cons_zero, List.set_cons_succ, List.getElem_toArray, List.getElem_cons_zero, List.getElem_cons_succ]
              refine wpAnyH_take (i := 19) (v := ?_) rfl (by kernel_rfl) (by kernel_rfl) (by kernel_rfl) (fun _ _ _ h => h) (Or.inl ⟨by rfl, ?_⟩) (by assumption) ?_
              rotate_left
              · (intro w hSw; (try dsimp only at hSw); go_simp) <;> with_reducible rfl
              try simp only [Act.put, List.setIfInBounds_toArray, List.set_cons_zero, List.set_cons_succ, List.getElem_toArray, List.getElem_cons_zero, List.getElem_cons_succ]
              refine wpAnyH_ready (rs := [20]) (by kernel_rfl) (by simp) ?_
              refine AllReadyH.cons rfl (fun K hK => ?_) AllReadyH.nil
              go_simp
              refine hK.out _ _ ?_ (fun hS1 => ?_)
              · (try dsimp only); (try simp only [World.cell?_drew]); (repeat' apply And.intro) <;> (first | (rw [World.cell?_alloc_at _ _ _ _ (by simp)]; exact e1) | (rw [World.cell?_alloc_at _ _ _ _ (by simp)]; exact e4) | (rw [c_lt (by simp), World.cell?_alloc_at _ _ _ _ (by simp)]; exact e1) | (rw [c_lt (by simp), World.cell?_alloc_at _ _ _ _ (by simp)]; exact e4) | (go_keep; done))
              clear hS1 hK K hHeld
              refine wpAnyH_done (by kernel_rfl) ?_ _
              go_wp2_with fail
              refine bodyPost_ret (v := .agg #[.string (keyN p1), .int .i64 (1 + (p2 : Int)), .int .i64 (p3 : Int), .string (valN p4)]) (by simp [results, Tryz.results78, go_sem, hw]) rfl ⟨rfl, ?_⟩
              repeat first | exact Below.refl _ _ | refine Below.drew ?_ | refine Below.alloc ?_ (by simp <;> omega) _
            exact AllReadyH.nil
          exact AllReadyH.nil
        refine AllReadyH.cons rfl (fun K hK => ?_) ?_
        · skip
          go_simp
          refine hK.out _ _ ?_ (fun hS1 => ?_)
          · (try dsimp only); (try simp only [World.cell?_drew]); (repeat' apply And.intro) <;> (first | (rw [World.cell?_alloc_at _ _ _ _ (by simp)]; exact e1) | (rw [World.cell?_alloc_at _ _ _ _ (by simp)]; exact e4) | (rw [c_lt (by simp), World.cell?_alloc_at _ _ _ _ (by simp)]; exact e1) | (rw [c_lt (by simp), World.cell?_alloc_at _ _ _ _ (by simp)]; exact e4) | (go_keep; done))
          clear hHeld hK K
          refine wpAnyH_more (F := fun w' => w'.cell? ⟨w.heap.size + 1 + 1 + 1, p4, none⟩ = some (.string (valN p4))) hS1 ?_ (fun hHeld => ?_)
          · simp only [World.cell?_drew]
            rw [World.cell?_alloc_at _ _ _ _ (by simp)]
            exact e4
          clear hS1
          try simp only [Act.put, List.setIfInBounds_toArray, List.set_cons_zero, List.set_cons_succ, List.getElem_toArray, List.getElem_cons_zero, List.getElem_cons_succ]
          refine wpAnyH_ready (rs := [12]) (by kernel_rfl) (by simp) ?_
          refine AllReadyH.cons rfl (fun K hK => ?_) ?_
          · skip
            go_simp
            go_wp2_with (go_at_call 11; refine (HP3.out _).mono ?_; rintro e w' ⟨rfl, rfl⟩)
            refine hK.out _ _ (by assumption) (fun hS1 => ?_)
            clear hS1 hK K
            try simp only [Act.put, List.setIfInBounds_toArray, List.set_cons_zero, List.set_cons_succ, List.getElem_toArray, List.getElem_cons_zero, List.getElem_cons_succ]
            refine wpAnyH_ready (rs := [16]) (by kernel_rfl) (by simp) ?_
            refine AllReadyH.cons rfl (fun K hK => ?_) ?_
            · skip
              go_simp
              go_wp2_with (go_at_call 11; refine (HP4.out _).mono ?_; rintro e w' ⟨rfl, rfl⟩)
              refine hK.out _ _ (by assumption) (fun hS1 => ?_)
              clear hS1 hK K
              try simp only [Act.put, List.setIfInBounds_toArray, List.set_cons_zero, List.set_cons_succ, List.getElem_toArray, List.getElem_cons_zero, List.getElem_cons_succ]
              refine wpAnyH_take (i := 17) (v := ?_) rfl (by kernel_rfl) (by kernel_rfl) (by kernel_rfl) (fun _ _ _ h => h) (Or.inl ⟨by rfl, ?_⟩) (by assumption) ?_
              rotate_left
              · (intro w hSw; (try dsimp only at hSw); go_simp) <;> with_reducible rfl
              try simp only [Act.put, List.setIfInBounds_toArray, List.set_cons_zero, List.set_cons_succ, List.getElem_toArray, List.getElem_cons_zero, List.getElem_cons_succ]
              refine wpAnyH_take (i := 18) (v := ?_) rfl (by kernel_rfl) (by kernel_rfl) (by kernel_rfl) (fun _ _ _ h => h) (Or.inl ⟨by rfl, ?_⟩) (by assumption) ?_
              rotate_left
              · (intro w hSw; (try dsimp only at hSw); go_simp) <;> with_reducible rfl
              try simp only [Act.put, List.setIfInBounds_toArray, List.set_cons_zero, List.set_cons_succ, List.getElem_toArray, List.getElem_cons_zero, List.getElem_cons_succ]
              refine wpAnyH_take (i := 19) (v := ?_) rfl (by kernel_rfl) (by kernel_rfl) (by kernel_rfl) (fun _ _ _ h => h) (Or.inl ⟨by rfl, ?_⟩) (by assumption) ?_
              rotate_left
              · (intro w hSw; (try dsimp only at hSw); go_simp) <;> with_reducible rfl
              try simp only [Act.put, List.setIfInBounds_toArray, List.set_cons_zero, List.set_cons_succ, List.getElem_toArray, List.getElem_cons_zero, List.getElem_cons_succ]
              refine wpAnyH_ready (rs := [20]) (by kernel_rfl) (by simp) ?_
              refine AllReadyH.cons rfl (fun K hK => ?_) AllReadyH.nil
              go_simp
              refine hK.out _ _ ?_ (fun hS1 => ?_)
              · (try dsimp only); (try simp only [World.cell?_drew]); (repeat' apply And.intro) <;> (first | (rw [World.cell?_alloc_at _ _ _ _ (by simp)]; exact e1) | (rw [World.cell?_alloc_at _ _ _ _ (by simp)]; exact e4) | (rw [c_lt (by simp), World.cell?_alloc_at _ _ _ _ (by simp)]; exact e1) | (rw [c_lt (by simp), World.cell?_alloc_at _ _ _ _ (by simp)]; exact e4) | (go_keep; done))
              clear hS1 hK K hHeld
              refine wpAnyH_done (by kernel_rfl) ?_ _
              go_wp2_with fail
              refine bodyPost_ret (v := .agg #[.string (keyN p1), .int .i64 (1 + (p2 : Int)), .int .i64 (p3 : Int), .string (valN p4)]) (by simp [results, Tryz.results78, go_sem, hw]) rfl ⟨rfl, ?_⟩
              repeat first | exact Below.refl _ _ | refine Below.drew ?_ | refine Below.alloc ?_ (by simp <;> omega) _
            exact AllReadyH.nil
          exact AllReadyH.nil
        exact AllReadyH.nil
      refine AllReadyH.cons rfl (fun K hK => ?_) ?_
      · skip
        go_simp
        refine hK.out _ _ ?_ (fun hS1 => ?_)
        · (try dsimp only); (try simp only [World.cell?_drew]); (repeat' apply And.intro) <;> (first | (rw [World.cell?_alloc_at _ _ _ _ (by simp)]; exact e1) | (rw [World.cell?_alloc_at _ _ _ _ (by simp)]; exact e4) | (rw [c_lt (by simp), World.cell?_alloc_at _ _ _ _ (by simp)]; exact e1) | (rw [c_lt (by simp), World.cell?_alloc_at _ _ _ _ (by simp)]; exact e4) | (go_keep; done))
        clear hHeld hK K
        refine wpAnyH_more (F := fun w' => w'.cell? ⟨w.heap.size + 1 + 1 + 1, p4, none⟩ = some (.string (valN p4))) hS1 ?_ (fun hHeld => ?_)
        · simp only [World.cell?_drew]
          rw [World.cell?_alloc_at _ _ _ _ (by simp)]
          exact e4
        clear hS1
        try simp only [Act.put, List.setIfInBounds_toArray, List.set_cons_zero, List.set_cons_succ, List.getElem_toArray, List.getElem_cons_zero, List.getElem_cons_succ]
        refine wpAnyH_ready (rs := [8]) (by kernel_rfl) (by simp) ?_
        refine AllReadyH.cons rfl (fun K hK => ?_) ?_
        · skip
          go_simp
          go_wp2_with (go_at_call 11; refine (HP2.out _).mono ?_; rintro e w' ⟨rfl, rfl⟩)
          refine hK.out _ _ (by assumption) (fun hS1 => ?_)
          clear hS1 hK K
          try simp only [Act.put, List.setIfInBounds_toArray, List.set_cons_zero, List.set_cons_succ, List.getElem_toArray, List.getElem_cons_zero, List.getElem_cons_succ]
          refine wpAnyH_take (i := 9) (v := ?_) rfl (by kernel_rfl) (by kernel_rfl) (by kernel_rfl) (fun _ _ _ h => h) (Or.inl ⟨by rfl, ?_⟩) (by assumption) ?_
          rotate_left
          · (intro w hSw; (try dsimp only at hSw); go_simp) <;> with_reducible rfl
          try simp only [Act.put, List.setIfInBounds_toArray, List.set_cons_zero, List.set_cons_succ, List.getElem_toArray, List.getElem_cons_zero, List.getElem_cons_succ]
          refine wpAnyH_ready (rs := [12]) (by kernel_rfl) (by simp) ?_
          refine AllReadyH.cons rfl (fun K hK => ?_) ?_
          · skip
            go_simp
            go_wp2_with (go_at_call 11; refine (HP3.out _).mono ?_; rintro e w' ⟨rfl, rfl⟩)
            refine hK.out _ _ (by assumption) (fun hS1 => ?_)
            clear hS1 hK K
            try simp only [Act.put, List.setIfInBounds_toArray, List.set_cons_zero, List.set_cons_succ, List.getElem_toArray, List.getElem_cons_zero, List.getElem_cons_succ]
            refine wpAnyH_ready (rs := [16]) (by kernel_rfl) (by simp) ?_
            refine AllReadyH.cons rfl (fun K hK => ?_) ?_
            · skip
              go_simp
              go_wp2_with (go_at_call 11; refine (HP4.out _).mono ?_; rintro e w' ⟨rfl, rfl⟩)
              refine hK.out _ _ (by assumption) (fun hS1 => ?_)
              clear hS1 hK K
              try simp only [Act.put, List.setIfInBounds_toArray, List.set_cons_zero, List.set_cons_succ, List.getElem_toArray, List.getElem_cons_zero, List.getElem_cons_succ]
              refine wpAnyH_take (i := 17) (v := ?_) rfl (by kernel_rfl) (by kernel_rfl) (by kernel_rfl) (fun _ _ _ h => h) (Or.inl ⟨by rfl, ?_⟩) (by assumption) ?_
              rotate_left
              · (intro w hSw; (try dsimp only at hSw); go_simp) <;> with_reducible rfl
              try simp only [Act.put, List.setIfInBounds_toArray, List.set_cons_zero, List.set_cons_succ, List.getElem_toArray, List.getElem_cons_zero, List.getElem_cons_succ]
              refine wpAnyH_take (i := 18) (v := ?_) rfl (by kernel_rfl) (by kernel_rfl) (by kernel_rfl) (fun _ _ _ h => h) (Or.inl ⟨by rfl, ?_⟩) (by assumption) ?_
              rotate_left
              · (intro w hSw; (try dsimp only at hSw); go_simp) <;> with_reducible rfl
              try simp only [Act.put, List.setIfInBounds_toArray, List.set_cons_zero, List.set_cons_succ, List.getElem_toArray, List.getElem_cons_zero, List.getElem_cons_succ]
              refine wpAnyH_take (i := 19) (v := ?_) rfl (by kernel_rfl) (by kernel_rfl) (by kernel_rfl) (fun _ _ _ h => h) (Or.inl ⟨by rfl, ?_⟩) (by assumption) ?_
              rotate_left
              · (intro w hSw; (try dsimp only at hSw); go_simp) <;> with_reducible rfl
              try simp only [Act.put, List.setIfInBounds_toArray, List.set_cons_zero, List.set_cons_succ, List.getElem_toArray, List.getElem_cons_zero, List.getElem_cons_succ]
              refine wpAnyH_ready (rs := [20]) (by kernel_rfl) (by simp) ?_
              refine AllReadyH.cons rfl (fun K hK => ?_) AllReadyH.nil
              go_simp
              refine hK.out _ _ ?_ (fun hS1 => ?_)
              · (try dsimp only); (try simp only [World.cell?_drew]); (repeat' apply And.intro) <;> (first | (rw [World.cell?_alloc_at _ _ _ _ (by simp)]; exact e1) | (rw [World.cell?_alloc_at _ _ _ _ (by simp)]; exact e4) | (rw [c_lt (by simp), World.cell?_alloc_at _ _ _ _ (by simp)]; exact e1) | (rw [c_lt (by simp), World.cell?_alloc_at _ _ _ _ (by simp)]; exact e4) | (go_keep; done))
              clear hS1 hK K hHeld
              refine wpAnyH_done (by kernel_rfl) ?_ _
              go_wp2_with fail
              refine bodyPost_ret (v := .agg #[.string (keyN p1), .int .i64 (1 + (p2 : Int)), .int .i64 (p3 : Int), .string (valN p4)]) (by simp [results, Tryz.results78, go_sem, hw]) rfl ⟨rfl, ?_⟩
              repeat first | exact Below.refl _ _ | refine Below.drew ?_ | refine Below.alloc ?_ (by simp <;> omega) _
            exact AllReadyH.nil
          exact AllReadyH.nil
        exact AllReadyH.nil
      exact AllReadyH.nil
    refine AllReadyH.cons rfl (fun K hK => ?_) ?_
    · skip
      go_simp
      go_wp2_with (go_at_call 11; refine (HP2.out _).mono ?_; rintro e w' ⟨rfl, rfl⟩)
      refine hK.out _ _ (by assumption) (fun hS1 => ?_)
      clear hS1 hK K
      try simp only [Act.put, List.setIfInBounds_toArray, List.set_cons_zero, List.set_cons_succ, List.getElem_toArray, List.getElem_cons_zero, List.getElem_cons_succ]
      refine wpAnyH_take (i := 9) (v := ?_) rfl (by kernel_rfl) (by kernel_rfl) (by kernel_rfl) (fun _ _ _ h => h) (Or.inl ⟨by rfl, ?_⟩) (by assumption) ?_
      rotate_left
      · (intro w hSw; (try dsimp only at hSw); go_simp) <;> with_reducible rfl
      try simp only [Act.put, List.setIfInBounds_toArray, List.set_cons_zero, List.set_cons_succ, List.getElem_toArray, List.getElem_cons_zero, List.getElem_cons_succ]
      refine wpAnyH_ready (rs := [0, 12, 13]) (by kernel_rfl) (by simp) ?_
      refine AllReadyH.cons rfl (fun K hK => ?_) ?_
      · skip
        go_simp
        refine hK.out _ _ ?_ (fun hS1 => ?_)
        · (try dsimp only); (try simp only [World.cell?_drew]); (repeat' apply And.intro) <;> (first | (rw [World.cell?_alloc_at _ _ _ _ (by simp)]; exact e1) | (rw [World.cell?_alloc_at _ _ _ _ (by simp)]; exact e4) | (rw [c_lt (by simp), World.cell?_alloc_at _ _ _ _ (by simp)]; exact e1) | (rw [c_lt (by simp), World.cell?_alloc_at _ _ _ _ (by simp)]; exact e4) | (go_keep; done))
        clear hHeld hK K
        refine wpAnyH_more (F := fun w' => w'.cell? ⟨w.heap.size + 1 + 1, p1, none⟩ = some (.string (keyN p1))) hS1 ?_ (fun hHeld => ?_)
        · simp only [World.cell?_drew]
          rw [World.cell?_alloc_at _ _ _ _ (by simp)]
          exact e1
        clear hS1
        try simp only [Act.put, List.setIfInBounds_toArray, List.set_cons_zero, List.set_cons_succ, List.getElem_toArray, List.getElem_cons_zero, List.getElem_cons_succ]
        refine wpAnyH_take (i := 4) (v := ?_) rfl (by kernel_rfl) (by kernel_rfl) (by kernel_rfl) (fun _ _ _ h => h) (Or.inl ⟨by rfl, ?_⟩) (by assumption) ?_
        rotate_left
        · (intro w hSw; (try dsimp only at hSw); go_simp) <;> with_reducible rfl
        try simp only [Act.put, List.setIfInBounds_toArray, List.set_cons_zero, List.set_cons_succ, List.getElem_toArray, List.getElem_cons_zero, List.getElem_cons_succ]
        refine wpAnyH_take (i := 5) (v := ?_) rfl (by kernel_rfl) (by kernel_rfl) (by kernel_rfl) (fun _ _ _ h => h) (Or.inl ⟨by rfl, ?_⟩) (by assumption) ?_
        rotate_left
        · (intro w hSw; (try dsimp only at hSw); go_simp) <;> with_reducible rfl
        try simp only [Act.put, List.setIfInBounds_toArray, List.set_cons_zero, List.set_cons_succ, List.getElem_toArray, List.getElem_cons_zero, List.getElem_cons_succ]
        refine wpAnyH_ready (rs := [12, 13]) (by kernel_rfl) (by simp) ?_
        refine AllReadyH.cons rfl (fun K hK => ?_) ?_
        · skip
          go_simp
          go_wp2_with (go_at_call 11; refine (HP3.out _).mono ?_; rintro e w' ⟨rfl, rfl⟩)
          refine hK.out _ _ (by assumption) (fun hS1 => ?_)
          clear hS1 hK K
          try simp only [Act.put, List.setIfInBounds_toArray, List.set_cons_zero, List.set_cons_succ, List.getElem_toArray, List.getElem_cons_zero, List.getElem_cons_succ]
          refine wpAnyH_ready (rs := [13, 16]) (by kernel_rfl) (by simp) ?_
          refine AllReadyH.cons rfl (fun K hK => ?_) ?_
          · skip
            go_simp
            refine hK.out _ _ ?_ (fun hS1 => ?_)
            · (try dsimp only); (try simp only [World.cell?_drew]); (repeat' apply And.intro) <;> (first | (rw [World.cell?_alloc_at _ _ _ _ (by simp)]; exact e1) | (rw [World.cell?_alloc_at _ _ _ _ (by simp)]; exact e4) | (rw [c_lt (by simp), World.cell?_alloc_at _ _ _ _ (by simp)]; exact e1) | (rw [c_lt (by simp), World.cell?_alloc_at _ _ _ _ (by simp)]; exact e4) | (go_keep; done))
            clear hHeld hK K
            refine wpAnyH_more (F := fun w' => w'.cell? ⟨w.heap.size + 1 + 1 + 1, p4, none⟩ = some (.string (valN p4))) hS1 ?_ (fun hHeld => ?_)
            · simp only [World.cell?_drew]
              rw [World.cell?_alloc_at _ _ _ _ (by simp)]
              exact e4
            clear hS1
            try simp only [Act.put, List.setIfInBounds_toArray, List.set_cons_zero, List.set_cons_succ, List.getElem_toArray, List.getElem_cons_zero, List.getElem_cons_succ]
            refine wpAnyH_ready (rs := [16]) (by kernel_rfl) (by simp) ?_
            refine AllReadyH.cons rfl (fun K hK => ?_) ?_
            · skip
              go_simp
              go_wp2_with (go_at_call 11; refine (HP4.out _).mono ?_; rintro e w' ⟨rfl, rfl⟩)
              refine hK.out _ _ (by assumption) (fun hS1 => ?_)
              clear hS1 hK K
              try simp only [Act.put, List.setIfInBounds_toArray, List.set_cons_zero, List.set_cons_succ, List.getElem_toArray, List.getElem_cons_zero, List.getElem_cons_succ]
              refine wpAnyH_take (i := 17) (v := ?_) rfl (by kernel_rfl) (by kernel_rfl) (by kernel_rfl) (fun _ _ _ h => h) (Or.inl ⟨by rfl, ?_⟩) (by assumption) ?_
              rotate_left
              · (intro w hSw; (try dsimp only at hSw); go_simp) <;> with_reducible rfl
              try simp only [Act.put, List.setIfInBounds_toArray, List.set_cons_zero, List.set_cons_succ, List.getElem_toArray, List.getElem_cons_zero, List.getElem_cons_succ]
              refine wpAnyH_take (i := 18) (v := ?_) rfl (by kernel_rfl) (by kernel_rfl) (by kernel_rfl) (fun _ _ _ h => h) (Or.inl ⟨by rfl, ?_⟩) (by assumption) ?_
              rotate_left
              · (intro w hSw; (try dsimp only at hSw); go_simp) <;> with_reducible rfl
              try simp only [Act.put, List.setIfInBounds_toArray, List.set_cons_zero, List.set_cons_succ, List.getElem_toArray, List.getElem_cons_zero, List.getElem_cons_succ]
              refine wpAnyH_take (i := 19) (v := ?_) rfl (by kernel_rfl) (by kernel_rfl) (by kernel_rfl) (fun _ _ _ h => h) (Or.inl ⟨by rfl, ?_⟩) (by assumption) ?_
              rotate_left
              · (intro w hSw; (try dsimp only at hSw); go_simp) <;> with_reducible rfl
              try simp only [Act.put, List.setIfInBounds_toArray, List.set_cons_zero, List.set_cons_succ, List.getElem_toArray, List.getElem_cons_zero, List.getElem_cons_succ]
              refine wpAnyH_ready (rs := [20]) (by kernel_rfl) (by simp) ?_
              refine AllReadyH.cons rfl (fun K hK => ?_) AllReadyH.nil
              go_simp
              refine hK.out _ _ ?_ (fun hS1 => ?_)
              · (try dsimp only); (try simp only [World.cell?_drew]); (repeat' apply And.intro) <;> (first | (rw [World.cell?_alloc_at _ _ _ _ (by simp)]; exact e1) | (rw [World.cell?_alloc_at _ _ _ _ (by simp)]; exact e4) | (rw [c_lt (by simp), World.cell?_alloc_at _ _ _ _ (by simp)]; exact e1) | (rw [c_lt (by simp), World.cell?_alloc_at _ _ _ _ (by simp)]; exact e4) | (go_keep; done))
              clear hS1 hK K hHeld
              refine wpAnyH_done (by kernel_rfl) ?_ _
              go_wp2_with fail
              refine bodyPost_ret (v := .agg #[.string (keyN p1), .int .i64 (1 + (p2 : Int)), .int .i64 (p3 : Int), .string (valN p4)]) (by simp [results, Tryz.results78, go_sem, hw]) rfl ⟨rfl, ?_⟩
              repeat first | exact Below.refl _ _ | refine Below.drew ?_ | refine Below.alloc ?_ (by simp <;> omega) _
            exact AllReadyH.nil
          refine AllReadyH.cons rfl (fun K hK => ?_) ?_
          · skip
            go_simp
            go_wp2_with (go_at_call 11; refine (HP4.out _).mono ?_; rintro e w' ⟨rfl, rfl⟩)
            refine hK.out _ _ (by assumption) (fun hS1 => ?_)
            clear hS1 hK K
            try simp only [Act.put, List.setIfInBounds_toArray, List.set_cons_zero, List.set_cons_succ, List.getElem_toArray, List.getElem_cons_zero, List.getElem_cons_succ]
            refine wpAnyH_ready (rs := [13]) (by kernel_rfl) (by simp) ?_
            refine AllReadyH.cons rfl (fun K hK => ?_) ?_
            · skip
              go_simp
              refine hK.out _ _ ?_ (fun hS1 => ?_)
              · (try dsimp only); (try simp only [World.cell?_drew]); (repeat' apply And.intro) <;> (first | (rw [World.cell?_alloc_at _ _ _ _ (by simp)]; exact e1) | (rw [World.cell?_alloc_at _ _ _ _ (by simp)]; exact e4) | (rw [c_lt (by simp), World.cell?_alloc_at _ _ _ _ (by simp)]; exact e1) | (rw [c_lt (by simp), World.cell?_alloc_at _ _ _ _ (by simp)]; exact e4) | (go_keep; done))
              clear hHeld hK K
              refine wpAnyH_more (F := fun w' => w'.cell? ⟨w.heap.size + 1 + 1 + 1, p4, none⟩ = some (.string (valN p4))) hS1 ?_ (fun hHeld => ?_)
              · simp only [World.cell?_drew]
                rw [World.cell?_alloc_at _ _ _ _ (by simp)]
                exact e4
              clear hS1
              try simp only [Act.put, List.setIfInBounds_toArray, List.set_cons_zero, List.set_cons_succ, List.getElem_toArray, List.getElem_cons_zero, List.getElem_cons_succ]
              refine wpAnyH_take (i := 17) (v := ?_) rfl (by kernel_rfl) (by kernel_rfl) (by kernel_rfl) (fun _ _ _ h => h) (Or.inl ⟨by rfl, ?_⟩) (by assumption) ?_
              rotate_left
              · (intro w hSw; (try dsimp only at hSw); go_simp) <;> with_reducible rfl
              try simp only [Act.put, List.setIfInBounds_toArray, List.set_cons_zero, List.set_cons_succ, List.getElem_toArray, List.getElem_cons_zero, List.getElem_cons_succ]
              refine wpAnyH_take (i := 18) (v := ?_) rfl (by kernel_rfl) (by kernel_rfl) (by kernel_rfl) (fun _ _ _ h => h) (Or.inl ⟨by rfl, ?_⟩) (by assumption) ?_
              rotate_left
              · (intro w hSw; (try dsimp only at hSw); go_simp) <;> with_reducible rfl
              try simp only [Act.put, List.setIfInBounds_toArray, List.set_cons_zero, List.set_cons_succ, List.getElem_toArray, List.getElem_cons_zero, List.getElem_cons_succ]
              refine wpAnyH_take (i := 19) (v := ?_) rfl (by kernel_rfl) (by kernel_rfl) (by kernel_rfl) (fun _ _ _ h => h) (Or.inl ⟨by rfl, ?_⟩) (by assumption) ?_
              rotate_left
              · (intro w hSw; (try dsimp only at hSw); go_simp) <;> with_reducible rfl
              try simp only [Act.put, List.setIfInBounds_toArray, List.set_cons_zero, List.set_cons_succ, List.getElem_toArray, List.getElem_cons_zero, List.getElem_cons_succ]
              refine wpAnyH_ready (rs := [20]) (by kernel_rfl) (by simp) ?_
              refine AllReadyH.cons rfl (fun K hK => ?_) AllReadyH.nil
              go_simp
              refine hK.out _ _ ?_ (fun hS1 => ?_)
              · (try dsimp only); (try simp only [World.cell?_drew]); (repeat' apply And.intro) <;> (first | (rw [World.cell?_alloc_at _ _ _ _ (by simp)]; exact e1) | (rw [World.cell?_alloc_at _ _ _ _ (by simp)]; exact e4) | (rw [c_lt (by simp), World.cell?_alloc_at _ _ _ _ (by simp)]; exact e1) | (rw [c_lt (by simp), World.cell?_alloc_at _ _ _ _ (by simp)]; exact e4) | (go_keep; done))
              clear hS1 hK K hHeld
              refine wpAnyH_done (by kernel_rfl) ?_ _
              go_wp2_with fail
              refine bodyPost_ret (v := .agg #[.string (keyN p1), .int .i64 (1 + (p2 : Int)), .int .i64 (p3 : Int), .string (valN p4)]) (by simp [results, Tryz.results78, go_sem, hw]) rfl ⟨rfl, ?_⟩
              repeat first | exact Below.refl _ _ | refine Below.drew ?_ | refine Below.alloc ?_ (by simp <;> omega) _
            exact AllReadyH.nil
          exact AllReadyH.nil
        refine AllReadyH.cons rfl (fun K hK => ?_) ?_
        · skip
          go_simp
          refine hK.out _ _ ?_ (fun hS1 => ?_)
          · (try dsimp only); (try simp only [World.cell?_drew]); (repeat' apply And.intro) <;> (first | (rw [World.cell?_alloc_at _ _ _ _ (by simp)]; exact e1) | (rw [World.cell?_alloc_at _ _ _ _ (by simp)]; exact e4) | (rw [c_lt (by simp), World.cell?_alloc_at _ _ _ _ (by simp)]; exact e1) | (rw [c_lt (by simp), World.cell?_alloc_at _ _ _ _ (by simp)]; exact e4) | (go_keep; done))
          clear hHeld hK K
          refine wpAnyH_more (F := fun w' => w'.cell? ⟨w.heap.size + 1 + 1 + 1, p4, none⟩ = some (.string (valN p4))) hS1 ?_ (fun hHeld => ?_)
          · simp only [World.cell?_drew]
            rw [World.cell?_alloc_at _ _ _ _ (by simp)]
            exact e4
          clear hS1
          try simp only [Act.put, List.setIfInBounds_toArray, List.set_cons_zero, List.set_cons_succ, List.getElem_toArray, List.getElem_cons_zero, List.getElem_cons_succ]
          refine wpAnyH_ready (rs := [12]) (by kernel_rfl) (by simp) ?_
          refine AllReadyH.cons rfl (fun K hK => ?_) ?_
          · skip
            go_simp
            go_wp2_with (go_at_call 11; refine (HP3.out _).mono ?_; rintro e w' ⟨rfl, rfl⟩)
            refine hK.out _ _ (by assumption) (fun hS1 => ?_)
            clear hS1 hK K
            try simp only [Act.put, List.setIfInBounds_toArray, List.set_cons_zero, List.set_cons_succ, List.getElem_toArray, List.getElem_cons_zero, List.getElem_cons_succ]
            refine wpAnyH_ready (rs := [16]) (by kernel_rfl) (by simp) ?_
            refine AllReadyH.cons rfl (fun K hK => ?_) ?_
            · skip
              go_simp
              go_wp2_with (go_at_call 11; refine (HP4.out _).mono ?_; rintro e w' ⟨rfl, rfl⟩)
              refine hK.out _ _ (by assumption) (fun hS1 => ?_)
              clear hS1 hK K
              try simp only [Act.put, List.setIfInBounds_toArray, List.set_cons_zero, List.set_cons_succ, List.getElem_toArray, List.getElem_cons_zero, List.getElem_cons_succ]
              refine wpAnyH_take (i := 17) (v := ?_) rfl (by kernel_rfl) (by kernel_rfl) (by kernel_rfl) (fun _ _ _ h => h) (Or.inl ⟨by rfl, ?_⟩) (by assumption) ?_
              rotate_left
              · (intro w hSw; (try dsimp only at hSw); go_simp) <;> with_reducible rfl
              try simp only [Act.put, List.setIfInBounds_toArray, List.set_cons_zero, List.set_cons_succ, List.getElem_toArray, List.getElem_cons_zero, List.getElem_cons_succ]
              refine wpAnyH_take (i := 18) (v := ?_) rfl (by kernel_rfl) (by kernel_rfl) (by kernel_rfl) (fun _ _ _ h => h) (Or.inl ⟨by rfl, ?_⟩) (by assumption) ?_
              rotate_left
              · (intro w hSw; (try dsimp only at hSw); go_simp) <;> with_reducible rfl
              try simp only [Act.put, List.setIfInBounds_toArray, List.set_cons_zero, List.set_cons_succ, List.getElem_toArray, List.getElem_cons_zero, List.getElem_cons_succ]
              refine wpAnyH_take (i := 19) (v := ?_) rfl (by kernel_rfl) (by kernel_rfl) (by kernel_rfl) (fun _ _ _ h => h) (Or.inl ⟨by rfl, ?_⟩) (by assumption) ?_
              rotate_left
              · (intro w hSw; (try dsimp only at hSw); go_simp) <;> with_reducible rfl
              try simp only [Act.put, List.setIfInBounds_toArray, List.set_cons_zero, List.set_cons_succ, List.getElem_toArray, List.getElem_cons_zero, List.getElem_cons_succ]
              refine wpAnyH_ready (rs := [20]) (by kernel_rfl) (by simp) ?_
              refine AllReadyH.cons rfl (fun K hK => ?_) AllReadyH.nil
              go_simp
              refine hK.out _ _ ?_ (fun hS1 => ?_)
              · (try dsimp only); (try simp only [World.cell?_drew]); (repeat' apply And.intro) <;> (first | (rw [World.cell?_alloc_at _ _ _ _ (by simp)]; exact e1) | (rw [World.cell?_alloc_at _ _ _ _ (by simp)]; exact e4) | (rw [c_lt (by simp), World.cell?_alloc_at _ _ _ _ (by simp)]; exact e1) | (rw [c_lt (by simp), World.cell?_alloc_at _ _ _ _ (by simp)]; exact e4) | (go_keep; done))
              clear hS1 hK K hHeld
              refine wpAnyH_done (by kernel_rfl) ?_ _
              go_wp2_with fail
              refine bodyPost_ret (v := .agg #[.string (keyN p1), .int .i64 (1 + (p2 : Int)), .int .i64 (p3 : Int), .string (valN p4)]) (by simp [results, Tryz.results78, go_sem, hw]) rfl ⟨rfl, ?_⟩
              repeat first | exact Below.refl _ _ | refine Below.drew ?_ | refine Below.alloc ?_ (by simp <;> omega) _
            exact AllReadyH.nil
          exact AllReadyH.nil
        exact AllReadyH.nil
      refine AllReadyH.cons rfl (fun K hK => ?_) ?_
      · skip
        go_simp
        go_wp2_with (go_at_call 11; refine (HP3.out _).mono ?_; rintro e w' ⟨rfl, rfl⟩)
        refine hK.out _ _ (by assumption) (fun hS1 => ?_)
        clear hS1 hK K
        try simp only [Act.put, List.setIfInBounds_toArray, List.set_cons_zero, List.set_cons_succ, List.getElem_toArray, List.getElem_cons_zero, List.getElem_cons_succ]
        refine wpAnyH_ready (rs := [0, 13, 16]) (by kernel_rfl) (by simp) ?_
        refine AllReadyH.cons rfl (fun K hK => ?_) ?_
        · skip
          go_simp
          refine hK.out _ _ ?_ (fun hS1 => ?_)
          · (try dsimp only); (try simp only [World.cell?_drew]); (repeat' apply And.intro) <;> (first | (rw [World.cell?_alloc_at _ _ _ _ (by simp)]; exact e1) | (rw [World.cell?_alloc_at _ _ _ _ (by simp)]; exact e4) | (rw [c_lt (by simp), World.cell?_alloc_at _ _ _ _ (by simp)]; exact e1) | (rw [c_lt (by simp), World.cell?_alloc_at _ _ _ _ (by simp)]; exact e4) | (go_keep; done))
          clear hHeld hK K
          refine wpAnyH_more (F := fun w' => w'.cell? ⟨w.heap.size + 1 + 1, p1, none⟩ = some (.string (keyN p1))) hS1 ?_ (fun hHeld => ?_)
          · simp only [World.cell?_drew]
            rw [World.cell?_alloc_at _ _ _ _ (by simp)]
            exact e1
          clear hS1
          try simp only [Act.put, List.setIfInBounds_toArray, List.set_cons_zero, List.set_cons_succ, List.getElem_toArray, List.getElem_cons_zero, List.getElem_cons_succ]
          refine wpAnyH_take (i := 4) (v := ?_) rfl (by kernel_rfl) (by kernel_rfl) (by kernel_rfl) (fun _ _ _ h => h) (Or.inl ⟨by rfl, ?_⟩) (by assumption) ?_
          rotate_left
          · (intro w hSw; (try dsimp only at hSw); go_simp) <;> with_reducible rfl
          try simp only [Act.put, List.setIfInBounds_toArray, List.set_cons_zero, List.set_cons_succ, List.getElem_toArray, List.getElem_cons_zero, List.getElem_cons_succ]
          refine wpAnyH_take (i := 5) (v := ?_) rfl (by kernel_rfl) (by kernel_rfl) (by kernel_rfl) (fun _ _ _ h => h) (Or.inl ⟨by rfl, ?_⟩) (by assumption) ?_
          rotate_left
          · (intro w hSw; (try dsimp only at hSw); go_simp) <;> with_reducible rfl
          try simp only [Act.put, List.setIfInBounds_toArray, List.set_cons_zero, List.set_cons_succ, List.getElem_toArray, List.getElem_cons_zero, List.getElem_cons_succ]
          refine wpAnyH_ready (rs := [13, 16]) (by kernel_rfl) (by simp) ?_
          refine AllReadyH.cons rfl (fun K hK => ?_) ?_
          · skip
            go_simp
            refine hK.out _ _ ?_ (fun hS1 => ?_)
            · (try dsimp only); (try simp only [World.cell?_drew]); (repeat' apply And.intro) <;> (first | (rw [World.cell?_alloc_at _ _ _ _ (by simp)]; exact e1) | (rw [World.cell?_alloc_at _ _ _ _ (by simp)]; exact e4) | (rw [c_lt (by simp), World.cell?_alloc_at _ _ _ _ (by simp)]; exact e1) | (rw [c_lt (by simp), World.cell?_alloc_at _ _ _ _ (by simp)]; exact e4) | (go_keep; done))
            clear hHeld hK K
            refine wpAnyH_more (F := fun w' => w'.cell? ⟨w.heap.size + 1 + 1 + 1, p4, none⟩ = some (.string (valN p4))) hS1 ?_ (fun hHeld => ?_)
            · simp only [World.cell?_drew]
              rw [World.cell?_alloc_at _ _ _ _ (by simp)]
              exact e4
            clear hS1
            try simp only [Act.put, List.setIfInBounds_toArray, List.set_cons_zero, List.set_cons_succ, List.getElem_toArray, List.getElem_cons_zero, List.getElem_cons_succ]
            refine wpAnyH_ready (rs := [16]) (by kernel_rfl) (by simp) ?_
            refine AllReadyH.cons rfl (fun K hK => ?_) ?_
            · skip
              go_simp
              go_wp2_with (go_at_call 11; refine (HP4.out _).mono ?_; rintro e w' ⟨rfl, rfl⟩)
              refine hK.out _ _ (by assumption) (fun hS1 => ?_)
              clear hS1 hK K
              try simp only [Act.put, List.setIfInBounds_toArray, List.set_cons_zero, List.set_cons_succ, List.getElem_toArray, List.getElem_cons_zero, List.getElem_cons_succ]
              refine wpAnyH_take (i := 17) (v := ?_) rfl (by kernel_rfl) (by kernel_rfl) (by kernel_rfl) (fun _ _ _ h => h) (Or.inl ⟨by rfl, ?_⟩) (by assumption) ?_
              rotate_left
              · (intro w hSw; (try dsimp only at hSw); go_simp) <;> with_reducible rfl
              try simp only [Act.put, List.setIfInBounds_toArray, List.set_cons_zero, List.set_cons_succ, List.getElem_toArray, List.getElem_cons_zero, List.getElem_cons_succ]
              refine wpAnyH_take (i := 18) (v := ?_) rfl (by kernel_rfl) (by kernel_rfl) (by kernel_rfl) (fun _ _ _ h => h) (Or.inl ⟨by rfl, ?_⟩) (by assumption) ?_
              rotate_left
              · (intro w hSw; (try dsimp only at hSw); go_simp) <;> with_reducible rfl
              try simp only [Act.put, List.setIfInBounds_toArray, List.set_cons_zero, List.set_cons_succ, List.getElem_toArray, List.getElem_cons_zero, List.getElem_cons_succ]
              refine wpAnyH_take (i := 19) (v := ?_) rfl (by kernel_rfl) (by kernel_rfl) (by kernel_rfl) (fun _ _ _ h => h) (Or.inl ⟨by rfl, ?_⟩) (by assumption) ?_
              rotate_left
              · (intro w hSw; (try dsimp only at hSw); go_simp) <;> with_reducible rfl
              try simp only [Act.put, List.setIfInBounds_toArray, List.set_cons_zero, List.set_cons_succ, List.getElem_toArray, List.getElem_cons_zero, List.getElem_cons_succ]
              refine wpAnyH_ready (rs := [20]) (by kernel_rfl) (by simp) ?_
              refine AllReadyH.cons rfl (fun K hK => ?_) AllReadyH.nil
              go_simp
              refine hK.out _ _ ?_ (fun hS1 => ?_)
              · (try dsimp only); (try simp only [World.cell?_drew]); (repeat' apply And.intro) <;> (first | (rw [World.cell?_alloc_at _ _ _ _ (by simp)]; exact e1) | (rw [World.cell?_alloc_at _ _ _ _ (by simp)]; exact e4) | (rw [c_lt (by simp), World.cell?_alloc_at _ _ _ _ (by simp)]; exact e1) | (rw [c_lt (by simp), World.cell?_alloc_at _ _ _ _ (by simp)]; exact e4) | (go_keep; done))
              clear hS1 hK K hHeld
              refine wpAnyH_done (by kernel_rfl) ?_ _
              go_wp2_with fail
              refine bodyPost_ret (v := .agg #[.string (keyN p1), .int .i64 (1 + (p2 : Int)), .int .i64 (p3 : Int), .string (valN p4)]) (by simp [results, Tryz.results78, go_sem, hw]) rfl ⟨rfl, ?_⟩
              repeat first | exact Below.refl _ _ | refine Below.drew ?_ | refine Below.alloc ?_ (by simp <;> omega) _
            exact AllReadyH.nil
          refine AllReadyH.cons rfl (fun K hK => ?_) ?_
          · skip
            go_simp
            go_wp2_with (go_at_call 11; refine (HP4.out _).mono ?_; rintro e w' ⟨rfl, rfl⟩)
            refine hK.out _ _ (by assumption) (fun hS1 => ?_)
            clear hS1 hK K
            try simp only [Act.put, List.setIfInBounds_toArray, List.set_cons_zero, List.set_cons_succ, List.getElem_toArray, List.getElem_cons_zero, List.getElem_cons_succ]
            refine wpAnyH_ready (rs := [13]) (by kernel_rfl) (by simp) ?_
            refine AllReadyH.cons rfl (fun K hK => ?_) ?_
            · skip
              go_simp
              refine hK.out _ _ ?_ (fun hS1 => ?_)
              · (try dsimp only); (try simp only [World.cell?_drew]); (repeat' apply And.intro) <;> (first | (rw [World.cell?_alloc_at _ _ _ _ (by simp)]; exact e1) | (rw [World.cell?_alloc_at _ _ _ _ (by simp)]; exact e4) | (rw [c_lt (by simp), World.cell?_alloc_at _ _ _ _ (by simp)]; exact e1) | (rw [c_lt (by simp), World.cell?_alloc_at _ _ _ _ (by simp)]; exact e4) | (go_keep; done))
              clear hHeld hK K
              refine wpAnyH_more (F := fun w' => w'.cell? ⟨w.heap.size + 1 + 1 + 1, p4, none⟩ = some (.string (valN p4))) hS1 ?_ (fun hHeld => ?_)
              · simp only [World.cell?_drew]
                rw [World.cell?_alloc_at _ _ _ _ (by simp)]
                exact e4
              clear hS1
              try simp only [Act.put, List.setIfInBounds_toArray, List.set_cons_zero, List.set_cons_succ, List.getElem_toArray, List.getElem_cons_zero, List.getElem_cons_succ]
              refine wpAnyH_take (i := 17) (v := ?_) rfl (by kernel_rfl) (by kernel_rfl) (by kernel_rfl) (fun _ _ _ h => h) (Or.inl ⟨by rfl, ?_⟩) (by assumption) ?_
              rotate_left
              · (intro w hSw; (try dsimp only at hSw); go_simp) <;> with_reducible rfl
              try simp only [Act.put, List.setIfInBounds_toArray, List.set_cons_zero, List.set_cons_succ, List.getElem_toArray, List.getElem_cons_zero, List.getElem_cons_succ]
              refine wpAnyH_take (i := 18) (v := ?_) rfl (by kernel_rfl) (by kernel_rfl) (by kernel_rfl) (fun _ _ _ h => h) (Or.inl ⟨by rfl, ?_⟩) (by assumption) ?_
              rotate_left
              · (intro w hSw; (try dsimp only at hSw); go_simp) <;> with_reducible rfl
              try simp only [Act.put, List.setIfInBounds_toArray, List.set_cons_zero, List.set_cons_succ, List.getElem_toArray, List.getElem_cons_zero, List.getElem_cons_succ]
              refine wpAnyH_take (i := 19) (v := ?_) rfl (by kernel_rfl) (by kernel_rfl) (by kernel_rfl) (fun _ _ _ h => h) (Or.inl ⟨by rfl, ?_⟩) (by assumption) ?_
              rotate_left
              · (intro w hSw; (try dsimp only at hSw); go_simp) <;> with_reducible rfl
              try simp only [Act.put, List.setIfInBounds_toArray, List.set_cons_zero, List.set_cons_succ, List.getElem_toArray, List.getElem_cons_zero, List.getElem_cons_succ]
              refine wpAnyH_ready (rs := [20]) (by kernel_rfl) (by simp) ?_
              refine AllReadyH.cons rfl (fun K hK => ?_) AllReadyH.nil
              go_simp
              refine hK.out _ _ ?_ (fun hS1 => ?_)
              · (try dsimp only); (try simp only [World.cell?_drew]); (repeat' apply And.intro) <;> (first | (rw [World.cell?_alloc_at _ _ _ _ (by simp)]; exact e1) | (rw [World.cell?_alloc_at _ _ _ _ (by simp)]; exact e4) | (rw [c_lt (by simp), World.cell?_alloc_at _ _ _ _ (by simp)]; exact e1) | (rw [c_lt (by simp), World.cell?_alloc_at _ _ _ _ (by simp)]; exact e4) | (go_keep; done))
              clear hS1 hK K hHeld
              refine wpAnyH_done (by kernel_rfl) ?_ _
              go_wp2_with fail
              refine bodyPost_ret (v := .agg #[.string (keyN p1), .int .i64 (1 + (p2 : Int)), .int .i64 (p3 : Int), .string (valN p4)]) (by simp [results, Tryz.results78, go_sem, hw]) rfl ⟨rfl, ?_⟩
              repeat first | exact Below.refl _ _ | refine Below.drew ?_ | refine Below.alloc ?_ (by simp <;> omega) _
            exact AllReadyH.nil
          exact AllReadyH.nil
        refine AllReadyH.cons rfl (fun K hK => ?_) ?_
        · skip
          go_simp
          refine hK.out _ _ ?_ (fun hS1 => ?_)
          · (try dsimp only); (try simp only [World.cell?_drew]); (repeat' apply And.intro) <;> (first | (rw [World.cell?_alloc_at _ _ _ _ (by simp)]; exact e1) | (rw [World.cell?_alloc_at _ _ _ _ (by simp)]; exact e4) | (rw [c_lt (by simp), World.cell?_alloc_at _ _ _ _ (by simp)]; exact e1) | (rw [c_lt (by simp), World.cell?_alloc_at _ _ _ _ (by simp)]; exact e4) | (go_keep; done))
          clear hHeld hK K
          refine wpAnyH_more (F := fun w' => w'.cell? ⟨w.heap.size + 1 + 1, p4, none⟩ = some (.string (valN p4))) hS1 ?_ (fun hHeld => ?_)
          · simp only [World.cell?_drew]
            rw [World.cell?_alloc_at _ _ _ _ (by simp)]
            exact e4
          clear hS1
          try simp only [Act.put, List.setIfInBounds_toArray, List.set_cons_zero, List.set_cons_succ, List.getElem_toArray, List.getElem_cons_zero, List.getElem_cons_succ]
          refine wpAnyH_ready (rs := [0, 16]) (by kernel_rfl) (by simp) ?_
          refine AllReadyH.cons rfl (fun K hK => ?_) ?_
          · skip
            go_simp
            refine hK.out _ _ ?_ (fun hS1 => ?_)
            · (try dsimp only); (try simp only [World.cell?_drew]); (repeat' apply And.intro) <;> (first | (rw [World.cell?_alloc_at _ _ _ _ (by simp)]; exact e1) | (rw [World.cell?_alloc_at _ _ _ _ (by simp)]; exact e4) | (rw [c_lt (by simp), World.cell?_alloc_at _ _ _ _ (by simp)]; exact e1) | (rw [c_lt (by simp), World.cell?_alloc_at _ _ _ _ (by simp)]; exact e4) | (go_keep; done))
            clear hHeld hK K
            refine wpAnyH_more (F := fun w' => w'.cell? ⟨w.heap.size + 1 + 1 + 1, p1, none⟩ = some (.string (keyN p1))) hS1 ?_ (fun hHeld => ?_)
            · simp only [World.cell?_drew]
              rw [World.cell?_alloc_at _ _ _ _ (by simp)]
              exact e1
            clear hS1
            try simp only [Act.put, List.setIfInBounds_toArray, List.set_cons_zero, List.set_cons_succ, List.getElem_toArray, List.getElem_cons_zero, List.getElem_cons_succ]
            refine wpAnyH_take (i := 4) (v := ?_) rfl (by kernel_rfl) (by kernel_rfl) (by kernel_rfl) (fun _ _ _ h => h) (Or.inl ⟨by rfl, ?_⟩) (by assumption) ?_
            rotate_left
            · (intro w hSw; (try dsimp only at hSw); go_simp) <;> with_reducible rfl
            try simp only [Act.put, List.setIfInBounds_toArray, List.set_cons_zero, List.set_cons_succ, List.getElem_toArray, List.getElem_cons_zero, List.getElem_cons_succ]
            refine wpAnyH_take (i := 5) (v := ?_) rfl (by kernel_rfl) (by kernel_rfl) (by kernel_rfl) (fun _ _ _ h => h) (Or.inl ⟨by rfl, ?_⟩) (by assumption) ?_
            rotate_left
            · (intro w hSw; (try dsimp only at hSw); go_simp) <;> with_reducible rfl
            try simp only [Act.put, List.setIfInBounds_toArray, List.set_cons_zero, List.set_cons_succ, List.getElem_toArray, List.getElem_cons_zero, List.getElem_cons_succ]
            refine wpAnyH_ready (rs := [16]) (by kernel_rfl) (by simp) ?_
            refine AllReadyH.cons rfl (fun K hK => ?_) ?_
            · skip
              go_simp
              go_wp2_with (go_at_call 11; refine (HP4.out _).mono ?_; rintro e w' ⟨rfl, rfl⟩)
              refine hK.out _ _ (by assumption) (fun hS1 => ?_)
              clear hS1 hK K
              try simp only [Act.put, List.setIfInBounds_toArray, List.set_cons_zero, List.set_cons_succ, List.getElem_toArray, List.getElem_cons_zero, List.getElem_cons_succ]
              refine wpAnyH_take (i := 17) (v := ?_) rfl (by kernel_rfl) (by kernel_rfl) (by kernel_rfl) (fun _ _ _ h => h) (Or.inl ⟨by rfl, ?_⟩) (by assumption) ?_
              rotate_left
              · (intro w hSw; (try dsimp only at hSw); go_simp) <;> with_reducible rfl
              try simp only [Act.put, List.setIfInBounds_toArray, List.set_cons_zero, List.set_cons_succ, List.getElem_toArray, List.getElem_cons_zero, List.getElem_cons_succ]
              refine wpAnyH_take (i := 18) (v := ?_) rfl (by kernel_rfl) (by kernel_rfl) (by kernel_rfl) (fun _ _ _ h => h) (Or.inl ⟨by rfl, ?_⟩) (by assumption) ?_
              rotate_left
              · (intro w hSw; (try dsimp only at hSw); go_simp) <;> with_reducible rfl
              try simp only [Act.put, List.setIfInBounds_toArray, List.set_cons_zero, List.set_cons_succ, List.getElem_toArray, List.getElem_cons_zero, List.getElem_cons_succ]
              refine wpAnyH_take (i := 19) (v := ?_) rfl (by kernel_rfl) (by kernel_rfl) (by kernel_rfl) (fun _ _ _ h => h) (Or.inl ⟨by rfl, ?_⟩) (by assumption) ?_
              rotate_left
              · (intro w hSw; (try dsimp only at hSw); go_simp) <;> with_reducible rfl
              try simp only [Act.put, List.setIfInBounds_toArray, List.set_cons_zero, List.set_cons_succ, List.getElem_toArray, List.getElem_cons_zero, List.getElem_cons_succ]
              refine wpAnyH_ready (rs := [20]) (by kernel_rfl) (by simp) ?_
              refine AllReadyH.cons rfl (fun K hK => ?_) AllReadyH.nil
              go_simp
              refine hK.out _ _ ?_ (fun hS1 => ?_)
              · (try dsimp only); (try simp only [World.cell?_drew]); (repeat' apply And.intro) <;> (first | (rw [World.cell?_alloc_at _ _ _ _ (by simp)]; exact e1) | (rw [World.cell?_alloc_at _ _ _ _ (by simp)]; exact e4) | (rw [c_lt (by simp), World.cell?_alloc_at _ _ _ _ (by simp)]; exact e1) | (rw [c_lt (by simp), World.cell?_alloc_at _ _ _ _ (by simp)]; exact e4) | (go_keep; done))
              clear hS1 hK K hHeld
              refine wpAnyH_done (by kernel_rfl) ?_ _
              go_wp2_with fail
              refine bodyPost_ret (v := .agg #[.string (keyN p1), .int .i64 (1 + (p2 : Int)), .int .i64 (p3 : Int), .string (valN p4)]) (by simp [results, Tryz.results78, go_sem, hw]) rfl ⟨rfl, ?_⟩
              repeat first | exact Below.refl _ _ | refine Below.drew ?_ | refine Below.alloc ?_ (by simp <;> omega) _
            exact AllReadyH.nil
          refine AllReadyH.cons rfl (fun K hK => ?_) ?_
          · skip
            go_simp
            go_wp2_with (go_at_call 11; refine (HP4.out _).mono ?_; rintro e w' ⟨rfl, rfl⟩)
            refine hK.out _ _ (by assumption) (fun hS1 => ?_)
            clear hS1 hK K
            try simp only [Act.put, List.setIfInBounds_toArray, List.set_cons_zero, List.set_cons_succ, List.getElem_toArray, List.getElem_cons_zero, List.getElem_cons_succ]
            refine wpAnyH_take (i := 17) (v := ?_) rfl (by kernel_rfl) (by kernel_rfl) (by kernel_rfl) (fun _ _ _ h => h) (Or.inl ⟨by rfl, ?_⟩) (by assumption) ?_
            rotate_left
            · (intro w hSw; (try dsimp only at hSw); go_simp) <;> with_reducible rfl
            try simp only [Act.put, List.setIfInBounds_toArray, List.set_cons_zero, List.set_cons_succ, List.getElem_toArray, List.getElem_cons_zero, List.getElem_cons_succ]
            refine wpAnyH_take (i := 18) (v := ?_) rfl (by kernel_rfl) (by kernel_rfl) (by kernel_rfl) (fun _ _ _ h => h) (Or.inl ⟨by rfl, ?_⟩) (by assumption) ?_
            rotate_left
            · (intro w hSw; (try dsimp only at hSw); go_simp) <;> with_reducible rfl
            try simp only [Act.put, List.setIfInBounds_toArray, List.set_cons_zero, List.set_cons_succ, List.getElem_toArray, List.getElem_cons_zero, List.getElem_cons_succ]
            refine wpAnyH_ready (rs := [0]) (by kernel_rfl) (by simp) ?_
            refine AllReadyH.cons rfl (fun K hK => ?_) ?_
            · skip
              go_simp
              refine hK.out _ _ ?_ (fun hS1 => ?_)
              · (try dsimp only); (try simp only [World.cell?_drew]); (repeat' apply And.intro) <;> (first | (rw [World.cell?_alloc_at _ _ _ _ (by simp)]; exact e1) | (rw [World.cell?_alloc_at _ _ _ _ (by simp)]; exact e4) | (rw [c_lt (by simp), World.cell?_alloc_at _ _ _ _ (by simp)]; exact e1) | (rw [c_lt (by simp), World.cell?_alloc_at _ _ _ _ (by simp)]; exact e4) | (go_keep; done))
              clear hHeld hK K
              refine wpAnyH_more (F := fun w' => w'.cell? ⟨w.heap.size + 1 + 1 + 1, p1, none⟩ = some (.string (keyN p1))) hS1 ?_ (fun hHeld => ?_)
              · simp only [World.cell?_drew]
                rw [World.cell?_alloc_at _ _ _ _ (by simp)]
                exact e1
              clear hS1
              try simp only [Act.put, List.setIfInBounds_toArray, List.set_cons_zero, List.set_cons_succ, List.getElem_toArray, List.getElem_cons_zero, List.getElem_cons_succ]
              refine wpAnyH_take (i := 4) (v := ?_) rfl (by kernel_rfl) (by kernel_rfl) (by kernel_rfl) (fun _ _ _ h => h) (Or.inl ⟨by rfl, ?_⟩) (by assumption) ?_
              rotate_left
              · (intro w hSw; (try dsimp only at hSw); go_simp) <;> with_reducible rfl
              try simp only [Act.put, List.setIfInBounds_toArray, List.set_cons_zero, List.set_cons_succ, List.getElem_toArray, List.getElem_cons_zero, List.getElem_cons_succ]
              refine wpAnyH_take (i := 5) (v := ?_) rfl (by kernel_rfl) (by kernel_rfl) (by kernel_rfl) (fun _ _ _ h => h) (Or.inl ⟨by rfl, ?_⟩) (by assumption) ?_
              rotate_left
              · (intro w hSw; (try dsimp only at hSw); go_simp) <;> with_reducible rfl
              try simp only [Act.put, List.setIfInBounds_toArray, List.set_cons_zero, List.set_cons_succ, List.getElem_toArray, List.getElem_cons_zero, List.getElem_cons_succ]
              refine wpAnyH_take (i := 19) (v := ?_) rfl (by kernel_rfl) (by kernel_rfl) (by kernel_rfl) (fun _ _ _ h => h) (Or.inl ⟨by rfl, ?_⟩) (by assumption) ?_
              rotate_left
              · (intro w hSw; (try dsimp only at hSw); go_simp) <;> with_reducible rfl
              try simp only [Act.put, List.setIfInBounds_toArray, List.set_cons_zero, List.set_cons_succ, List.getElem_toArray, List.getElem_cons_zero, List.getElem_cons_succ]
              refine wpAnyH_ready (rs := [20]) (by kernel_rfl) (by simp) ?_
              refine AllReadyH.cons rfl (fun K hK => ?_) AllReadyH.nil
              go_simp
              refine hK.out _ _ ?_ (fun hS1 => ?_)
              · (try dsimp only); (try simp only [World.cell?_drew]); (repeat' apply And.intro) <;> (first | (rw [World.cell?_alloc_at _ _ _ _ (by simp)]; exact e1) | (rw [World.cell?_alloc_at _ _ _ _ (by simp)]; exact e4) | (rw [c_lt (by simp), World.cell?_alloc_at _ _ _ _ (by simp)]; exact e1) | (rw [c_lt (by simp), World.cell?_alloc_at _ _ _ _ (by simp)]; exact e4) | (go_keep; done))
              clear hS1 hK K hHeld
              refine wpAnyH_done (by kernel_rfl) ?_ _
              go_wp2_with fail
              refine bodyPost_ret (v := .agg #[.string (keyN p1), .int .i64 (1 + (p2 : Int)), .int .i64 (p3 : Int), .string (valN p4)]) (by simp [results, Tryz.results78, go_sem, hw]) rfl ⟨rfl, ?_⟩
              repeat first | exact Below.refl _ _ | refine Below.drew ?_ | refine Below.alloc ?_ (by simp <;> omega) _
            exact AllReadyH.nil
          exact AllReadyH.nil
        refine AllReadyH.cons rfl (fun K hK => ?_) ?_
        · skip
          go_simp
          go_wp2_with (go_at_call 11; refine (HP4.out _).mono ?_; rintro e w' ⟨rfl, rfl⟩)
          refine hK.out _ _ (by assumption) (fun hS1 => ?_)
          clear hS1 hK K
          try simp only [Act.put, List.setIfInBounds_toArray, List.set_cons_zero, List.set_cons_succ, List.getElem_toArray, List.getElem_cons_zero, List.getElem_cons_succ]
          refine wpAnyH_ready (rs := [0, 13]) (by kernel_rfl) (by simp) ?_
          refine AllReadyH.cons rfl (fun K hK => ?_) ?_
          · skip
            go_simp
            refine hK.out _ _ ?_ (fun hS1 => ?_)
            · (try dsimp only); (try simp only [World.cell?_drew]); (repeat' apply And.intro) <;> (first | (rw [World.cell?_alloc_at _ _ _ _ (by simp)]; exact e1) | (rw [World.cell?_alloc_at _ _ _ _ (by simp)]; exact e4) | (rw [c_lt (by simp), World.cell?_alloc_at _ _ _ _ (by simp)]; exact e1) | (rw [c_lt (by simp), World.cell?_alloc_at _ _ _ _ (by simp)]; exact e4) | (go_keep; done))
            clear hHeld hK K
            refine wpAnyH_more (F := fun w' => w'.cell? ⟨w.heap.size + 1 + 1, p1, none⟩ = some (.string (keyN p1))) hS1 ?_ (fun hHeld => ?_)
            · simp only [World.cell?_drew]
              rw [World.cell?_alloc_at _ _ _ _ (by simp)]
              exact e1
            clear hS1
            try simp only [Act.put, List.setIfInBounds_toArray, List.set_cons_zero, List.set_cons_succ, List.getElem_toArray, List.getElem_cons_zero, List.getElem_cons_succ]
            refine wpAnyH_take (i := 4) (v := ?_) rfl (by kernel_rfl) (by kernel_rfl) (by kernel_rfl) (fun _ _ _ h => h) (Or.inl ⟨by rfl, ?_⟩) (by assumption) ?_
            rotate_left
            · (intro w hSw; (try dsimp only at hSw); go_simp) <;> with_reducible rfl
            try simp only [Act.put, List.setIfInBounds_toArray, List.set_cons_zero, List.set_cons_succ, List.getElem_toArray, List.getElem_cons_zero, List.getElem_cons_succ]
            refine wpAnyH_take (i := 5) (v := ?_) rfl (by kernel_rfl) (by kernel_rfl) (by kernel_rfl) (fun _ _ _ h => h) (Or.inl ⟨by rfl, ?_⟩) (by assumption) ?_
            rotate_left
            · (intro w hSw; (try dsimp only at hSw); go_simp) <;> with_reducible rfl
            try simp only [Act.put, List.setIfInBounds_toArray, List.set_cons_zero, List.set_cons_succ, List.getElem_toArray, List.getElem_cons_zero, List.getElem_cons_succ]
            refine wpAnyH_ready (rs := [13]) (by kernel_rfl) (by simp) ?_
            refine AllReadyH.cons rfl (fun K hK => ?_) ?_
            · skip
              go_simp
              refine hK.out _ _ ?_ (fun hS1 => ?_)
              · (try dsimp only); (try simp only [World.cell?_drew]); (repeat' apply And.intro) <;> (first | (rw [World.cell?_alloc_at _ _ _ _ (by simp)]; exact e1) | (rw [World.cell?_alloc_at _ _ _ _ (by simp)]; exact e4) | (rw [c_lt (by simp), World.cell?_alloc_at _ _ _ _ (by simp)]; exact e1) | (rw [c_lt (by simp), World.cell?_alloc_at _ _ _ _ (by simp)]; exact e4) | (go_keep; done))
              clear hHeld hK K
              refine wpAnyH_more (F := fun w' => w'.cell? ⟨w.heap.size + 1 + 1 + 1, p4, none⟩ = some (.string (valN p4))) hS1 ?_ (fun hHeld => ?_)
              · simp only [World.cell?_drew]
                rw [World.cell?_alloc_at _ _ _ _ (by simp)]
                exact e4
              clear hS1
              try simp only [Act.put, List.setIfInBounds_toArray, List.set_cons_zero, List.set_cons_succ, List.getElem_toArray, List.getElem_cons_zero, List.getElem_cons_succ]
              refine wpAnyH_take (i := 17) (v := ?_) rfl (by kernel_rfl) (by kernel_rfl) (by kernel_rfl) (fun _ _ _ h => h) (Or.inl ⟨by rfl, ?_⟩) (by assumption) ?_
              rotate_left
              · (intro w hSw; (try dsimp only at hSw); go_simp) <;> with_reducible rfl
              try simp only [Act.put, List.setIfInBounds_toArray, List.set_cons_zero, List.set_cons_succ, List.getElem_toArray, List.getElem_cons_zero, List.getElem_cons_succ]
              refine wpAnyH_take (i := 18) (v := ?_) rfl (by kernel_rfl) (by kernel_rfl) (by kernel_rfl) (fun _ _ _ h => h) (Or.inl ⟨by rfl, ?_⟩) (by assumption) ?_
              rotate_left
              · (intro w hSw; (try dsimp only at hSw); go_simp) <;> with_reducible rfl
              try simp only [Act.put, List.setIfInBounds_toArray, List.set_cons_zero, List.set_cons_succ, List.getElem_toArray, List.getElem_cons_zero, List.getElem_cons_succ]
              refine wpAnyH_take (i := 19) (v := ?_) rfl (by kernel_rfl) (by kernel_rfl) (by kernel_rfl) (fun _ _ _ h => h) (Or.inl ⟨by rfl, ?_⟩) (by assumption) ?_
              rotate_left
              · (intro w hSw; (try dsimp only at hSw); go_simp) <;> with_reducible rfl
              try simp only [Act.put, List.setIfInBounds_toArray, List.set_cons_zero, List.set_cons_succ, List.getElem_toArray, List.getElem_cons_zero, List.getElem_cons_succ]
              refine wpAnyH_ready (rs := [20]) (by kernel_rfl) (by simp) ?_
              refine AllReadyH.cons rfl (fun K hK => ?_) AllReadyH.nil
              go_simp
              refine hK.out _ _ ?_ (fun hS1 => ?_)
              · (try dsimp only); (try simp only [World.cell?_drew]); (repeat' apply And.intro) <;> (first | (rw [World.cell?_alloc_at _ _ _ _ (by simp)]; exact e1) | (rw [World.cell?_alloc_at _ _ _ _ (by simp)]; exact e4) | (rw [c_lt (by simp), World.cell?_alloc_at _ _ _ _ (by simp)]; exact e1) | (rw [c_lt (by simp), World.cell?_alloc_at _ _ _ _ (by simp)]; exact e4) | (go_keep; done))
              clear hS1 hK K hHeld
              refine wpAnyH_done (by kernel_rfl) ?_ _
              go_wp2_with fail
              refine bodyPost_ret (v := .agg #[.string (keyN p1), .int .i64 (1 + (p2 : Int)), .int .i64 (p3 : Int), .string (valN p4)]) (by simp [results, Tryz.results78, go_sem, hw]) rfl ⟨rfl, ?_⟩
              repeat first | exact Below.refl _ _ | refine Below.drew ?_ | refine Below.alloc ?_ (by simp <;> omega) _
            exact AllReadyH.nil
          refine AllReadyH.cons rfl (fun K hK => ?_) ?_
          · skip
            go_simp
            refine hK.out _ _ ?_ (fun hS1 => ?_)
            · (try dsimp only); (try simp only [World.cell?_drew]); (repeat' apply And.intro) <;> (first | (rw [World.cell?_alloc_at _ _ _ _ (by simp)]; exact e1) | (rw [World.cell?_alloc_at _ _ _ _ (by simp)]; exact e4) | (rw [c_lt (by simp), World.cell?_alloc_at _ _ _ _ (by simp)]; exact e1) | (rw [c_lt (by simp), World.cell?_alloc_at _ _ _ _ (by simp)]; exact e4) | (go_keep; done))
            clear hHeld hK K
            refine wpAnyH_more (F := fun w' => w'.cell? ⟨w.heap.size + 1 + 1, p4, none⟩ = some (.string (valN p4))) hS1 ?_ (fun hHeld => ?_)
            · simp only [World.cell?_drew]
              rw [World.cell?_alloc_at _ _ _ _ (by simp)]
              exact e4
            clear hS1
            try simp only [Act.put, List.setIfInBounds_toArray, List.set_cons_zero, List.set_cons_succ, List.getElem_toArray, List.getElem_cons_zero, List.getElem_cons_succ]
            refine wpAnyH_take (i := 17) (v := ?_) rfl (by kernel_rfl) (by kernel_rfl) (by kernel_rfl) (fun _ _ _ h => h) (Or.inl ⟨by rfl, ?_⟩) (by assumption) ?_
            rotate_left
            · (intro w hSw; (try dsimp only at hSw); go_simp) <;> with_reducible rfl
            try simp only [Act.put, List.setIfInBounds_toArray, List.set_cons_zero, List.set_cons_succ, List.getElem_toArray, List.getElem_cons_zero, List.getElem_cons_succ]
            refine wpAnyH_take (i := 18) (v := ?_) rfl (by kernel_rfl) (by kernel_rfl) (by kernel_rfl) (fun _ _ _ h => h) (Or.inl ⟨by rfl, ?_⟩) (by assumption) ?_
            rotate_left
            · (intro w hSw; (try dsimp only at hSw); go_simp) <;> with_reducible rfl
            try simp only [Act.put, List.setIfInBounds_toArray, List.set_cons_zero, List.set_cons_succ, List.getElem_toArray, List.getElem_cons_zero, List.getElem_cons_succ]
            refine wpAnyH_ready (rs := [0]) (by kernel_rfl) (by simp) ?_
            refine AllReadyH.cons rfl (fun K hK => ?_) ?_
            · skip
              go_simp
              refine hK.out _ _ ?_ (fun hS1 => ?_)
              · (try dsimp only); (try simp only [World.cell?_drew]); (repeat' apply And.intro) <;> (first | (rw [World.cell?_alloc_at _ _ _ _ (by simp)]; exact e1) | (rw [World.cell?_alloc_at _ _ _ _ (by simp)]; exact e4) | (rw [c_lt (by simp), World.cell?_alloc_at _ _ _ _ (by simp)]; exact e1) | (rw [c_lt (by simp), World.cell?_alloc_at _ _ _ _ (by simp)]; exact e4) | (go_keep; done))
              clear hHeld hK K
              refine wpAnyH_more (F := fun w' => w'.cell? ⟨w.heap.size + 1 + 1 + 1, p1, none⟩ = some (.string (keyN p1))) hS1 ?_ (fun hHeld => ?_)
              · simp only [World.cell?_drew]
                rw [World.cell?_alloc_at _ _ _ _ (by simp)]
                exact e1
              clear hS1
              try simp only [Act.put, List.setIfInBounds_toArray, List.set_cons_zero, List.set_cons_succ, List.getElem_toArray, List.getElem_cons_zero, List.getElem_cons_succ]
              refine wpAnyH_take (i := 4) (v := ?_) rfl (by kernel_rfl) (by kernel_rfl) (by kernel_rfl) (fun _ _ _ h => h) (Or.inl ⟨by rfl, ?_⟩) (by assumption) ?_
              rotate_left
              · (intro w hSw; (try dsimp only at hSw); go_simp) <;> with_reducible rfl
              try simp only [Act.put, List.setIfInBounds_toArray, List.set_cons_zero, List.set_cons_succ, List.getElem_toArray, List.getElem_cons_zero, List.getElem_cons_succ]
              refine wpAnyH_take (i := 5) (v := ?_) rfl (by kernel_rfl) (by kernel_rfl) (by kernel_rfl) (fun _ _ _ h => h) (Or.inl ⟨by rfl, ?_⟩) (by assumption) ?_
              rotate_left
              · (intro w hSw; (try dsimp only at hSw); go_simp) <;> with_reducible rfl
              try simp only [Act.put, List.setIfInBounds_toArray, List.set_cons_zero, List.set_cons_succ, List.getElem_toArray, List.getElem_cons_zero, List.getElem_cons_succ]
              refine wpAnyH_take (i := 19) (v := ?_) rfl (by kernel_rfl) (by kernel_rfl) (by kernel_rfl) (fun _ _ _ h => h) (Or.inl ⟨by rfl, ?_⟩) (by assumption) ?_
              rotate_left
              · (intro w hSw; (try dsimp only at hSw); go_simp) <;> with_reducible rfl
              try simp only [Act.put, List.setIfInBounds_toArray, List.set_cons_zero, List.set_cons_succ, List.getElem_toArray, List.getElem_cons_zero, List.getElem_cons_succ]
              refine wpAnyH_ready (rs := [20]) (by kernel_rfl) (by simp) ?_
              refine AllReadyH.cons rfl (fun K hK => ?_) AllReadyH.nil
              go_simp
              refine hK.out _ _ ?_ (fun hS1 => ?_)
              · (try dsimp only); (try simp only [World.cell?_drew]); (repeat' apply And.intro) <;> (first | (rw [World.cell?_alloc_at _ _ _ _ (by simp)]; exact e1) | (rw [World.cell?_alloc_at _ _ _ _ (by simp)]; exact e4) | (rw [c_lt (by simp), World.cell?_alloc_at _ _ _ _ (by simp)]; exact e1) | (rw [c_lt (by simp), World.cell?_alloc_at _ _ _ _ (by simp)]; exact e4) | (go_keep; done))
              clear hS1 hK K hHeld
              refine wpAnyH_done (by kernel_rfl) ?_ _
              go_wp2_with fail
              refine bodyPost_ret (v := .agg #[.string (keyN p1), .int .i64 (1 + (p2 : Int)), .int .i64 (p3 : Int), .string (valN p4)]) (by simp [results, Tryz.results78, go_sem, hw]) rfl ⟨rfl, ?_⟩
              repeat first | exact Below.refl _ _ | refine Below.drew ?_ | refine Below.alloc ?_ (by simp <;> omega) _
            exact AllReadyH.nil
          exact AllReadyH.nil
        exact AllReadyH.nil
      refine AllReadyH.cons rfl (fun K hK => ?_) ?_
      · skip
        go_simp
        refine hK.out _ _ ?_ (fun hS1 => ?_)
        · (try dsimp only); (try simp only [World.cell?_drew]); (repeat' apply And.intro) <;> (first | (rw [World.cell?_alloc_at _ _ _ _ (by simp)]; exact e1) | (rw [World.cell?_alloc_at _ _ _ _ (by simp)]; exact e4) | (rw [c_lt (by simp), World.cell?_alloc_at _ _ _ _ (by simp)]; exact e1) | (rw [c_lt (by simp), World.cell?_alloc_at _ _ _ _ (by simp)]; exact e4) | (go_keep; done))
        clear hHeld hK K
        refine wpAnyH_more (F := fun w' => w'.cell? ⟨w.heap.size + 1 + 1, p4, none⟩ = some (.string (valN p4))) hS1 ?_ (fun hHeld => ?_)
        · simp only [World.cell?_drew]
          rw [World.cell?_alloc_at _ _ _ _ (by simp)]
          exact e4
        clear hS1
        try simp only [Act.put, List.setIfInBounds_toArray, List.set_cons_zero, List.set_cons_succ, List.getElem_toArray, List.getElem_cons_zero, List.getElem_cons_succ]
        refine wpAnyH_ready (rs := [0, 12]) (by kernel_rfl) (by simp) ?_
        refine AllReadyH.cons rfl (fun K hK => ?_) ?_
        · skip
          go_simp
          refine hK.out _ _ ?_ (fun hS1 => ?_)
          · (try dsimp only); (try simp only [World.cell?_drew]); (repeat' apply And.intro) <;> (first | (rw [World.cell?_alloc_at _ _ _ _ (by simp)]; exact e1) | (rw [World.cell?_alloc_at _ _ _ _ (by simp)]; exact e4) | (rw [c_lt (by simp), World.cell?_alloc_at _ _ _ _ (by simp)]; exact e1) | (rw [c_lt (by simp), World.cell?_alloc_at _ _ _ _ (by simp)]; exact e4) | (go_keep; done))
          clear hHeld hK K
          refine wpAnyH_more (F := fun w' => w'.cell? ⟨w.heap.size + 1 + 1 + 1, p1, none⟩ = some (.string (keyN p1))) hS1 ?_ (fun hHeld => ?_)
          · simp only [World.cell?_drew]
            rw [World.cell?_alloc_at _ _ _ _ (by simp)]
            exact e1
          clear hS1
          try simp only [Act.put, List.setIfInBounds_toArray, List.set_cons_zero, List.set_cons_succ, List.getElem_toArray, List.getElem_cons_zero, List.getElem_cons_succ]
          refine wpAnyH_take (i := 4) (v := ?_) rfl (by kernel_rfl) (by kernel_rfl) (by kernel_rfl) (fun _ _ _ h => h) (Or.inl ⟨by rfl, ?_⟩) (by assumption) ?_
          rotate_left
          · (intro w hSw; (try dsimp only at hSw); go_simp) <;> with_reducible rfl
          try simp only [Act.put, List.setIfInBounds_toArray, List.set_cons_zero, List.set_cons_succ, List.getElem_toArray, List.getElem_cons_zero, List.getElem_cons_succ]
          refine wpAnyH_take (i := 5) (v := ?_) rfl (by kernel_rfl) (by kernel_rfl) (by kernel_rfl) (fun _ _ _ h => h) (Or.inl ⟨by rfl, ?_⟩) (by assumption) ?_
          rotate_left
          · (intro w hSw; (try dsimp only at hSw); go_simp) <;> with_reducible rfl
          try simp only [Act.put, List.setIfInBounds_toArray, List.set_cons_zero, List.set_cons_succ, List.getElem_toArray, List.getElem_cons_zero, List.getElem_cons_succ]
          refine wpAnyH_ready (rs := [12]) (by kernel_rfl) (by simp) ?_
          refine AllReadyH.cons rfl (fun K hK => ?_) ?_
          · skip
            go_simp
            go_wp2_with (go_at_call 11; refine (HP3.out _).mono ?_; rintro e w' ⟨rfl, rfl⟩)
            refine hK.out _ _ (by assumption) (fun hS1 => ?_)
            clear hS1 hK K
            try simp only [Act.put, List.setIfInBounds_toArray, List.set_cons_zero, List.set_cons_succ, List.getElem_toArray, List.getElem_cons_zero, List.getElem_cons_succ]
            refine wpAnyH_ready (rs := [16]) (by kernel_rfl) (by simp) ?_
            refine AllReadyH.cons rfl (fun K hK => ?_) ?_
            · skip
              go_simp
              go_wp2_with (go_at_call 11; refine (HP4.out _).mono ?_; rintro e w' ⟨rfl, rfl⟩)
              refine hK.out _ _ (by assumption) (fun hS1 => ?_)
              clear hS1 hK K
              try simp only [Act.put, List.setIfInBounds_toArray, List.set_cons_zero, List.set_cons_succ, List.getElem_toArray, List.getElem_cons_zero, List.getElem_cons_succ]
              refine wpAnyH_take (i := 17) (v := ?_) rfl (by kernel_rfl) (by kernel_rfl) (by kernel_rfl) (fun _ _ _ h => h) (Or.inl ⟨by rfl, ?_⟩) (by assumption) ?_
              rotate_left
              · (intro w hSw; (try dsimp only at hSw); go_simp) <;> with_reducible rfl
              try simp only [Act.put, List.setIfInBounds_toArray, List.set_cons_zero, List.set_cons_succ, List.getElem_toArray, List.getElem_cons_zero, List.getElem_cons_succ]
              refine wpAnyH_take (i := 18) (v := ?_) rfl (by kernel_rfl) (by kernel_rfl) (by kernel_rfl) (fun _ _ _ h => h) (Or.inl ⟨by rfl, ?_⟩) (by assumption) ?_
              rotate_left
              · (intro w hSw; (try dsimp only at hSw); go_simp) <;> with_reducible rfl
              try simp only [Act.put, List.setIfInBounds_toArray, List.set_cons_zero, List.set_cons_succ, List.getElem_toArray, List.getElem_cons_zero, List.getElem_cons_succ]
              refine wpAnyH_take (i := 19) (v := ?_) rfl (by kernel_rfl) (by kernel_rfl) (by kernel_rfl) (fun _ _ _ h => h) (Or.inl ⟨by rfl, ?_⟩) (by assumption) ?_
              rotate_left
              · (intro w hSw; (try dsimp only at hSw); go_simp) <;> with_reducible rfl
              try simp only [Act.put, List.setIfInBounds_toArray, List.set_cons_zero, List.set_cons_succ, List.getElem_toArray, List.getElem_cons_zero, List.getElem_cons_succ]
              refine wpAnyH_ready (rs := [20]) (by kernel_rfl) (by simp) ?_
              refine AllReadyH.cons rfl (fun K hK => ?_) AllReadyH.nil
              go_simp
              refine hK.out _ _ ?_ (fun hS1 => ?_)
              · (try dsimp only); (try simp only [World.cell?_drew]); (repeat' apply And.intro) <;> (first | (rw [World.cell?_alloc_at _ _ _ _ (by simp)]; exact e1) | (rw [World.cell?_alloc_at _ _ _ _ (by simp)]; exact e4) | (rw [c_lt (by simp), World.cell?_alloc_at _ _ _ _ (by simp)]; exact e1) | (rw [c_lt (by simp), World.cell?_alloc_at _ _ _ _ (by simp)]; exact e4) | (go_keep; done))
              clear hS1 hK K hHeld
              refine wpAnyH_done (by kernel_rfl) ?_ _
              go_wp2_with fail
              refine bodyPost_ret (v := .agg #[.string (keyN p1), .int .i64 (1 + (p2 : Int)), .int .i64 (p3 : Int), .string (valN p4)]) (by simp [results, Tryz.results78, go_sem, hw]) rfl ⟨rfl, ?_⟩
              repeat first | exact Below.refl _ _ | refine Below.drew ?_ | refine Below.alloc ?_ (by simp <;> omega) _
            exact AllReadyH.nil
          exact AllReadyH.nil
        refine AllReadyH.cons rfl (fun K hK => ?_) ?_
        · skip
          go_simp
          go_wp2_with (go_at_call 11; refine (HP3.out _).mono ?_; rintro e w' ⟨rfl, rfl⟩)
          refine hK.out _ _ (by assumption) (fun hS1 => ?_)
          clear hS1 hK K
          try simp only [Act.put, List.setIfInBounds_toArray, List.set_cons_zero, List.set_cons_succ, List.getElem_toArray, List.getElem_cons_zero, List.getElem_cons_succ]
          refine wpAnyH_ready (rs := [0, 16]) (by kernel_rfl) (by simp) ?_
          refine AllReadyH.cons rfl (fun K hK => ?_) ?_
          · skip
            go_simp
            refine hK.out _ _ ?_ (fun hS1 => ?_)
            · (try dsimp only); (try simp only [World.cell?_drew]); (repeat' apply And.intro) <;> (first | (rw [World.cell?_alloc_at _ _ _ _ (by simp)]; exact e1) | (rw [World.cell?_alloc_at _ _ _ _ (by simp)]; exact e4) | (rw [c_lt (by simp), World.cell?_alloc_at _ _ _ _ (by simp)]; exact e1) | (rw [c_lt (by simp), World.cell?_alloc_at _ _ _ _ (by simp)]; exact e4) | (go_keep; done))
            clear hHeld hK K
            refine wpAnyH_more (F := fun w' => w'.cell? ⟨w.heap.size + 1 + 1 + 1, p1, none⟩ = some (.string (keyN p1))) hS1 ?_ (fun hHeld => ?_)
            · simp only [World.cell?_drew]
              rw [World.cell?_alloc_at _ _ _ _ (by simp)]
              exact e1
            clear hS1
            try simp only [Act.put, List.setIfInBounds_toArray, List.set_cons_zero, List.set_cons_succ, List.getElem_toArray, List.getElem_cons_zero, List.getElem_cons_succ]
            refine wpAnyH_take (i := 4) (v := ?_) rfl (by kernel_rfl) (by kernel_rfl) (by kernel_rfl) (fun _ _ _ h => h) (Or.inl ⟨by rfl, ?_⟩) (by assumption) ?_
            rotate_left
            · (intro w hSw; (try dsimp only at hSw); go_simp) <;> with_reducible rfl
            try simp only [Act.put, List.setIfInBounds_toArray, List.set_cons_zero, List.set_cons_succ, List.getElem_toArray, List.getElem_cons_zero, List.getElem_cons_succ]
            refine wpAnyH_take (i := 5) (v := ?_) rfl (by kernel_rfl) (by kernel_rfl) (by kernel_rfl) (fun _ _ _ h => h) (Or.inl ⟨by rfl, ?_⟩) (by assumption) ?_
            rotate_left
            · (intro w hSw; (try dsimp only at hSw); go_simp) <;> with_reducible rfl
            try simp only [Act.put, List.setIfInBounds_toArray, List.set_cons_zero, List.set_cons_succ, List.getElem_toArray, List.getElem_cons_zero, List.getElem_cons_succ]
            refine wpAnyH_ready (rs := [16]) (by kernel_rfl) (by simp) ?_
            refine AllReadyH.cons rfl (fun K hK => ?_) ?_
            · skip
              go_simp
              go_wp2_with (go_at_call 11; refine (HP4.out _).mono ?_; rintro e w' ⟨rfl, rfl⟩)
              refine hK.out _ _ (by assumption) (fun hS1 => ?_)
              clear hS1 hK K
              try simp only [Act.put, List.setIfInBounds_toArray, List.set_cons_zero, List.set_cons_succ, List.getElem_toArray, List.getElem_cons_zero, List.getElem_cons_succ]
              refine wpAnyH_take (i := 17) (v := ?_) rfl (by kernel_rfl) (by kernel_rfl) (by kernel_rfl) (fun _ _ _ h => h) (Or.inl ⟨by rfl, ?_⟩) (by assumption) ?_
              rotate_left
              · (intro w hSw; (try dsimp only at hSw); go_simp) <;> with_reducible rfl
              try simp only [Act.put, List.setIfInBounds_toArray, List.set_cons_zero, List.set_cons_succ, List.getElem_toArray, List.getElem_cons_zero, List.getElem_cons_succ]
              refine wpAnyH_take (i := 18) (v := ?_) rfl (by kernel_rfl) (by kernel_rfl) (by kernel_rfl) (fun _ _ _ h => h) (Or.inl ⟨by rfl, ?_⟩) (by assumption) ?_
              rotate_left
              · (intro w hSw; (try dsimp only at hSw); go_simp) <;> with_reducible rfl
              try simp only [Act.put, List.setIfInBounds_toArray, List.set_cons_zero, List.set_cons_succ, List.getElem_toArray, List.getElem_cons_zero, List.getElem_cons_succ]
              refine wpAnyH_take (i := 19) (v := ?_) rfl (by kernel_rfl) (by kernel_rfl) (by kernel_rfl) (fun _ _ _ h => h) (Or.inl ⟨by rfl, ?_⟩) (by assumption) ?_
              rotate_left
              · (intro w hSw; (try dsimp only at hSw); go_simp) <;> with_reducible rfl
              try simp only [Act.put, List.setIfInBounds_toArray, List.set_cons_zero, List.set_cons_succ, List.getElem_toArray, List.getElem_cons_zero, List.getElem_cons_succ]
              refine wpAnyH_ready (rs := [20]) (by kernel_rfl) (by simp) ?_
              refine AllReadyH.cons rfl (fun K hK => ?_) AllReadyH.nil
              go_simp
              refine hK.out _ _ ?_ (fun hS1 => ?_)
              · (try dsimp only); (try simp only [World.cell?_drew]); (repeat' apply And.intro) <;> (first | (rw [World.cell?_alloc_at _ _ _ _ (by simp)]; exact e1) | (rw [World.cell?_alloc_at _ _ _ _ (by simp)]; exact e4) | (rw [c_lt (by simp), World.cell?_alloc_at _ _ _ _ (by simp)]; exact e1) | (rw [c_lt (by simp), World.cell?_alloc_at _ _ _ _ (by simp)]; exact e4) | (go_keep; done))
              clear hS1 hK K hHeld
              refine wpAnyH_done (by kernel_rfl) ?_ _
              go_wp2_with fail
              refine bodyPost_ret (v := .agg #[.string (keyN p1), .int .i64 (1 + (p2 : Int)), .int .i64 (p3 : Int), .string (valN p4)]) (by simp [results, Tryz.results78, go_sem, hw]) rfl ⟨rfl, ?_⟩
              repeat first | exact Below.refl _ _ | refine Below.drew ?_ | refine Below.alloc ?_ (by simp <;> omega) _
            exact AllReadyH.nil
          refine AllReadyH.cons rfl (fun K hK => ?_) ?_
          · skip
            go_simp
            go_wp2_with (go_at_call 11; refine (HP4.out _).mono ?_; rintro e w' ⟨rfl, rfl⟩)
            refine hK.out _ _ (by assumption) (fun hS1 => ?_)
            clear hS1 hK K
            try simp only [Act.put, List.setIfInBounds_toArray, List.set_cons_zero, List.set_cons_succ, List.getElem_toArray, List.getElem_cons_zero, List.getElem_cons_succ]
            refine wpAnyH_take (i := 17) (v := ?_) rfl (by kernel_rfl) (by kernel_rfl) (by kernel_rfl) (fun _ _ _ h => h) (Or.inl ⟨by rfl, ?_⟩) (by assumption) ?_
            rotate_left
            · (intro w hSw; (try dsimp only at hSw); go_simp) <;> with_reducible rfl
            try simp only [Act.put, List.setIfInBounds_toArray, List.set_cons_zero, List.set_cons_succ, List.getElem_toArray, List.getElem_cons_zero, List.getElem_cons_succ]
            refine wpAnyH_take (i := 18) (v := ?_) rfl (by kernel_rfl) (by kernel_rfl) (by kernel_rfl) (fun _ _ _ h => h) (Or.inl ⟨by rfl, ?_⟩) (by assumption) ?_
            rotate_left
            · (intro w hSw; (try dsimp only at hSw); go_simp) <;> with_reducible rfl
            try simp only [Act.put, List.setIfInBounds_toArray, List.set_cons_zero, List.set_cons_succ, List.getElem_toArray, List.getElem_cons_zero, List.getElem_cons_succ]
            refine wpAnyH_ready (rs := [0]) (by kernel_rfl) (by simp) ?_
            refine AllReadyH.cons rfl (fun K hK => ?_) ?_
            · skip
              go_simp
              refine hK.out _ _ ?_ (fun hS1 => ?_)
              · (try dsimp only); (try simp only [World.cell?_drew]); (repeat' apply And.intro) <;> (first | (rw [World.cell?_alloc_at _ _ _ _ (by simp)]; exact e1) | (rw [World.cell?_alloc_at _ _ _ _ (by simp)]; exact e4) | (rw [c_lt (by simp), World.cell?_alloc_at _ _ _ _ (by simp)]; exact e1) | (rw [c_lt (by simp), World.cell?_alloc_at _ _ _ _ (by simp)]; exact e4) | (go_keep; done))
              clear hHeld hK K
              refine wpAnyH_more (F := fun w' => w'.cell? ⟨w.heap.size + 1 + 1 + 1, p1, none⟩ = some (.string (keyN p1))) hS1 ?_ (fun hHeld => ?_)
              · simp only [World.cell?_drew]
                rw [World.cell?_alloc_at _ _ _ _ (by simp)]
                exact e1
              clear hS1
              try simp only [Act.put, List.setIfInBounds_toArray, List.set_cons_zero, List.set_cons_succ, List.getElem_toArray, List.getElem_cons_zero, List.getElem_cons_succ]
              refine wpAnyH_take (i := 4) (v := ?_) rfl (by kernel_rfl) (by kernel_rfl) (by kernel_rfl) (fun _ _ _ h => h) (Or.inl ⟨by rfl, ?_⟩) (by assumption) ?_
              rotate_left
              · (intro w hSw; (try dsimp only at hSw); go_simp) <;> with_reducible rfl
              try simp only [Act.put, List.setIfInBounds_toArray, List.set_cons_zero, List.set_cons_succ, List.getElem_toArray, List.getElem_cons_zero, List.getElem_cons_succ]
              refine wpAnyH_take (i := 5) (v := ?_) rfl (by kernel_rfl) (by kernel_rfl) (by kernel_rfl) (fun _ _ _ h => h) (Or.inl ⟨by rfl, ?_⟩) (by assumption) ?_
              rotate_left
              · (intro w hSw; (try dsimp only at hSw); go_simp) <;> with_reducible rfl
              try simp only [Act.put, List.setIfInBounds_toArray, List.set_cons_zero, List.set_cons_succ, List.getElem_toArray, List.getElem_cons_zero, List.getElem_cons_succ]
              refine wpAnyH_take (i := 19) (v := ?_) rfl (by kernel_rfl) (by kernel_rfl) (by kernel_rfl) (fun _ _ _ h => h) (Or.inl ⟨by rfl, ?_⟩) (by assumption) ?_
              rotate_left
              · (intro w hSw; (try dsimp only at hSw); go_simp) <;> with_reducible rfl
              try simp only [Act.put, List.setIfInBounds_toArray, List.set_cons_zero, List.set_cons_succ, List.getElem_toArray, List.getElem_cons_zero, List.getElem_cons_succ]
              refine wpAnyH_ready (rs := [20]) (by kernel_rfl) (by simp) ?_
              refine AllReadyH.cons rfl (fun K hK => ?_) AllReadyH.nil
              go_simp
              refine hK.out _ _ ?_ (fun hS1 => ?_)
              · (try dsimp only); (try simp only [World.cell?_drew]); (repeat' apply And.intro) <;> (first | (rw [World.cell?_alloc_at _ _ _ _ (by simp)]; exact e1) | (rw [World.cell?_alloc_at _ _ _ _ (by simp)]; exact e4) | (rw [c_lt (by simp), World.cell?_alloc_at _ _ _ _ (by simp)]; exact e1) | (rw [c_lt (by simp), World.cell?_alloc_at _ _ _ _ (by simp)]; exact e4) | (go_keep; done))
              clear hS1 hK K hHeld
              refine wpAnyH_done (by kernel_rfl) ?_ _
              go_wp2_with fail
              refine bodyPost_ret (v := .agg #[.string (keyN p1), .int .i64 (1 + (p2 : Int)), .int .i64 (p3 : Int), .string (valN p4)]) (by simp [results, Tryz.results78, go_sem, hw]) rfl ⟨rfl, ?_⟩
              repeat first | exact Below.refl _ _ | refine Below.drew ?_ | refine Below.alloc ?_ (by simp <;> omega) _
            exact AllReadyH.nil
          exact AllReadyH.nil
        exact AllReadyH.nil
      exact AllReadyH.nil
    refine AllReadyH.cons rfl (fun K hK => ?_) ?_
    · skip
      go_simp
      refine hK.out _ _ ?_ (fun hS1 => ?_)
      · (try dsimp only); (try simp only [World.cell?_drew]); (repeat' apply And.intro) <;> (first | (rw [World.cell?_alloc_at _ _ _ _ (by simp)]; exact e1) | (rw [World.cell?_alloc_at _ _ _ _ (by simp)]; exact e4) | (rw [c_lt (by simp), World.cell?_alloc_at _ _ _ _ (by simp)]; exact e1) | (rw [c_lt (by simp), World.cell?_alloc_at _ _ _ _ (by simp)]; exact e4) | (go_keep; done))
      clear hHeld hK K
      refine wpAnyH_more (F := fun w' => w'.cell? ⟨w.heap.size + 1 + 1, p4, none⟩ = some (.string (valN p4))) hS1 ?_ (fun hHeld => ?_)
      · simp only [World.cell?_drew]
        rw [World.cell?_alloc_at _ _ _ _ (by simp)]
        exact e4
      clear hS1
      try simp only [Act.put, List.setIfInBounds_toArray, List.set_cons_zero, List.set_cons_succ, List.getElem_toArray, List.getElem_cons_zero, List.getElem_cons_succ]
      refine wpAnyH_ready (rs := [0, 8]) (by kernel_rfl) (by simp) ?_
      refine AllReadyH.cons rfl (fun K hK => ?_) ?_
      · skip
        go_simp
        refine hK.out _ _ ?_ (fun hS1 => ?_)
        · (try dsimp only); (try simp only [World.cell?_drew]); (repeat' apply And.intro) <;> (first | (rw [World.cell?_alloc_at _ _ _ _ (by simp)]; exact e1) | (rw [World.cell?_alloc_at _ _ _ _ (by simp)]; exact e4) | (rw [c_lt (by simp), World.cell?_alloc_at _ _ _ _ (by simp)]; exact e1) | (rw [c_lt (by simp), World.cell?_alloc_at _ _ _ _ (by simp)]; exact e4) | (go_keep; done))
        clear hHeld hK K
        refine wpAnyH_more (F := fun w' => w'.cell? ⟨w.heap.size + 1 + 1 + 1, p1, none⟩ = some (.string (keyN p1))) hS1 ?_ (fun hHeld => ?_)
        · simp only [World.cell?_drew]
          rw [World.cell?_alloc_at _ _ _ _ (by simp)]
          exact e1
        clear hS1
        try simp only [Act.put, List.setIfInBounds_toArray, List.set_cons_zero, List.set_cons_succ, List.getElem_toArray, List.getElem_cons_zero, List.getElem_cons_succ]
        refine wpAnyH_take (i := 4) (v := ?_) rfl (by kernel_rfl) (by kernel_rfl) (by kernel_rfl) (fun _ _ _ h => h) (Or.inl ⟨by rfl, ?_⟩) (by assumption) ?_
        rotate_left
        · (intro w hSw; (try dsimp only at hSw); go_simp) <;> with_reducible rfl
        try simp only [Act.put, List.setIfInBounds_toArray, List.set_cons_zero, List.set_cons_succ, List.getElem_toArray, List.getElem_cons_zero, List.getElem_cons_succ]
        refine wpAnyH_take (i := 5) (v := ?_) rfl (by kernel_rfl) (by kernel_rfl) (by kernel_rfl) (fun _ _ _ h => h) (Or.inl ⟨by rfl, ?_⟩) (by assumption) ?_
        rotate_left
        · (intro w hSw; (try dsimp only at hSw); go_simp) <;> with_reducible rfl
        try simp only [Act.put, List.setIfInBounds_toArray, List.set_cons_zero, List.set_cons_succ, List.getElem_toArray, List.getElem_cons_zero, List.getElem_cons_succ]
        refine wpAnyH_ready (rs := [8]) (by kernel_rfl) (by simp) ?_
        refine AllReadyH.cons rfl (fun K hK => ?_) ?_
        · skip
          go_simp
          go_wp2_with (go_at_call 11; refine (HP2.out _).mono ?_; rintro e w' ⟨rfl, rfl⟩)
          refine hK.out _ _ (by assumption) (fun hS1 => ?_)
          clear hS1 hK K
          try simp only [Act.put, List.setIfInBounds_toArray, List.set_cons_zero, List.set_cons_succ, List.getElem_toArray, List.getElem_cons_zero, List.getElem_cons_succ]
          refine wpAnyH_take (i := 9) (v := ?_) rfl (by kernel_rfl) (by kernel_rfl) (by kernel_rfl) (fun _ _ _ h => h) (Or.inl ⟨by rfl, ?_⟩) (by assumption) ?_
          rotate_left
          · (intro w hSw; (try dsimp only at hSw); go_simp) <;> with_reducible rfl
          try simp only [Act.put, List.setIfInBounds_toArray, List.set_cons_zero, List.set_cons_succ, List.getElem_toArray, List.getElem_cons_zero, List.getElem_cons_succ]
          refine wpAnyH_ready (rs := [12]) (by kernel_rfl) (by simp) ?_
          refine AllReadyH.cons rfl (fun K hK => ?_) ?_
          · skip
            go_simp
            go_wp2_with (go_at_call 11; refine (HP3.out _).mono ?_; rintro e w' ⟨rfl, rfl⟩)
            refine hK.out _ _ (by assumption) (fun hS1 => ?_)
            clear hS1 hK K
            try simp only [Act.put, List.setIfInBounds_toArray, List.set_cons_zero, List.set_cons_succ, List.getElem_toArray, List.getElem_cons_zero, List.getElem_cons_succ]
            refine wpAnyH_ready (rs := [16]) (by kernel_rfl) (by simp) ?_
            refine AllReadyH.cons rfl (fun K hK => ?_) ?_
            · skip
              go_simp
              go_wp2_with (go_at_call 11; refine (HP4.out _).mono ?_; rintro e w' ⟨rfl, rfl⟩)
              refine hK.out _ _ (by assumption) (fun hS1 => ?_)
              clear hS1 hK K
              try simp only [Act.put, List.setIfInBounds_toArray, List.set_cons_zero, List.set_cons_succ, List.getElem_toArray, List.getElem_cons_zero, List.getElem_cons_succ]
              refine wpAnyH_take (i := 17) (v := ?_) rfl (by kernel_rfl) (by kernel_rfl) (by kernel_rfl) (fun _ _ _ h => h) (Or.inl ⟨by rfl, ?_⟩) (by assumption) ?_
              rotate_left
              · (intro w hSw; (try dsimp only at hSw); go_simp) <;> with_reducible rfl
              try simp only [Act.put, List.setIfInBounds_toArray, List.set_cons_zero, List.set_cons_succ, List.getElem_toArray, List.getElem_cons_zero, List.getElem_cons_succ]
              refine wpAnyH_take (i := 18) (v := ?_) rfl (by kernel_rfl) (by kernel_rfl) (by kernel_rfl) (fun _ _ _ h => h) (Or.inl ⟨by rfl, ?_⟩) (by assumption) ?_
              rotate_left
              · (intro w hSw; (try dsimp only at hSw); go_simp) <;> with_reducible rfl
              try simp only [Act.put, List.setIfInBounds_toArray, List.set_cons_zero, List.set_cons_succ, List.getElem_toArray, List.getElem_cons_zero, List.getElem_cons_succ]
              refine wpAnyH_take (i := 19) (v := ?_) rfl (by kernel_rfl) (by kernel_rfl) (by kernel_rfl) (fun _ _ _ h => h) (Or.inl ⟨by rfl, ?_⟩) (by assumption) ?_
              rotate_left
              · (intro w hSw; (try dsimp only at hSw); go_simp) <;> with_reducible rfl
              try simp only [Act.put, List.setIfInBounds_toArray, List.set_cons_zero, List.set_cons_succ, List.getElem_toArray, List.getElem_cons_zero, List.getElem_cons_succ]
              refine wpAnyH_ready (rs := [20]) (by kernel_rfl) (by simp) ?_
              refine AllReadyH.cons rfl (fun K hK => ?_) AllReadyH.nil
              go_simp
              refine hK.out _ _ ?_ (fun hS1 => ?_)
              · (try dsimp only); (try simp only [World.cell?_drew]); (repeat' apply And.intro) <;> (first | (rw [World.cell?_alloc_at _ _ _ _ (by simp)]; exact e1) | (rw [World.cell?_alloc_at _ _ _ _ (by simp)]; exact e4) | (rw [c_lt (by simp), World.cell?_alloc_at _ _ _ _ (by simp)]; exact e1) | (rw [c_lt (by simp), World.cell?_alloc_at _ _ _ _ (by simp)]; exact e4) | (go_keep; done))
              clear hS1 hK K hHeld
              refine wpAnyH_done (by kernel_rfl) ?_ _
              go_wp2_with fail
              refine bodyPost_ret (v := .agg #[.string (keyN p1), .int .i64 (1 + (p2 : Int)), .int .i64 (p3 : Int), .string (valN p4)]) (by simp [results, Tryz.results78, go_sem, hw]) rfl ⟨rfl, ?_⟩
              repeat first | exact Below.refl _ _ | refine Below.drew ?_ | refine Below.alloc ?_ (by simp <;> omega) _
            exact AllReadyH.nil
          exact AllReadyH.nil
        exact AllReadyH.nil
      refine AllReadyH.cons rfl (fun K hK => ?_) ?_
      · skip
        go_simp
        go_wp2_with (go_at_call 11; refine (HP2.out _).mono ?_; rintro e w' ⟨rfl, rfl⟩)
        refine hK.out _ _ (by assumption) (fun hS1 => ?_)
        clear hS1 hK K
        try simp only [Act.put, List.setIfInBounds_toArray, List.set_cons_zero, List.set_cons_succ, List.getElem_toArray, List.getElem_cons_zero, List.getElem_cons_succ]
        refine wpAnyH_take (i := 9) (v := ?_) rfl (by kernel_rfl) (by kernel_rfl) (by kernel_rfl) (fun _ _ _ h => h) (Or.inl ⟨by rfl, ?_⟩) (by assumption) ?_
        rotate_left
        · (intro w hSw; (try dsimp only at hSw); go_simp) <;> with_reducible rfl
        try simp only [Act.put, List.setIfInBounds_toArray, List.set_cons_zero, List.set_cons_succ, List.getElem_toArray, List.getElem_cons_zero, List.getElem_cons_succ]
        refine wpAnyH_ready (rs := [0, 12]) (by kernel_rfl) (by simp) ?_
        refine AllReadyH.cons rfl (fun K hK => ?_) ?_
        · skip
          go_simp
          refine hK.out _ _ ?_ (fun hS1 => ?_)
          · (try dsimp only); (try simp only [World.cell?_drew]); (repeat' apply And.intro) <;> (first | (rw [World.cell?_alloc_at _ _ _ _ (by simp)]; exact e1) | (rw [World.cell?_alloc_at _ _ _ _ (by simp)]; exact e4) | (rw [c_lt (by simp), World.cell?_alloc_at _ _ _ _ (by simp)]; exact e1) | (rw [c_lt (by simp), World.cell?_alloc_at _ _ _ _ (by simp)]; exact e4) | (go_keep; done))
          clear hHeld hK K
          refine wpAnyH_more (F := fun w' => w'.cell? ⟨w.heap.size + 1 + 1 + 1, p1, none⟩ = some (.string (keyN p1))) hS1 ?_ (fun hHeld => ?_)
          · simp only [World.cell?_drew]
            rw [World.cell?_alloc_at _ _ _ _ (by simp)]
            exact e1
          clear hS1
          try simp only [Act.put, List.setIfInBounds_toArray, List.set_cons_zero, List.set_cons_succ, List.getElem_toArray, List.getElem_cons_zero, List.getElem_cons_succ]
          refine wpAnyH_take (i := 4) (v := ?_) rfl (by kernel_rfl) (by kernel_rfl) (by kernel_rfl) (fun _ _ _ h => h) (Or.inl ⟨by rfl, ?_⟩) (by assumption) ?_
          rotate_left
          · (intro w hSw; (try dsimp only at hSw); go_simp) <;> with_reducible rfl
          try simp only [Act.put, List.setIfInBounds_toArray, List.set_cons_zero, List.set_cons_succ, List.getElem_toArray, List.getElem_cons_zero, List.getElem_cons_succ]
          refine wpAnyH_take (i := 5) (v := ?_) rfl (by kernel_rfl) (by kernel_rfl) (by kernel_rfl) (fun _ _ _ h => h) (Or.inl ⟨by rfl, ?_⟩) (by assumption) ?_
          rotate_left
          · (intro w hSw; (try dsimp only at hSw); go_simp) <;> with_reducible rfl
          try simp only [Act.put, List.setIfInBounds_toArray, List.set_cons_zero, List.set_cons_succ, List.getElem_toArray, List.getElem_cons_zero, List.getElem_cons_succ]
          refine wpAnyH_ready (rs := [12]) (by kernel_rfl) (by simp) ?_
          refine AllReadyH.cons rfl (fun K hK => ?_) ?_
          · skip
            go_simp
            go_wp2_with (go_at_call 11; refine (HP3.out _).mono ?_; rintro e w' ⟨rfl, rfl⟩)
            refine hK.out _ _ (by assumption) (fun hS1 => ?_)
            clear hS1 hK K
            try simp only [Act.put, List.setIfInBounds_toArray, List.set_cons_zero, List.set_cons_succ, List.getElem_toArray, List.getElem_cons_zero, List.getElem_cons_succ]
            refine wpAnyH_ready (rs := [16]) (by kernel_rfl) (by simp) ?_
            refine AllReadyH.cons rfl (fun K hK => ?_) ?_
            · skip
              go_simp
              go_wp2_with (go_at_call 11; refine (HP4.out _).mono ?_; rintro e w' ⟨rfl, rfl⟩)
              refine hK.out _ _ (by assumption) (fun hS1 => ?_)
              clear hS1 hK K
              try simp only [Act.put, List.setIfInBounds_toArray, List.set_cons_zero, List.set_cons_succ, List.getElem_toArray, List.getElem_cons_zero, List.getElem_cons_succ]
              refine wpAnyH_take (i := 17) (v := ?_) rfl (by kernel_rfl) (by kernel_rfl) (by kernel_rfl) (fun _ _ _ h => h) (Or.inl ⟨by rfl, ?_⟩) (by assumption) ?_
              rotate_left
              · (intro w hSw; (try dsimp only at hSw); go_simp) <;> with_reducible rfl
              try simp only [Act.put, List.setIfInBounds_toArray, List.set_cons_zero, List.set_cons_succ, List.getElem_toArray, List.getElem_cons_zero, List.getElem_cons_succ]
              refine wpAnyH_take (i := 18) (v := ?_) rfl (by kernel_rfl) (by kernel_rfl) (by kernel_rfl) (fun _ _ _ h => h) (Or.inl ⟨by rfl, ?_⟩) (by assumption) ?_
              rotate_left
              · (intro w hSw; (try dsimp only at hSw); go_simp) <;> with_reducible rfl
              try simp only [Act.put, List.setIfInBounds_toArray, List.set_cons_zero, List.set_cons_succ, List.getElem_toArray, List.getElem_cons_zero, List.getElem_cons_succ]
              refine wpAnyH_take (i := 19) (v := ?_) rfl (by kernel_rfl) (by kernel_rfl) (by kernel_rfl) (fun _ _ _ h => h) (Or.inl ⟨by rfl, ?_⟩) (by assumption) ?_
              rotate_left
              · (intro w hSw; (try dsimp only at hSw); go_simp) <;> with_reducible rfl
              try simp only [Act.put, List.setIfInBounds_toArray, List.set_cons_zero, List.set_cons_succ, List.getElem_toArray, List.getElem_cons_zero, List.getElem_cons_succ]
              refine wpAnyH_ready (rs := [20]) (by kernel_rfl) (by simp) ?_
              refine AllReadyH.cons rfl (fun K hK => ?_) AllReadyH.nil
              go_simp
              refine hK.out _ _ ?_ (fun hS1 => ?_)
              · (try dsimp only); (try simp only [World.cell?_drew]); (repeat' apply And.intro) <;> (first | (rw [World.cell?_alloc_at _ _ _ _ (by simp)]; exact e1) | (rw [World.cell?_alloc_at _ _ _ _ (by simp)]; exact e4) | (rw [c_lt (by simp), World.cell?_alloc_at _ _ _ _ (by simp)]; exact e1) | (rw [c_lt (by simp), World.cell?_alloc_at _ _ _ _ (by simp)]; exact e4) | (go_keep; done))
              clear hS1 hK K hHeld
              refine wpAnyH_done (by kernel_rfl) ?_ _
              go_wp2_with fail
              refine bodyPost_ret (v := .agg #[.string (keyN p1), .int .i64 (1 + (p2 : Int)), .int .i64 (p3 : Int), .string (valN p4)]) (by simp [results, Tryz.results78, go_sem, hw]) rfl ⟨rfl, ?_⟩
              repeat first | exact Below.refl _ _ | refine Below.drew ?_ | refine Below.alloc ?_ (by simp <;> omega) _
            exact AllReadyH.nil
          exact AllReadyH.nil
        refine AllReadyH.cons rfl (fun K hK => ?_) ?_
        · skip
          go_simp
          go_wp2_with (go_at_call 11; refine (HP3.out _).mono ?_; rintro e w' ⟨rfl, rfl⟩)
          refine hK.out _ _ (by assumption) (fun hS1 => ?_)
          clear hS1 hK K
          try simp only [Act.put, List.setIfInBounds_toArray, List.set_cons_zero, List.set_cons_succ, List.getElem_toArray, List.getElem_cons_zero, List.getElem_cons_succ]
          refine wpAnyH_ready (rs := [0, 16]) (by kernel_rfl) (by simp) ?_
          refine AllReadyH.cons rfl (fun K hK => ?_) ?_
          · skip
            go_simp
            refine hK.out _ _ ?_ (fun hS1 => ?_)
            · (try dsimp only); (try simp only [World.cell?_drew]); (repeat' apply And.intro) <;> (first | (rw [World.cell?_alloc_at _ _ _ _ (by simp)]; exact e1) | (rw [World.cell?_alloc_at _ _ _ _ (by simp)]; exact e4) | (rw [c_lt (by simp), World.cell?_alloc_at _ _ _ _ (by simp)]; exact e1) | (rw [c_lt (by simp), World.cell?_alloc_at _ _ _ _ (by simp)]; exact e4) | (go_keep; done))
            clear hHeld hK K
            refine wpAnyH_more (F := fun w' => w'.cell? ⟨w.heap.size + 1 + 1 + 1, p1, none⟩ = some (.string (keyN p1))) hS1 ?_ (fun hHeld => ?_)
            · simp only [World.cell?_drew]
              rw [World.cell?_alloc_at _ _ _ _ (by simp)]
              exact e1
            clear hS1
            try simp only [Act.put, List.setIfInBounds_toArray, List.set_cons_zero, List.set_cons_succ, List.getElem_toArray, List.getElem_cons_zero, List.getElem_cons_succ]
            refine wpAnyH_take (i := 4) (v := ?_) rfl (by kernel_rfl) (by kernel_rfl) (by kernel_rfl) (fun _ _ _ h => h) (Or.inl ⟨by rfl, ?_⟩) (by assumption) ?_
            rotate_left
            · (intro w hSw; (try dsimp only at hSw); go_simp) <;> with_reducible rfl
            try simp only [Act.put, List.setIfInBounds_toArray, List.set_cons_zero, List.set_cons_succ, List.getElem_toArray, List.getElem_cons_zero, List.getElem_cons_succ]
            refine wpAnyH_take (i := 5) (v := ?_) rfl (by kernel_rfl) (by kernel_rfl) (by kernel_rfl) (fun _ _ _ h => h) (Or.inl ⟨by rfl, ?_⟩) (by assumption) ?_
            rotate_left
            · (intro w hSw; (try dsimp only at hSw); go_simp) <;> with_reducible rfl
            try simp only [Act.put, List.setIfInBounds_toArray, List.set_cons_zero, List.set_cons_succ, List.getElem_toArray, List.getElem_cons_zero, List.getElem_cons_succ]
            refine wpAnyH_ready (rs := [16]) (by kernel_rfl) (by simp) ?_
            refine AllReadyH.cons rfl (fun K hK => ?_) ?_
            · skip
              go_simp
              go_wp2_with (go_at_call 11; refine (HP4.out _).mono ?_; rintro e w' ⟨rfl, rfl⟩)
              refine hK.out _ _ (by assumption) (fun hS1 => ?_)
              clear hS1 hK K
              try simp only [Act.put, List.setIfInBounds_toArray, List.set_cons_zero, List.set_cons_succ, List.getElem_toArray, List.getElem_cons_zero, List.getElem_cons_succ]
              refine wpAnyH_take (i := 17) (v := ?_) rfl (by kernel_rfl) (by kernel_rfl) (by kernel_rfl) (fun _ _ _ h => h) (Or.inl ⟨by rfl, ?_⟩) (by assumption) ?_
              rotate_left
              · (intro w hSw; (try dsimp only at hSw); go_simp) <;> with_reducible rfl
              try simp only [Act.put, List.setIfInBounds_toArray, List.set_cons_zero, List.set_cons_succ, List.getElem_toArray, List.getElem_cons_zero, List.getElem_cons_succ]
              refine wpAnyH_take (i := 18) (v := ?_) rfl (by kernel_rfl) (by kernel_rfl) (by kernel_rfl) (fun _ _ _ h => h) (Or.inl ⟨by rfl, ?_⟩) (by assumption) ?_
              rotate_left
              · (intro w hSw; (try dsimp only at hSw); go_simp) <;> with_reducible rfl
              try simp only [Act.put, List.setIfInBounds_toArray, List.set_cons_zero, List.set_cons_succ, List.getElem_toArray, List.getElem_cons_zero, List.getElem_cons_succ]
              refine wpAnyH_take (i := 19) (v := ?_) rfl (by kernel_rfl) (by kernel_rfl) (by kernel_rfl) (fun _ _ _ h => h) (Or.inl ⟨by rfl, ?_⟩) (by assumption) ?_
              rotate_left
              · (intro w hSw; (try dsimp only at hSw); go_simp) <;> with_reducible rfl
              try simp only [Act.put, List.setIfInBounds_toArray, List.set_cons_zero, List.set_cons_succ, List.getElem_toArray, List.getElem_cons_zero, List.getElem_cons_succ]
              refine wpAnyH_ready (rs := [20]) (by kernel_rfl) (by simp) ?_
              refine AllReadyH.cons rfl (fun K hK => ?_) AllReadyH.nil
              go_simp
              refine hK.out _ _ ?_ (fun hS1 => ?_)
              · (try dsimp only); (try simp only [World.cell?_drew]); (repeat' apply And.intro) <;> (first | (rw [World.cell?_alloc_at _ _ _ _ (by simp)]; exact e1) | (rw [World.cell?_alloc_at _ _ _ _ (by simp)]; exact e4) | (rw [c_lt (by simp), World.cell?_alloc_at _ _ _ _ (by simp)]; exact e1) | (rw [c_lt (by simp), World.cell?_alloc_at _ _ _ _ (by simp)]; exact e4) | (go_keep; done))
              clear hS1 hK K hHeld
              refine wpAnyH_done (by kernel_rfl) ?_ _
              go_wp2_with fail
              refine bodyPost_ret (v := .agg #[.string (keyN p1), .int .i64 (1 + (p2 : Int)), .int .i64 (p3 : Int), .string (valN p4)]) (by simp [results, Tryz.results78, go_sem, hw]) rfl ⟨rfl, ?_⟩
              repeat first | exact Below.refl _ _ | refine Below.drew ?_ | refine Below.alloc ?_ (by simp <;> omega) _
            exact AllReadyH.nil
          refine AllReadyH.cons rfl (fun K hK => ?_) ?_
          · skip
            go_simp
            go_wp2_with (go_at_call 11; refine (HP4.out _).mono ?_; rintro e w' ⟨rfl, rfl⟩)
            refine hK.out _ _ (by assumption) (fun hS1 => ?_)
            clear hS1 hK K
            try simp only [Act.put, List.setIfInBounds_toArray, List.set_cons_zero, List.set_cons_succ, List.getElem_toArray, List.getElem_cons_zero, List.getElem_cons_succ]
            refine wpAnyH_take (i := 17) (v := ?_) rfl (by kernel_rfl) (by kernel_rfl) (by kernel_rfl) (fun _ _ _ h => h) (Or.inl ⟨by rfl, ?_⟩) (by assumption) ?_
            rotate_left
            · (intro w hSw; (try dsimp only at hSw); go_simp) <;> with_reducible rfl
            try simp only [Act.put, List.setIfInBounds_toArray, List.set_cons_zero, List.set_cons_succ, List.getElem_toArray, List.getElem_cons_zero, List.getElem_cons_succ]
            refine wpAnyH_take (i := 18) (v := ?_) rfl (by kernel_rfl) (by kernel_rfl) (by kernel_rfl) (fun _ _ _ h => h) (Or.inl ⟨by rfl, ?_⟩) (by assumption) ?_
            rotate_left
            · (intro w hSw; (try dsimp only at hSw); go_simp) <;> with_reducible rfl
            try simp only [Act.put, List.setIfInBounds_toArray, List.set_cons_zero, List.set_cons_succ, List.getElem_toArray, List.getElem_cons_zero, List.getElem_cons_succ]
            refine wpAnyH_ready (rs := [0]) (by kernel_rfl) (by simp) ?_
            refine AllReadyH.cons rfl (fun K hK => ?_) ?_
            · skip
              go_simp
              refine hK.out _ _ ?_ (fun hS1 => ?_)
              · (try dsimp only); (try simp only [World.cell?_drew]); (repeat' apply And.intro) <;> (first | (rw [World.cell?_alloc_at _ _ _ _ (by simp)]; exact e1) | (rw [World.cell?_alloc_at _ _ _ _ (by simp)]; exact e4) | (rw [c_lt (by simp), World.cell?_alloc_at _ _ _ _ (by simp)]; exact e1) | (rw [c_lt (by simp), World.cell?_alloc_at _ _ _ _ (by simp)]; exact e4) | (go_keep; done))
              clear hHeld hK K
              refine wpAnyH_more (F := fun w' => w'.cell? ⟨w.heap.size + 1 + 1 + 1, p1, none⟩ = some (.string (keyN p1))) hS1 ?_ (fun hHeld => ?_)
              · simp only [World.cell?_drew]
                rw [World.cell?_alloc_at _ _ _ _ (by simp)]
                exact e1
              clear hS1
              try simp only [Act.put, List.setIfInBounds_toArray, List.set_cons_zero, List.set_cons_succ, List.getElem_toArray, List.getElem_cons_zero, List.getElem_cons_succ]
              refine wpAnyH_take (i := 4) (v := ?_) rfl (by kernel_rfl) (by kernel_rfl) (by kernel_rfl) (fun _ _ _ h => h) (Or.inl ⟨by rfl, ?_⟩) (by assumption) ?_
              rotate_left
              · (intro w hSw; (try dsimp only at hSw); go_simp) <;> with_reducible rfl
              try simp only [Act.put, List.setIfInBounds_toArray, List.set_cons_zero, List.set_cons_succ, List.getElem_toArray, List.getElem_cons_zero, List.getElem_cons_succ]
              refine wpAnyH_take (i := 5) (v := ?_) rfl (by kernel_rfl) (by kernel_rfl) (by kernel_rfl) (fun _ _ _ h => h) (Or.inl ⟨by rfl, ?_⟩) (by assumption) ?_
              rotate_left
              · (intro w hSw; (try dsimp only at hSw); go_simp) <;> with_reducible rfl
              try simp only [Act.put, List.setIfInBounds_toArray, List.set_cons_zero, List.set_cons_succ, List.getElem_toArray, List.getElem_cons_zero, List.getElem_cons_succ]
              refine wpAnyH_take (i := 19) (v := ?_) rfl (by kernel_rfl) (by kernel_rfl) (by kernel_rfl) (fun _ _ _ h => h) (Or.inl ⟨by rfl, ?_⟩) (by assumption) ?_
              rotate_left
              · (intro w hSw; (try dsimp only at hSw); go_simp) <;> with_reducible rfl
              try simp only [Act.put, List.setIfInBounds_toArray, List.set_cons_zero, List.set_cons_succ, List.getElem_toArray, List.getElem_cons_zero, List.getElem_cons_succ]
              refine wpAnyH_ready (rs := [20]) (by kernel_rfl) (by simp) ?_
              refine AllReadyH.cons rfl (fun K hK => ?_) AllReadyH.nil
              go_simp
              refine hK.out _ _ ?_ (fun hS1 => ?_)
              · (try dsimp only); (try simp only [World.cell?_drew]); (repeat' apply And.intro) <;> (first | (rw [World.cell?_alloc_at _ _ _ _ (by simp)]; exact e1) | (rw [World.cell?_alloc_at _ _ _ _ (by simp)]; exact e4) | (rw [c_lt (by simp), World.cell?_alloc_at _ _ _ _ (by simp)]; exact e1) | (rw [c_lt (by simp), World.cell?_alloc_at _ _ _ _ (by simp)]; exact e4) | (go_keep; done))
              clear hS1 hK K hHeld
              refine wpAnyH_done (by kernel_rfl) ?_ _
              go_wp2_with fail
              refine bodyPost_ret (v := .agg #[.string (keyN p1), .int .i64 (1 + (p2 : Int)), .int .i64 (p3 : Int), .string (valN p4)]) (by simp [results, Tryz.results78, go_sem, hw]) rfl ⟨rfl, ?_⟩
              repeat first | exact Below.refl _ _ | refine Below.drew ?_ | refine Below.alloc ?_ (by simp <;> omega) _
            exact AllReadyH.nil
          exact AllReadyH.nil
        exact AllReadyH.nil
      exact AllReadyH.nil
    exact AllReadyH.nil
  refine AllReadyH.cons rfl (fun K hK => ?_) ?_
  · skip
    go_simp
    refine hK.out _ _ ?_ (fun hS1 => ?_)
    · (try dsimp only); (try simp only [World.cell?_drew]); (repeat' apply And.intro) <;> (first | (rw [World.cell?_alloc_at _ _ _ _ (by simp)]; exact e1) | (rw [World.cell?_alloc_at _ _ _ _ (by simp)]; exact e4) | (rw [c_lt (by simp), World.cell?_alloc_at _ _ _ _ (by simp)]; exact e1) | (rw [c_lt (by simp), World.cell?_alloc_at _ _ _ _ (by simp)]; exact e4) | (go_keep; done))
    clear hHeld hK K
    refine wpAnyH_more (F := fun w' => w'.cell? ⟨w.heap.size + 1 + 1, p4, none⟩ = some (.string (valN p4))) hS1 ?_ (fun hHeld => ?_)
    · simp only [World.cell?_drew]
      rw [World.cell?_alloc_at _ _ _ _ (by simp)]
      exact e4
    clear hS1
    try simp only [Act.put, List.setIfInBounds_toArray, List.set_cons_zero, List.set_cons_succ, List.getElem_toArray, List.getElem_cons_zero, List.getElem_cons_succ]
    refine wpAnyH_ready (rs := [0, 3]) (by kernel_rfl) (by simp) ?_
    refine AllReadyH.cons rfl (fun K hK => ?_) ?_
    · skip
      go_simp
      refine hK.out _ _ ?_ (fun hS1 => ?_)
      · (try dsimp only); (try simp only [World.cell?_drew]); (repeat' apply And.intro) <;> (first | (rw [World.cell?_alloc_at _ _ _ _ (by simp)]; exact e1) | (rw [World.cell?_alloc_at _ _ _ _ (by simp)]; exact e4) | (rw [c_lt (by simp), World.cell?_alloc_at _ _ _ _ (by simp)]; exact e1) | (rw [c_lt (by simp), World.cell?_alloc_at _ _ _ _ (by simp)]; exact e4) | (go_keep; done))
      clear hHeld hK K
      refine wpAnyH_more (F := fun w' => w'.cell? ⟨w.heap.size + 1 + 1 + 1, p1, none⟩ = some (.string (keyN p1))) hS1 ?_ (fun hHeld => ?_)
      · simp only [World.cell?_drew]
        rw [World.cell?_alloc_at _ _ _ _ (by simp)]
        exact e1
      clear hS1
      try simp only [Act.put, List.setIfInBounds_toArray, List.set_cons_zero, List.set_cons_succ, List.getElem_toArray, List.getElem_cons_zero, List.getElem_cons_succ]
      refine wpAnyH_ready (rs := [3]) (by kernel_rfl) (by simp) ?_
      refine AllReadyH.cons rfl (fun K hK => ?_) ?_
      · skip
        go_simp
        go_wp2_with (go_at_call 11; refine (HP1.out _).mono ?_; rintro e w' ⟨rfl, rfl⟩)
        refine hK.out _ _ (by assumption) (fun hS1 => ?_)
        clear hS1 hK K
        try simp only [Act.put, List.setIfInBounds_toArray, List.set_cons_zero, List.set_cons_succ, List.getElem_toArray, List.getElem_cons_zero, List.getElem_cons_succ]
        refine wpAnyH_take (i := 4) (v := ?_) rfl (by kernel_rfl) (by kernel_rfl) (by kernel_rfl) (fun _ _ _ h => h) (Or.inl ⟨by rfl, ?_⟩) (by assumption) ?_
        rotate_left
        · (intro w hSw; (try dsimp only at hSw); go_simp) <;> with_reducible rfl
        try simp only [Act.put, List.setIfInBounds_toArray, List.set_cons_zero, List.set_cons_succ, List.getElem_toArray, List.getElem_cons_zero, List.getElem_cons_succ]
        refine wpAnyH_take (i := 5) (v := ?_) rfl (by kernel_rfl) (by kernel_rfl) (by kernel_rfl) (fun _ _ _ h => h) (Or.inl ⟨by rfl, ?_⟩) (by assumption) ?_
        rotate_left
        · (intro w hSw; (try dsimp only at hSw); go_simp) <;> with_reducible rfl
        try simp only [Act.put, List.setIfInBounds_toArray, List.set_cons_zero, List.set_cons_succ, List.getElem_toArray, List.getElem_cons_zero, List.getElem_cons_succ]
        refine wpAnyH_ready (rs := [8]) (by kernel_rfl) (by simp) ?_
        refine AllReadyH.cons rfl (fun K hK => ?_) ?_
        · skip
          go_simp
          go_wp2_with (go_at_call 11; refine (HP2.out _).mono ?_; rintro e w' ⟨rfl, rfl⟩)
          refine hK.out _ _ (by assumption) (fun hS1 => ?_)
          clear hS1 hK K
          try simp only [Act.put, List.setIfInBounds_toArray, List.set_cons_zero, List.set_cons_succ, List.getElem_toArray, List.getElem_cons_zero, List.getElem_cons_succ]
          refine wpAnyH_take (i := 9) (v := ?_) rfl (by kernel_rfl) (by kernel_rfl) (by kernel_rfl) (fun _ _ _ h => h) (Or.inl ⟨by rfl, ?_⟩) (by assumption) ?_
          rotate_left
          · (intro w hSw; (try dsimp only at hSw); go_simp) <;> with_reducible rfl
          try simp only [Act.put, List.setIfInBounds_toArray, List.set_cons_zero, List.set_cons_succ, List.getElem_toArray, List.getElem_cons_zero, List.getElem_cons_succ]
          refine wpAnyH_ready (rs := [12]) (by kernel_rfl) (by simp) ?_
          refine AllReadyH.cons rfl (fun K hK => ?_) ?_
          · skip
            go_simp
            go_wp2_with (go_at_call 11; refine (HP3.out _).mono ?_; rintro e w' ⟨rfl, rfl⟩)
            refine hK.out _ _ (by assumption) (fun hS1 => ?_)
            clear hS1 hK K
            try simp only [Act.put, List.setIfInBounds_toArray, List.set_cons_zero, List.set_cons_succ, List.getElem_toArray, List.getElem_cons_zero, List.getElem_cons_succ]
            refine wpAnyH_ready (rs := [16]) (by kernel_rfl) (by simp) ?_
            refine AllReadyH.cons rfl (fun K hK => ?_) ?_
            · skip
              go_simp
              go_wp2_with (go_at_call 11; refine (HP4.out _).mono ?_; rintro e w' ⟨rfl, rfl⟩)
              refine hK.out _ _ (by assumption) (fun hS1 => ?_)
              clear hS1 hK K
              try simp only [Act.put, List.setIfInBounds_toArray, List.set_cons_zero, List.set_cons_succ, List.getElem_toArray, List.getElem_cons_zero, List.getElem_cons_succ]
              refine wpAnyH_take (i := 17) (v := ?_) rfl (by kernel_rfl) (by kernel_rfl) (by kernel_rfl) (fun _ _ _ h => h) (Or.inl ⟨by rfl, ?_⟩) (by assumption) ?_
              rotate_left
              · (intro w hSw; (try dsimp only at hSw); go_simp) <;> with_reducible rfl
              try simp only [Act.put, List.setIfInBounds_toArray, List.set_cons_zero, List.set_cons_succ, List.getElem_toArray, List.getElem_cons_zero, List.getElem_cons_succ]
              refine wpAnyH_take (i := 18) (v := ?_) rfl (by kernel_rfl) (by kernel_rfl) (by kernel_rfl) (fun _ _ _ h => h) (Or.inl ⟨by rfl, ?_⟩) (by assumption) ?_
              rotate_left
              · (intro w hSw; (try dsimp only at hSw); go_simp) <;> with_reducible rfl
              try simp only [Act.put, List.setIfInBounds_toArray, List.set_cons_zero, List.set_cons_succ, List.getElem_toArray, List.getElem_cons_zero, List.getElem_cons_succ]
              refine wpAnyH_take (i := 19) (v := ?_) rfl (by kernel_rfl) (by kernel_rfl) (by kernel_rfl) (fun _ _ _ h => h) (Or.inl ⟨by rfl, ?_⟩) (by assumption) ?_
              rotate_left
              · (intro w hSw; (try dsimp only at hSw); go_simp) <;> with_reducible rfl
              try simp only [Act.put, List.setIfInBounds_toArray, List.set_cons_zero, List.set_cons_succ, List.getElem_toArray, List.getElem_cons_zero, List.getElem_cons_succ]
              refine wpAnyH_ready (rs := [20]) (by kernel_rfl) (by simp) ?_
              refine AllReadyH.cons rfl (fun K hK => ?_) AllReadyH.nil
              go_simp
              refine hK.out _ _ ?_ (fun hS1 => ?_)
              · (try dsimp only); (try simp only [World.cell?_drew]); (repeat' apply And.intro) <;> (first | (rw [World.cell?_alloc_at _ _ _ _ (by simp)]; exact e1) | (rw [World.cell?_alloc_at _ _ _ _ (by simp)]; exact e4) | (rw [c_lt (by simp), World.cell?_alloc_at _ _ _ _ (by simp)]; exact e1) | (rw [c_lt (by simp), World.cell?_alloc_at _ _ _ _ (by simp)]; exact e4) | (go_keep; done))
              clear hS1 hK K hHeld
              refine wpAnyH_done (by kernel_rfl) ?_ _
              go_wp2_with fail
              refine bodyPost_ret (v := .agg #[.string (keyN p1), .int .i64 (1 + (p2 : Int)), .int .i64 (p3 : Int), .string (valN p4)]) (by simp [results, Tryz.results78, go_sem, hw]) rfl ⟨rfl, ?_⟩
              repeat first | exact Below.refl _ _ | refine Below.drew ?_ | refine Below.alloc ?_ (by simp <;> omega) _
            exact AllReadyH.nil
          exact AllReadyH.nil
        exact AllReadyH.nil
      exact AllReadyH.nil
    refine AllReadyH.cons rfl (fun K hK => ?_) ?_
    · skip
      go_simp
      go_wp2_with (go_at_call 11; refine (HP1.out _).mono ?_; rintro e w' ⟨rfl, rfl⟩)
      refine hK.out _ _ (by assumption) (fun hS1 => ?_)
      clear hS1 hK K
      try simp only [Act.put, List.setIfInBounds_toArray, List.set_cons_zero, List.set_cons_succ, List.getElem_toArray, List.getElem_cons_zero, List.getElem_cons_succ]
      refine wpAnyH_ready (rs := [0, 8]) (by kernel_rfl) (by simp) ?_
      refine AllReadyH.cons rfl (fun K hK => ?_) ?_
      · skip
        go_simp
        refine hK.out _ _ ?_ (fun hS1 => ?_)
        · (try dsimp only); (try simp only [World.cell?_drew]); (repeat' apply And.intro) <;> (first | (rw [World.cell?_alloc_at _ _ _ _ (by simp)]; exact e1) | (rw [World.cell?_alloc_at _ _ _ _ (by simp)]; exact e4) | (rw [c_lt (by simp), World.cell?_alloc_at _ _ _ _ (by simp)]; exact e1) | (rw [c_lt (by simp), World.cell?_alloc_at _ _ _ _ (by simp)]; exact e4) | (go_keep; done))
        clear hHeld hK K
        refine wpAnyH_more (F := fun w' => w'.cell? ⟨w.heap.size + 1 + 1 + 1, p1, none⟩ = some (.string (keyN p1))) hS1 ?_ (fun hHeld => ?_)
        · simp only [World.cell?_drew]
          rw [World.cell?_alloc_at _ _ _ _ (by simp)]
          exact e1
        clear hS1
        try simp only [Act.put, List.setIfInBounds_toArray, List.set_cons_zero, List.set_cons_succ, List.getElem_toArray, List.getElem_cons_zero, List.getElem_cons_succ]
        refine wpAnyH_take (i := 4) (v := ?_) rfl (by kernel_rfl) (by kernel_rfl) (by kernel_rfl) (fun _ _ _ h => h) (Or.inl ⟨by rfl, ?_⟩) (by assumption) ?_
        rotate_left
        · (intro w hSw; (try dsimp only at hSw); go_simp) <;> with_reducible rfl
        try simp only [Act.put, List.setIfInBounds_toArray, List.set_cons_zero, List.set_cons_succ, List.getElem_toArray, List.getElem_cons_zero, List.getElem_cons_succ]
        refine wpAnyH_take (i := 5) (v := ?_) rfl (by kernel_rfl) (by kernel_rfl) (by kernel_rfl) (fun _ _ _ h => h) (Or.inl ⟨by rfl, ?_⟩) (by assumption) ?_
        rotate_left
        · (intro w hSw; (try dsimp only at hSw); go_simp) <;> with_reducible rfl
        try simp only [Act.put, List.setIfInBounds_toArray, List.set_cons_zero, List.set_cons_succ, List.getElem_toArray, List.getElem_cons_zero, List.getElem_cons_succ]
        refine wpAnyH_ready (rs := [8]) (by kernel_rfl) (by simp) ?_
        refine AllReadyH.cons rfl (fun K hK => ?_) ?_
        · skip
          go_simp
          go_wp2_with (go_at_call 11; refine (HP2.out _).mono ?_; rintro e w' ⟨rfl, rfl⟩)
          refine hK.out _ _ (by assumption) (fun hS1 => ?_)
          clear hS1 hK K
          try simp only [Act.put, List.setIfInBounds_toArray, List.set_cons_zero, List.set_cons_succ, List.getElem_toArray, List.getElem_cons_zero, List.getElem_cons_succ]
          refine wpAnyH_take (i := 9) (v := ?_) rfl (by kernel_rfl) (by kernel_rfl) (by kernel_rfl) (fun _ _ _ h => h) (Or.inl ⟨by rfl, ?_⟩) (by assumption) ?_
          rotate_left
          · (intro w hSw; (try dsimp only at hSw); go_simp) <;> with_reducible rfl
          try simp only [Act.put, List.setIfInBounds_toArray, List.set_cons_zero, List.set_cons_succ, List.getElem_toArray, List.getElem_cons_zero, List.getElem_cons_succ]
          refine wpAnyH_ready (rs := [12]) (by kernel_rfl) (by simp) ?_
          refine AllReadyH.cons rfl (fun K hK => ?_) ?_
          · skip
            go_simp
            go_wp2_with (go_at_call 11; refine (HP3.out _).mono ?_; rintro e w' ⟨rfl, rfl⟩)
            refine hK.out _ _ (by assumption) (fun hS1 => ?_)
            clear hS1 hK K
            try simp only [Act.put, List.setIfInBounds_toArray, List.set_cons_zero, List.set_cons_succ, List.getElem_toArray, List.getElem_cons_zero, List.getElem_cons_succ]
            refine wpAnyH_ready (rs := [16]) (by kernel_rfl) (by simp) ?_
            refine AllReadyH.cons rfl (fun K hK => ?_) ?_
            · skip
              go_simp
              go_wp2_with (go_at_call 11; refine (HP4.out _).mono ?_; rintro e w' ⟨rfl, rfl⟩)
              refine hK.out _ _ (by assumption) (fun hS1 => ?_)
              clear hS1 hK K
              try simp only [Act.put, List.setIfInBounds_toArray, List.set_cons_zero, List.set_cons_succ, List.getElem_toArray, List.getElem_cons_zero, List.getElem_cons_succ]
              refine wpAnyH_take (i := 17) (v := ?_) rfl (by kernel_rfl) (by kernel_rfl) (by kernel_rfl) (fun _ _ _ h => h) (Or.inl ⟨by rfl, ?_⟩) (by assumption) ?_
              rotate_left
              · (intro w hSw; (try dsimp only at hSw); go_simp) <;> with_reducible rfl
              try simp only [Act.put, List.setIfInBounds_toArray, List.set_cons_zero, List.set_cons_succ, List.getElem_toArray, List.getElem_cons_zero, List.getElem_cons_succ]
              refine wpAnyH_take (i := 18) (v := ?_) rfl (by kernel_rfl) (by kernel_rfl) (by kernel_rfl) (fun _ _ _ h => h) (Or.inl ⟨by rfl, ?_⟩) (by assumption) ?_
              rotate_left
              · (intro w hSw; (try dsimp only at hSw); go_simp) <;> with_reducible rfl
              try simp only [Act.put, List.setIfInBounds_toArray, List.set_cons_zero, List.set_cons_succ, List.getElem_toArray, List.getElem_cons_zero, List.getElem_cons_succ]
              refine wpAnyH_take (i := 19) (v := ?_) rfl (by kernel_rfl) (by kernel_rfl) (by kernel_rfl) (fun _ _ _ h => h) (Or.inl ⟨by rfl, ?_⟩) (by assumption) ?_
              rotate_left
              · (intro w hSw; (try dsimp only at hSw); go_simp) <;> with_reducible rfl
              try simp only [Act.put, List.setIfInBounds_toArray, List.set_cons_zero, List.set_cons_succ, List.getElem_toArray, List.getElem_cons_zero, List.getElem_cons_succ]
              refine wpAnyH_ready (rs := [20]) (by kernel_rfl) (by simp) ?_
              refine AllReadyH.cons rfl (fun K hK => ?_) AllReadyH.nil
              go_simp
              refine hK.out _ _ ?_ (fun hS1 => ?_)
              · (try dsimp only); (try simp only [World.cell?_drew]); (repeat' apply And.intro) <;> (first | (rw [World.cell?_alloc_at _ _ _ _ (by simp)]; exact e1) | (rw [World.cell?_alloc_at _ _ _ _ (by simp)]; exact e4) | (rw [c_lt (by simp), World.cell?_alloc_at _ _ _ _ (by simp)]; exact e1) | (rw [c_lt (by simp), World.cell?_alloc_at _ _ _ _ (by simp)]; exact e4) | (go_keep; done))
              clear hS1 hK K hHeld
              refine wpAnyH_done (by kernel_rfl) ?_ _
              go_wp2_with fail
              refine bodyPost_ret (v := .agg #[.string (keyN p1), .int .i64 (1 + (p2 : Int)), .int .i64 (p3 : Int), .string (valN p4)]) (by simp [results, Tryz.results78, go_sem, hw]) rfl ⟨rfl, ?_⟩
              repeat first | exact Below.refl _ _ | refine Below.drew ?_ | refine Below.alloc ?_ (by simp <;> omega) _
            exact AllReadyH.nil
          exact AllReadyH.nil
        exact AllReadyH.nil
      refine AllReadyH.cons rfl (fun K hK => ?_) ?_
      · skip
        go_simp
        go_wp2_with (go_at_call 11; refine (HP2.out _).mono ?_; rintro e w' ⟨rfl, rfl⟩)
        refine hK.out _ _ (by assumption) (fun hS1 => ?_)
        clear hS1 hK K
        try simp only [Act.put, List.setIfInBounds_toArray, List.set_cons_zero, List.set_cons_succ, List.getElem_toArray, List.getElem_cons_zero, List.getElem_cons_succ]
        refine wpAnyH_take (i := 9) (v := ?_) rfl (by kernel_rfl) (by kernel_rfl) (by kernel_rfl) (fun _ _ _ h => h) (Or.inl ⟨by rfl, ?_⟩) (by assumption) ?_
        rotate_left
        · (intro w hSw; (try dsimp only at hSw); go_simp) <;> with_reducible rfl
        try simp only [Act.put, List.setIfInBounds_toArray, List.set_cons_zero, List.set_cons_succ, List.getElem_toArray, List.getElem_cons_zero, List.getElem_cons_succ]
        refine wpAnyH_ready (rs := [0, 12]) (by kernel_rfl) (by simp) ?_
        refine AllReadyH.cons rfl (fun K hK => ?_) ?_
        · skip
          go_simp
          refine hK.out _ _ ?_ (fun hS1 => ?_)
          · (try dsimp only); (try simp only [World.cell?_drew]); (repeat' apply And.intro) <;> (first | (rw [World.cell?_alloc_at _ _ _ _ (by simp)]; exact e1) | (rw [World.cell?_alloc_at _ _ _ _ (by simp)]; exact e4) | (rw [c_lt (by simp), World.cell?_alloc_at _ _ _ _ (by simp)]; exact e1) | (rw [c_lt (by simp), World.cell?_alloc_at _ _ _ _ (by simp)]; exact e4) | (go_keep; done))
          clear hHeld hK K
          refine wpAnyH_more (F := fun w' => w'.cell? ⟨w.heap.size + 1 + 1 + 1, p1, none⟩ = some (.string (keyN p1))) hS1 ?_ (fun hHeld => ?_)
          · simp only [World.cell?_drew]
            rw [World.cell?_alloc_at _ _ _ _ (by simp)]
            exact e1
          clear hS1
          try simp only [Act.put, List.setIfInBounds_toArray, List.set_cons_zero, List.set_cons_succ, List.getElem_toArray, List.getElem_cons_zero, List.getElem_cons_succ]
          refine wpAnyH_take (i := 4) (v := ?_) rfl (by kernel_rfl) (by kernel_rfl) (by kernel_rfl) (fun _ _ _ h => h) (Or.inl ⟨by rfl, ?_⟩) (by assumption) ?_
          rotate_left
          · (intro w hSw; (try dsimp only at hSw); go_simp) <;> with_reducible rfl
          try simp only [Act.put, List.setIfInBounds_toArray, List.set_cons_zero, List.set_cons_succ, List.getElem_toArray, List.getElem_cons_zero, List.getElem_cons_succ]
          refine wpAnyH_take (i := 5) (v := ?_) rfl (by kernel_rfl) (by kernel_rfl) (by kernel_rfl) (fun _ _ _ h => h) (Or.inl ⟨by rfl, ?_⟩) (by assumption) ?_
          rotate_left
          · (intro w hSw; (try dsimp only at hSw); go_simp) <;> with_reducible rfl
          try simp only [Act.put, List.setIfInBounds_toArray, List.set_cons_zero, List.set_cons_succ, List.getElem_toArray, List.getElem_cons_zero, List.getElem_cons_succ]
          refine wpAnyH_ready (rs := [12]) (by kernel_rfl) (by simp) ?_
          refine AllReadyH.cons rfl (fun K hK => ?_) ?_
          · skip
            go_simp
            go_wp2_with (go_at_call 11; refine (HP3.out _).mono ?_; rintro e w' ⟨rfl, rfl⟩)
            refine hK.out _ _ (by assumption) (fun hS1 => ?_)
            clear hS1 hK K
            try simp only [Act.put, List.setIfInBounds_toArray, List.set_cons_zero, List.set_cons_succ, List.getElem_toArray, List.getElem_cons_zero, List.getElem_cons_succ]
            refine wpAnyH_ready (rs := [16]) (by kernel_rfl) (by simp) ?_
            refine AllReadyH.cons rfl (fun K hK => ?_) ?_
            · skip
              go_simp
              go_wp2_with (go_at_call 11; refine (HP4.out _).mono ?_; rintro e w' ⟨rfl, rfl⟩)
              refine hK.out _ _ (by assumption) (fun hS1 => ?_)
              clear hS1 hK K
              try simp only [Act.put, List.setIfInBounds_toArray, List.set_cons_zero, List.set_cons_succ, List.getElem_toArray, List.getElem_cons_zero, List.getElem_cons_succ]
              refine wpAnyH_take (i := 17) (v := ?_) rfl (by kernel_rfl) (by kernel_rfl) (by kernel_rfl) (fun _ _ _ h => h) (Or.inl ⟨by rfl, ?_⟩) (by assumption) ?_
              rotate_left
              · (intro w hSw; (try dsimp only at hSw); go_simp) <;> with_reducible rfl
              try simp only [Act.put, List.setIfInBounds_toArray, List.set_cons_zero, List.set_cons_succ, List.getElem_toArray, List.getElem_cons_zero, List.getElem_cons_succ]
              refine wpAnyH_take (i := 18) (v := ?_) rfl (by kernel_rfl) (by kernel_rfl) (by kernel_rfl) (fun _ _ _ h => h) (Or.inl ⟨by rfl, ?_⟩) (by assumption) ?_
              rotate_left
              · (intro w hSw; (try dsimp only at hSw); go_simp) <;> with_reducible rfl
              try simp only [Act.put, List.setIfInBounds_toArray, List.set_cons_zero, List.set_cons_succ, List.getElem_toArray, List.getElem_cons_zero, List.getElem_cons_succ]
              refine wpAnyH_take (i := 19) (v := ?_) rfl (by kernel_rfl) (by kernel_rfl) (by kernel_rfl) (fun _ _ _ h => h) (Or.inl ⟨by rfl, ?_⟩) (by assumption) ?_
              rotate_left
              · (intro w hSw; (try dsimp only at hSw); go_simp) <;> with_reducible rfl
              try simp only [Act.put, List.setIfInBounds_toArray, List.set_cons_zero, List.set_cons_succ, List.getElem_toArray, List.getElem_cons_zero, List.getElem_cons_succ]
              refine wpAnyH_ready (rs := [20]) (by kernel_rfl) (by simp) ?_
              refine AllReadyH.cons rfl (fun K hK => ?_) AllReadyH.nil
              go_simp
              refine hK.out _ _ ?_ (fun hS1 => ?_)
              · (try dsimp only); (try simp only [World.cell?_drew]); (repeat' apply And.intro) <;> (first | (rw [World.cell?_alloc_at _ _ _ _ (by simp)]; exact e1) | (rw [World.cell?_alloc_at _ _ _ _ (by simp)]; exact e4) | (rw [c_lt (by simp), World.cell?_alloc_at _ _ _ _ (by simp)]; exact e1) | (rw [c_lt (by simp), World.cell?_alloc_at _ _ _ _ (by simp)]; exact e4) | (go_keep; done))
              clear hS1 hK K hHeld
              refine wpAnyH_done (by kernel_rfl) ?_ _
              go_wp2_with fail
              refine bodyPost_ret (v := .agg #[.string (keyN p1), .int .i64 (1 + (p2 : Int)), .int .i64 (p3 : Int), .string (valN p4)]) (by simp [results, Tryz.results78, go_sem, hw]) rfl ⟨rfl, ?_⟩
              repeat first | exact Below.refl _ _ | refine Below.drew ?_ | refine Below.alloc ?_ (by simp <;> omega) _
            exact AllReadyH.nil
          exact AllReadyH.nil
        refine AllReadyH.cons rfl (fun K hK => ?_) ?_
        · skip
          go_simp
          go_wp2_with (go_at_call 11; refine (HP3.out _).mono ?_; rintro e w' ⟨rfl, rfl⟩)
          refine hK.out _ _ (by assumption) (fun hS1 => ?_)
          clear hS1 hK K
          try simp only [Act.put, List.setIfInBounds_toArray, List.set_cons_zero, List.set_cons_succ, List.getElem_toArray, List.getElem_cons_zero, List.getElem_cons_succ]
          refine wpAnyH_ready (rs := [0, 16]) (by kernel_rfl) (by simp) ?_
          refine AllReadyH.cons rfl (fun K hK => ?_) ?_
          · skip
            go_simp
            refine hK.out _ _ ?_ (fun hS1 => ?_)
            · (try dsimp only); (try simp only [World.cell?_drew]); (repeat' apply And.intro) <;> (first | (rw [World.cell?_alloc_at _ _ _ _ (by simp)]; exact e1) | (rw [World.cell?_alloc_at _ _ _ _ (by simp)]; exact e4) | (rw [c_lt (by simp), World.cell?_alloc_at _ _ _ _ (by simp)]; exact e1) | (rw [c_lt (by simp), World.cell?_alloc_at _ _ _ _ (by simp)]; exact e4) | (go_keep; done))
            clear hHeld hK K
            refine wpAnyH_more (F := fun w' => w'.cell? ⟨w.heap.size + 1 + 1 + 1, p1, none⟩ = some (.string (keyN p1))) hS1 ?_ (fun hHeld => ?_)
            · simp only [World.cell?_drew]
              rw [World.cell?_alloc_at _ _ _ _ (by simp)]
              exact e1
            clear hS1
            try simp only [Act.put, List.setIfInBounds_toArray, List.set_cons_zero, List.set_cons_succ, List.getElem_toArray, List.getElem_cons_zero, List.getElem_cons_succ]
            refine wpAnyH_take (i := 4) (v := ?_) rfl (by kernel_rfl) (by kernel_rfl) (by kernel_rfl) (fun _ _ _ h => h) (Or.inl ⟨by rfl, ?_⟩) (by assumption) ?_
            rotate_left
            · (intro w hSw; (try dsimp only at hSw); go_simp) <;> with_reducible rfl
            try simp only [Act.put, List.setIfInBounds_toArray, List.set_cons_zero, List.set_cons_succ, List.getElem_toArray, List.getElem_cons_zero, List.getElem_cons_succ]
            refine wpAnyH_take (i := 5) (v := ?_) rfl (by kernel_rfl) (by kernel_rfl) (by kernel_rfl) (fun _ _ _ h => h) (Or.inl ⟨by rfl, ?_⟩) (by assumption) ?_
            rotate_left
            · (intro w hSw; (try dsimp only at hSw); go_simp) <;> with_reducible rfl
            try simp only [Act.put, List.setIfInBounds_toArray, List.set_cons_zero, List.set_cons_succ, List.getElem_toArray, List.getElem_cons_zero, List.getElem_cons_succ]
            refine wpAnyH_ready (rs := [16]) (by kernel_rfl) (by simp) ?_
            refine AllReadyH.cons rfl (fun K hK => ?_) ?_
            · skip
              go_simp
              go_wp2_with (go_at_call 11; refine (HP4.out _).mono ?_; rintro e w' ⟨rfl, rfl⟩)
              refine hK.out _ _ (by assumption) (fun hS1 => ?_)
              clear hS1 hK K
              try simp only [Act.put, List.setIfInBounds_toArray, List.set_cons_zero, List.set_cons_succ, List.getElem_toArray, List.getElem_cons_zero, List.getElem_cons_succ]
              refine wpAnyH_take (i := 17) (v := ?_) rfl (by kernel_rfl) (by kernel_rfl) (by kernel_rfl) (fun _ _ _ h => h) (Or.inl ⟨by rfl, ?_⟩) (by assumption) ?_
              rotate_left
              · (intro w hSw; (try dsimp only at hSw); go_simp) <;> with_reducible rfl
              try simp only [Act.put, List.setIfInBounds_toArray, List.set_cons_zero, List.set_cons_succ, List.getElem_toArray, List.getElem_cons_zero, List.getElem_cons_succ]
              refine wpAnyH_take (i := 18) (v := ?_) rfl (by kernel_rfl) (by kernel_rfl) (by kernel_rfl) (fun _ _ _ h => h) (Or.inl ⟨by rfl, ?_⟩) (by assumption) ?_
              rotate_left
              · (intro w hSw; (try dsimp only at hSw); go_simp) <;> with_reducible rfl
              try simp only [Act.put, List.setIfInBounds_toArray, List.set_cons_zero, List.set_cons_succ, List.getElem_toArray, List.getElem_cons_zero, List.getElem_cons_succ]
              refine wpAnyH_take (i := 19) (v := ?_) rfl (by kernel_rfl) (by kernel_rfl) (by kernel_rfl) (fun _ _ _ h => h) (Or.inl ⟨by rfl, ?_⟩) (by assumption) ?_
              rotate_left
              · (intro w hSw; (try dsimp only at hSw); go_simp) <;> with_reducible rfl
              try simp only [Act.put, List.setIfInBounds_toArray, List.set_cons_zero, List.set_cons_succ, List.getElem_toArray, List.getElem_cons_zero, List.getElem_cons_succ]
              refine wpAnyH_ready (rs := [20]) (by kernel_rfl) (by simp) ?_
              refine AllReadyH.cons rfl (fun K hK => ?_) AllReadyH.nil
              go_simp
              refine hK.out _ _ ?_ (fun hS1 => ?_)
              · (try dsimp only); (try simp only [World.cell?_drew]); (repeat' apply And.intro) <;> (first | (rw [World.cell?_alloc_at _ _ _ _ (by simp)]; exact e1) | (rw [World.cell?_alloc_at _ _ _ _ (by simp)]; exact e4) | (rw [c_lt (by simp), World.cell?_alloc_at _ _ _ _ (by simp)]; exact e1) | (rw [c_lt (by simp), World.cell?_alloc_at _ _ _ _ (by simp)]; exact e4) | (go_keep; done))
              clear hS1 hK K hHeld
              refine wpAnyH_done (by kernel_rfl) ?_ _
              go_wp2_with fail
              refine bodyPost_ret (v := .agg #[.string (keyN p1), .int .i64 (1 + (p2 : Int)), .int .i64 (p3 : Int), .string (valN p4)]) (by simp [results, Tryz.results78, go_sem, hw]) rfl ⟨rfl, ?_⟩
              repeat first | exact Below.refl _ _ | refine Below.drew ?_ | refine Below.alloc ?_ (by simp <;> omega) _
            exact AllReadyH.nil
          refine AllReadyH.cons rfl (fun K hK => ?_) ?_
          · skip
            go_simp
            go_wp2_with (go_at_call 11; refine (HP4.out _).mono ?_; rintro e w' ⟨rfl, rfl⟩)
            refine hK.out _ _ (by assumption) (fun hS1 => ?_)
            clear hS1 hK K
            try simp only [Act.put, List.setIfInBounds_toArray, List.set_cons_zero, List.set_cons_succ, List.getElem_toArray, List.getElem_cons_zero, List.getElem_cons_succ]
            refine wpAnyH_take (i := 17) (v := ?_) rfl (by kernel_rfl) (by kernel_rfl) (by kernel_rfl) (fun _ _ _ h => h) (Or.inl ⟨by rfl, ?_⟩) (by assumption) ?_
            rotate_left
            · (intro w hSw; (try dsimp only at hSw); go_simp) <;> with_reducible rfl
            try simp only [Act.put, List.setIfInBounds_toArray, List.set_cons_zero, List.set_cons_succ, List.getElem_toArray, List.getElem_cons_zero, List.getElem_cons_succ]
            refine wpAnyH_take (i := 18) (v := ?_) rfl (by kernel_rfl) (by kernel_rfl) (by kernel_rfl) (fun _ _ _ h => h) (Or.inl ⟨by rfl, ?_⟩) (by assumption) ?_
            rotate_left
            · (intro w hSw; (try dsimp only at hSw); go_simp) <;> with_reducible rfl
            try simp only [Act.put, List.setIfInBounds_toArray, List.set_cons_zero, List.set_cons_succ, List.getElem_toArray, List.getElem_cons_zero, List.getElem_cons_succ]
            refine wpAnyH_ready (rs := [0]) (by kernel_rfl) (by simp) ?_
            refine AllReadyH.cons rfl (fun K hK => ?_) ?_
            · skip
              go_simp
              refine hK.out _ _ ?_ (fun hS1 => ?_)
              · (try dsimp only); (try simp only [World.cell?_drew]); (repeat' apply And.intro) <;> (first | (rw [World.cell?_alloc_at _ _ _ _ (by simp)]; exact e1) | (rw [World.cell?_alloc_at _ _ _ _ (by simp)]; exact e4) | (rw [c_lt (by simp), World.cell?_alloc_at _ _ _ _ (by simp)]; exact e1) | (rw [c_lt (by simp), World.cell?_alloc_at _ _ _ _ (by simp)]; exact e4) | (go_keep; done))
              clear hHeld hK K
              refine wpAnyH_more (F := fun w' => w'.cell? ⟨w.heap.size + 1 + 1 + 1, p1, none⟩ = some (.string (keyN p1))) hS1 ?_ (fun hHeld => ?_)
              · simp only [World.cell?_drew]
                rw [World.cell?_alloc_at _ _ _ _ (by simp)]
                exact e1
              clear hS1
              try simp only [Act.put, List.setIfInBounds_toArray, List.set_cons_zero, List.set_cons_succ, List.getElem_toArray, List.getElem_cons_zero, List.getElem_cons_succ]
              refine wpAnyH_take (i := 4) (v := ?_) rfl (by kernel_rfl) (by kernel_rfl) (by kernel_rfl) (fun _ _ _ h => h) (Or.inl ⟨by rfl, ?_⟩) (by assumption) ?_
              rotate_left
              · (intro w hSw; (try dsimp only at hSw); go_simp) <;> with_reducible rfl
              try simp only [Act.put, List.setIfInBounds_toArray, List.set_cons_zero, List.set_cons_succ, List.getElem_toArray, List.getElem_cons_zero, List.getElem_cons_succ]
              refine wpAnyH_take (i := 5) (v := ?_) rfl (by kernel_rfl) (by kernel_rfl) (by kernel_rfl) (fun _ _ _ h => h) (Or.inl ⟨by rfl, ?_⟩) (by assumption) ?_
              rotate_left
              · (intro w hSw; (try dsimp only at hSw); go_simp) <;> with_reducible rfl
              try simp only [Act.put, List.setIfInBounds_toArray, List.set_cons_zero, List.set_cons_succ, List.getElem_toArray, List.getElem_cons_zero, List.getElem_cons_succ]
              refine wpAnyH_take (i := 19) (v := ?_) rfl (by kernel_rfl) (by kernel_rfl) (by kernel_rfl) (fun _ _ _ h => h) (Or.inl ⟨by rfl, ?_⟩) (by assumption) ?_
              rotate_left
              · (intro w hSw; (try dsimp only at hSw); go_simp) <;> with_reducible rfl
              try simp only [Act.put, List.setIfInBounds_toArray, List.set_cons_zero, List.set_cons_succ, List.getElem_toArray, List.getElem_cons_zero, List.getElem_cons_succ]
              refine wpAnyH_ready (rs := [20]) (by kernel_rfl) (by simp) ?_
              refine AllReadyH.cons rfl (fun K hK => ?_) AllReadyH.nil
              go_simp
              refine hK.out _ _ ?_ (fun hS1 => ?_)
              · (try dsimp only); (try simp only [World.cell?_drew]); (repeat' apply And.intro) <;> (first | (rw [World.cell?_alloc_at _ _ _ _ (by simp)]; exact e1) | (rw [World.cell?_alloc_at _ _ _ _ (by simp)]; exact e4) | (rw [c_lt (by simp), World.cell?_alloc_at _ _ _ _ (by simp)]; exact e1) | (rw [c_lt (by simp), World.cell?_alloc_at _ _ _ _ (by simp)]; exact e4) | (go_keep; done))
              clear hS1 hK K hHeld
              refine wpAnyH_done (by kernel_rfl) ?_ _
              go_wp2_with fail
              refine bodyPost_ret (v := .agg #[.string (keyN p1), .int .i64 (1 + (p2 : Int)), .int .i64 (p3 : Int), .string (valN p4)]) (by simp [results, Tryz.results78, go_sem, hw]) rfl ⟨rfl, ?_⟩
              repeat first | exact Below.refl _ _ | refine Below.drew ?_ | refine Below.alloc ?_ (by simp <;> omega) _
            exact AllReadyH.nil
          exact AllReadyH.nil
        exact AllReadyH.nil
      exact AllReadyH.nil
    exact AllReadyH.nil
  exact AllReadyH.nil
end Go.Proofs.YtcbkimbeljhbhaaGreatDoor

namespace Go.Proofs.YtcbkimbeljhbhaaGreatDoor
open Go.RowKit

def pByte : List UInt8 → Except Int (Int × List UInt8)
  | [] => .error 5
  | c :: r => .ok ((c.toNat : Int), r)
def pNumGo (i n : Nat) : List UInt8 → Except Int (Int × List UInt8)
  | [] => .error 5
  | c :: r => if i = 7 ∨ (0 < i ∧ c.toNat = 0) then .error 4 else
    if c.toNat < 128 then .ok (((n + c.toNat % 128 * 128 ^ i : Nat) : Int), r) else pNumGo (i + 1) (n + c.toNat % 128 * 128 ^ i) r
def pNum : List UInt8 → Except Int (Int × List UInt8) := pNumGo 0 0
def pText : List UInt8 → Except Int (ByteArray × List UInt8)
  | [] => .error 5
  | c :: r => if r.length < c.toNat then .error 5 else .ok (⟨(r.take c.toNat).toArray⟩, r.drop c.toNat)
theorem pText_cons (c : UInt8) (r : List UInt8) : pText (c :: r) = if r.length < c.toNat then .error 5 else .ok (⟨(r.take c.toNat).toArray⟩, r.drop c.toNat) := rfl
def pEntry (l : List UInt8) : Except Int (Entry × List UInt8) :=
  match pText l with
  | .error e => .error e
  | .ok (k, l1) => match pNum l1 with
    | .error e => .error e
    | .ok (v, l2) => match pByte l2 with
      | .error e => .error e
      | .ok (o, l3) => match pText l3 with
        | .error e => .error e
        | .ok (x, l4) => .ok (⟨k, v, o, x⟩, l4)
def pMany : Nat → List UInt8 → Except Int (List Entry × List UInt8)
  | 0, l => .ok ([], l)
  | k + 1, l => match pEntry l with
    | .error e => .error e
    | .ok (x, l1) => match pMany k l1 with
      | .error e => .error e
      | .ok (xs, l2) => .ok (x :: xs, l2)
def decBody (l : List UInt8) : List Entry × Int :=
  match pByte l with
  | .error e => ([], e)
  | .ok (n, l1) => match pMany n.toNat l1 with
    | .error e => ([], e)
    | .ok (es, r) => if r ≠ [] then ([], 4) else if checkS es ≠ 0 then ([], checkS es) else (es, 0)
def decS (b : List UInt8) : List Entry × Int :=
  if 20000 < b.length then ([], 1) else if b.length < 6 then ([], 5) else if b.head? ≠ some 116 then ([], 4) else
  if sealB (b.take (b.length - 4)) ≠ b.drop (b.length - 4) then ([], 9) else decBody ((b.take (b.length - 4)).drop 1)

/-! errors are not 0 -/
theorem pByte_err {l : List UInt8} {e : Int} (h : pByte l = .error e) : e ≠ 0 := by
  cases l <;> simp [pByte] at h; omega
theorem pNumGo_err : ∀ (l : List UInt8) (i n : Nat) (e : Int), pNumGo i n l = .error e → e ≠ 0
  | [], i, n, e, h => by simp [pNumGo] at h; omega
  | c :: r, i, n, e, h => by
    unfold pNumGo at h
    split at h
    · injection h with h; omega
    · split at h
      · cases h
      · exact pNumGo_err r _ _ e h
theorem pText_err {l : List UInt8} {e : Int} (h : pText l = .error e) : e ≠ 0 := by
  cases l with
  | nil => simp [pText] at h; omega
  | cons c r =>
    rw [pText_cons] at h
    by_cases hl : r.length < c.toNat
    · rw [if_pos hl] at h; injection h with h; omega
    · rw [if_neg hl] at h; cases h
theorem pEntry_err {l : List UInt8} {e : Int} (h : pEntry l = .error e) : e ≠ 0 := by
  unfold pEntry at h
  rcases h1 : pText l with e1 | ⟨k, l1⟩ <;> rw [h1] at h <;> simp only at h
  · injection h with h; subst h; exact pText_err h1
  rcases h2 : pNum l1 with e1 | ⟨v, l2⟩ <;> rw [h2] at h <;> simp only at h
  · injection h with h; subst h; exact pNumGo_err _ _ _ _ h2
  rcases h3 : pByte l2 with e1 | ⟨o, l3⟩ <;> rw [h3] at h <;> simp only at h
  · injection h with h; subst h; exact pByte_err h3
  rcases h4 : pText l3 with e1 | ⟨x, l4⟩ <;> rw [h4] at h <;> simp only at h
  · injection h with h; subst h; exact pText_err h4
  · cases h
theorem pMany_err : ∀ (k : Nat) (l : List UInt8) (e : Int), pMany k l = .error e → e ≠ 0
  | 0, l, e, h => by simp [pMany] at h
  | k + 1, l, e, h => by
    unfold pMany at h
    rcases h1 : pEntry l with e1 | ⟨x, l1⟩ <;> rw [h1] at h <;> simp only at h
    · injection h with h; subst h; exact pEntry_err h1
    rcases h2 : pMany k l1 with e1 | ⟨xs, l2⟩ <;> rw [h2] at h <;> simp only at h
    · injection h with h; subst h; exact pMany_err _ _ _ h2
    · cases h

/-! what has been read had been written -/
theorem b8_of (c : UInt8) : b8 (c.toNat : Int) = c := by
  unfold b8; rw [Int.toNat_natCast]; simp
theorem pByte_inv {l r : List UInt8} {n : Int} (h : pByte l = .ok (n, r)) : l = b8 n :: r ∧ 0 ≤ n ∧ n ≤ 255 := by
  cases l with
  | nil => simp [pByte] at h
  | cons c s =>
    simp only [pByte, Except.ok.injEq, Prod.mk.injEq] at h
    obtain ⟨rfl, rfl⟩ := h
    have := c.toNat_lt
    exact ⟨by rw [b8_of], by omega, by omega⟩
theorem pText_inv {l r : List UInt8} {s : ByteArray} (h : pText l = .ok (s, r)) : l = b8 s.size :: (s.data.toList ++ r) := by
  cases l with
  | nil => simp [pText] at h
  | cons c t =>
    rw [pText_cons] at h
    by_cases hl : t.length < c.toNat
    · rw [if_pos hl] at h; cases h
    · rw [if_neg hl] at h
      simp only [Except.ok.injEq, Prod.mk.injEq] at h
      obtain ⟨rfl, rfl⟩ := h
      have hs : (⟨(t.take c.toNat).toArray⟩ : ByteArray).size = c.toNat := by
        show (t.take c.toNat).toArray.size = _
        rw [List.size_toArray, List.length_take]; omega
      rw [hs, b8_of]
      simp
theorem pNumGo_inv : ∀ (l : List UInt8) (i n : Nat) (m : Int) (r : List UInt8), pNumGo i n l = .ok (m, r) → ∃ q : Nat, m = ((n + q * 128 ^ i : Nat) : Int) ∧ l = sev q ++ r ∧ (0 < i → 0 < q)
  | [], i, n, m, r, h => by simp [pNumGo] at h
  | c :: t, i, n, m, r, h => by
    unfold pNumGo at h
    split at h
    · cases h
    · rename_i hi
      split at h
      · rename_i hc
        simp only [Except.ok.injEq, Prod.mk.injEq] at h
        obtain ⟨rfl, rfl⟩ := h
        refine ⟨c.toNat, by rw [Nat.mod_eq_of_lt hc], by rw [sev_small hc, b8_of]; rfl, fun h0 => ?_⟩
        rcases Nat.eq_zero_or_pos c.toNat with e | e
        · exact absurd (Or.inr ⟨h0, e⟩) hi
        · exact e
      · rename_i hc
        obtain ⟨q, h1, h2, h3⟩ := pNumGo_inv t _ _ m r h
        have hq := h3 (by omega)
        have hlt := c.toNat_lt
        refine ⟨c.toNat % 128 + 128 * q, ?_, ?_, fun _ => by omega⟩
        · rw [h1]
          congr 1
          rw [Nat.pow_succ, Nat.add_mul, Nat.mul_comm (128 ^ i) 128, ← Nat.mul_assoc, Nat.mul_comm q 128]; omega
        · rw [sev_big (by omega), h2]
          have e1 : (c.toNat % 128 + 128 * q) % 128 = c.toNat % 128 := by omega
          have e2 : (c.toNat % 128 + 128 * q) / 128 = q := by omega
          have e3 : 128 + c.toNat % 128 = c.toNat := by omega
          rw [e1, e2, e3, b8_of]; rfl
theorem pNum_inv {l r : List UInt8} {m : Int} (h : pNum l = .ok (m, r)) : 0 ≤ m ∧ l = sev m.toNat ++ r := by
  obtain ⟨q, rfl, h2, _⟩ := pNumGo_inv l 0 0 m r h
  simp only [Nat.zero_add, Nat.pow_zero, Nat.mul_one]
  exact ⟨Int.natCast_nonneg _, by simpa using h2⟩
theorem pEntry_inv {l r : List UInt8} {x : Entry} (h : pEntry l = .ok (x, r)) : l = encE x ++ r := by
  unfold pEntry at h
  rcases h1 : pText l with e1 | ⟨k, l1⟩ <;> rw [h1] at h <;> simp only at h
  · cases h
  rcases h2 : pNum l1 with e1 | ⟨v, l2⟩ <;> rw [h2] at h <;> simp only at h
  · cases h
  rcases h3 : pByte l2 with e1 | ⟨o, l3⟩ <;> rw [h3] at h <;> simp only at h
  · cases h
  rcases h4 : pText l3 with e1 | ⟨y, l4⟩ <;> rw [h4] at h <;> simp only at h
  · cases h
  · simp only [Except.ok.injEq, Prod.mk.injEq] at h
    obtain ⟨rfl, rfl⟩ := h
    rw [pText_inv h1, (pNum_inv h2).2, (pByte_inv h3).1, pText_inv h4]
    unfold encE
    simp
theorem pMany_inv : ∀ (k : Nat) (l : List UInt8) (xs : List Entry) (r : List UInt8), pMany k l = .ok (xs, r) → l = (xs.map encE).flatten ++ r ∧ xs.length = k
  | 0, l, xs, r, h => by simp [pMany] at h; obtain ⟨rfl, rfl⟩ := h; simp
  | k + 1, l, xs, r, h => by
    unfold pMany at h
    rcases h1 : pEntry l with e1 | ⟨x, l1⟩ <;> rw [h1] at h <;> simp only at h
    · cases h
    rcases h2 : pMany k l1 with e1 | ⟨ys, l2⟩ <;> rw [h2] at h <;> simp only at h
    · cases h
    · simp only [Except.ok.injEq, Prod.mk.injEq] at h
      obtain ⟨rfl, rfl⟩ := h
      obtain ⟨g1, g2⟩ := pMany_inv k l1 ys l2 h2
      rw [pEntry_inv h1, g1]
      simp [g2]

/-! what has been written can be read -/
theorem pByte_enc {n : Int} (h0 : 0 ≤ n) (h1 : n ≤ 255) (r : List UInt8) : pByte (b8 n :: r) = .ok (n, r) := by
  simp only [pByte]; rw [b8_toNat h0 h1]
theorem pText_enc {s : ByteArray} (h : s.size ≤ 255) (r : List UInt8) : pText (b8 s.size :: (s.data.toList ++ r)) = .ok (s, r) := by
  have hl : s.data.toList.length = s.size := size_toList s
  have hb : (b8 s.size).toNat = s.size := by
    have := b8_toNat (n := (s.size : Int)) (by omega) (by omega)
    omega
  rw [pText_cons, hb, if_neg (by rw [List.length_append, hl]; omega), List.take_append_of_le_length (by omega), List.take_of_length_le (by omega), List.drop_append_of_le_length (by omega), List.drop_of_length_le (by omega)]
  simp
theorem pNumGo_enc : ∀ (d q i n : Nat) (r : List UInt8), i + d = 6 → q < 128 ^ (d + 1) → (0 < i → 0 < q) → pNumGo i n (sev q ++ r) = .ok (((n + q * 128 ^ i : Nat) : Int), r) := by
  intro d
  induction d with
  | zero =>
    intro q i n r hi hq h0
    have hq' : q < 128 := by omega
    have hb : (b8 q).toNat = q := by have := b8_toNat (n := (q : Int)) (by omega) (by omega); omega
    rw [sev_small hq', List.singleton_append]
    unfold pNumGo
    rw [hb, if_neg (by omega), if_pos hq', Nat.mod_eq_of_lt hq']
  | succ d ih =>
    intro q i n r hi hq h0
    by_cases hq' : q < 128
    · have hb : (b8 q).toNat = q := by have := b8_toNat (n := (q : Int)) (by omega) (by omega); omega
      rw [sev_small hq', List.singleton_append]
      unfold pNumGo
      rw [hb, if_neg (by omega), if_pos hq', Nat.mod_eq_of_lt hq']
    · have hb : (b8 (128 + q % 128 : Nat)).toNat = 128 + q % 128 := by have := b8_toNat (n := ((128 + q % 128 : Nat) : Int)) (by omega) (by omega); omega
      rw [sev_big hq', List.cons_append]
      unfold pNumGo
      rw [hb, if_neg (by omega), if_neg (by omega), ih (q / 128) (i + 1) _ r (by omega) (by rw [Nat.div_lt_iff_lt_mul (by omega)]; rwa [Nat.pow_succ] at hq) (by omega)]
      congr 2
      have e1 : (128 + q % 128) % 128 = q % 128 := by omega
      rw [e1, Nat.pow_succ, Nat.add_assoc, Nat.mul_comm (128 ^ i) 128, ← Nat.mul_assoc, ← Nat.add_mul]
      have e2 : q % 128 + q / 128 * 128 = q := by omega
      rw [e2]
theorem pEntry_enc {x : Entry} (h : entryOk x = true) (r : List UInt8) : pEntry (encE x ++ r) = .ok (x, r) := by
  obtain ⟨h1, h2, h3, h4, h5, h6, h7⟩ := entryOk_bounds h
  have e : encE x ++ r = b8 x.key.size :: (x.key.data.toList ++ (sev x.version.toNat ++ (b8 x.origin :: (b8 x.value.size :: (x.value.data.toList ++ r))))) := by unfold encE; simp
  have hn := pNumGo_enc 6 x.version.toNat 0 0 (b8 x.origin :: (b8 x.value.size :: (x.value.data.toList ++ r))) rfl (by omega) (by omega)
  have hv : ((0 + x.version.toNat * 128 ^ 0 : Nat) : Int) = x.version := by omega
  rw [hv] at hn
  rw [e]
  unfold pEntry pNum
  rw [pText_enc (by omega)]
  simp only
  rw [hn]
  simp only
  rw [pByte_enc (by omega) (by omega)]
  simp only
  rw [pText_enc (by omega)]
theorem pMany_enc : ∀ (xs : List Entry) (r : List UInt8), (∀ e ∈ xs, entryOk e = true) → pMany xs.length ((xs.map encE).flatten ++ r) = .ok (xs, r)
  | [], r, _ => by simp [pMany]
  | x :: xs, r, h => by
    rw [List.map_cons, List.flatten_cons, List.append_assoc, List.length_cons]
    unfold pMany
    rw [pEntry_enc (h x (by simp))]
    simp only
    rw [pMany_enc xs r (fun e he => h e (by simp [he]))]

/-! the whole -/
theorem decBody_ok {l : List UInt8} {xs : List Entry} (h : decBody l = (xs, 0)) : checkS xs = 0 ∧ l = b8 xs.length :: (xs.map encE).flatten := by
  unfold decBody at h
  rcases h1 : pByte l with e1 | ⟨n, l1⟩ <;> rw [h1] at h <;> simp only at h
  · injection h with _ h; exact absurd h (pByte_err h1)
  rcases h2 : pMany n.toNat l1 with e1 | ⟨ys, l2⟩ <;> rw [h2] at h <;> simp only at h
  · injection h with _ h; exact absurd h (pMany_err _ _ _ h2)
  obtain ⟨g1, g2, g3⟩ := pByte_inv h1
  obtain ⟨k1, k2⟩ := pMany_inv _ _ _ _ h2
  split at h
  · injection h with _ h; cases h
  · rename_i hr
    have hr' : l2 = [] := by simpa using hr
    split at h
    · rename_i hc
      injection h with _ h; exact absurd h hc
    · rename_i hc
      injection h with h _
      subst h
      refine ⟨by simpa using hc, ?_⟩
      rw [g1, k1, hr', List.append_nil, k2]
      congr 2
      omega
theorem decBody_bad {l : List UInt8} {xs : List Entry} {e : Int} (h : decBody l = (xs, e)) (he : e ≠ 0) : xs = [] := by
  unfold decBody at h
  rcases h1 : pByte l with e1 | ⟨n, l1⟩ <;> rw [h1] at h <;> simp only at h
  · injection h with h _; exact h.symm
  rcases h2 : pMany n.toNat l1 with e1 | ⟨ys, l2⟩ <;> rw [h2] at h <;> simp only at h
  · injection h with h _; exact h.symm
  split at h
  · injection h with h _; exact h.symm
  · split at h
    · injection h with h _; exact h.symm
    · injection h with _ h; exact absurd h.symm he
theorem decS_bad {b : List UInt8} {xs : List Entry} {e : Int} (h : decS b = (xs, e)) (he : e ≠ 0) : xs = [] := by
  unfold decS at h
  split at h
  · injection h with h _; exact h.symm
  split at h
  · injection h with h _; exact h.symm
  split at h
  · injection h with h _; exact h.symm
  split at h
  · injection h with h _; exact h.symm
  exact decBody_bad h he
/-- no store has two forms -/
theorem decS_ok {b : List UInt8} {xs : List Entry} (h : decS b = (xs, 0)) : checkS xs = 0 ∧ encS xs = b := by
  unfold decS at h
  split at h
  · injection h with _ h; cases h
  split at h
  · injection h with _ h; cases h
  rename_i _ h6
  split at h
  · injection h with _ h; cases h
  rename_i hh
  split at h
  · injection h with _ h; cases h
  rename_i hs
  obtain ⟨h1, h2⟩ := decBody_ok h
  refine ⟨h1, ?_⟩
  have hs' : sealB (b.take (b.length - 4)) = b.drop (b.length - 4) := by simpa using hs
  have hB : b.take (b.length - 4) = encB xs := by
    unfold encB
    rw [← h2]
    cases b with
    | nil => simp at h6
    | cons c t =>
      have hc : c = 116 := by simpa using hh
      subst hc
      simp only [List.length_cons] at h6 ⊢
      have e : t.length + 1 - 4 = (t.length - 4) + 1 := by omega
      rw [e, List.take_succ_cons]
      simp
  rw [hB] at hs'
  unfold encS
  rw [hs', ← hB, List.take_append_drop]
theorem encS_len (xs : List Entry) (h : OkS xs) : 6 ≤ (encS xs).length ∧ (encS xs).length ≤ 10000 ∧ (encB xs).length = (encS xs).length - 4 := by
  have h1 := encTo_len h.ok xs.length (Nat.le_refl _)
  rw [encTo_end xs _ (Nat.le_refl _)] at h1
  have h2 := h.len
  unfold encS
  rw [List.length_append]
  have h3 : (sealB (encB xs)).length = 4 := rfl
  have h4 : 2 ≤ (encB xs).length := by unfold encB; simp
  omega
theorem decS_enc {xs : List Entry} (h : OkS xs) : decS (encS xs) = (xs, 0) := by
  obtain ⟨h1, h2, h3⟩ := encS_len xs h
  have ht : (encS xs).take ((encS xs).length - 4) = encB xs := by
    rw [← h3]; unfold encS; rw [List.take_append_of_le_length (Nat.le_refl _), List.take_length]
  have hd : (encS xs).drop ((encS xs).length - 4) = sealB (encB xs) := by
    rw [← h3]; unfold encS; rw [List.drop_append_of_le_length (Nat.le_refl _), List.drop_length, List.nil_append]
  unfold decS
  rw [if_neg (by omega), if_neg (by omega), if_neg (by simp [encS, encB]), ht, hd, if_neg (by simp)]
  unfold encB decBody
  have h60 := h.len
  simp only [List.drop_succ_cons, List.drop_zero]
  rw [pByte_enc (by omega) (by omega)]
  simp only [Int.toNat_natCast]
  have hm := pMany_enc xs [] h.ok
  rw [List.append_nil] at hm
  rw [hm]
  simp [h.check]
theorem decS_more {xs : List Entry} (h : OkS xs) (c : UInt8) : (decS (encS xs ++ [c])).2 ≠ 0 := by
  intro h0
  obtain ⟨l, e, hl⟩ : ∃ l e, decS (encS xs ++ [c]) = (l, e) := ⟨_, _, rfl⟩
  rw [hl] at h0
  simp only at h0
  subst h0
  obtain ⟨g1, g2⟩ := decS_ok hl
  have gl := okS_of g1
  have gl60 := gl.len
  have h60 := h.len
  unfold encS encB at g2
  simp only [List.cons_append, List.cons.injEq, true_and, List.append_assoc] at g2
  obtain ⟨g3, g4⟩ := g2
  have g5 := b8_inj (by omega) (by omega) (by omega) (by omega) g3
  have g6 := pMany_enc l (sealB (116 :: b8 l.length :: (l.map encE).flatten)) gl.ok
  have g7 := pMany_enc xs (sealB (116 :: b8 xs.length :: (xs.map encE).flatten) ++ [c]) h.ok
  have e : l.length = xs.length := by omega
  rw [g4, e, g7] at g6
  simp only [Except.ok.injEq, Prod.mk.injEq] at g6
  have := congrArg List.length g6.2
  simp [sealB] at this
theorem sums_fst (l : List UInt8) : (sums l).1 = (1 + ((l.map fun c => (c.toNat : Int)).sum)) % 65521 := by
  suffices h : ∀ (l : List UInt8) (p : Int × Int), 0 ≤ p.1 → p.1 < 65521 → (l.foldl (fun (p : Int × Int) (c : UInt8) => let x := (p.1 + (c.toNat : Int)) % 65521; (x, (p.2 + x) % 65521)) p).1 = (p.1 + ((l.map fun c => (c.toNat : Int)).sum)) % 65521 from h l (1, 0) (by simp) (by simp)
  intro l
  induction l with
  | nil => intro p h0 h1; simp; omega
  | cons c t ih =>
    intro p h0 h1
    rw [List.foldl_cons, ih _ (by simp only; omega) (by simp only; omega)]
    simp only [List.map_cons, List.sum_cons]
    omega
theorem sum_set (l : List UInt8) (i : Nat) (h : i < l.length) (c : UInt8) : ((l.set i c).map fun c => (c.toNat : Int)).sum = (l.map fun c => (c.toNat : Int)).sum + (c.toNat : Int) - (l[i].toNat : Int) := by
  induction l generalizing i with
  | nil => simp at h
  | cons a t ih =>
    cases i with
    | zero => simp; omega
    | succ i =>
      have := ih i (by simpa using h)
      simp only [List.set_cons_succ, List.map_cons, List.sum_cons, List.getElem_cons_succ, this]
      omega
theorem sealB_fst {l m : List UInt8} (h : sealB l = sealB m) : (sums l).1 = (sums m).1 := by
  unfold sealB at h
  simp only [List.cons.injEq, and_true] at h
  obtain ⟨_, _, h3, h4⟩ := h
  obtain ⟨a1, a2, _, _⟩ := sums_lt l
  obtain ⟨b1, b2, _, _⟩ := sums_lt m
  have e3 := b8_inj (by omega) (by omega) (by omega) (by omega) h3
  have e4 := b8_inj (by omega) (by omega) (by omega) (by omega) h4
  omega
/-- one byte that is spoilt is seen -/
theorem decS_spoilt {xs : List Entry} (h : OkS xs) (i : Nat) (hi : i < (encS xs).length) (c : UInt8) (hc : c ≠ (encS xs)[i]) : (decS ((encS xs).set i c)).2 ≠ 0 := by
  intro h0
  obtain ⟨l, e, hl⟩ : ∃ l e, decS ((encS xs).set i c) = (l, e) := ⟨_, _, rfl⟩
  rw [hl] at h0
  simp only at h0
  subst h0
  obtain ⟨g1, g2⟩ := decS_ok hl
  have gl := okS_of g1
  obtain ⟨l1, l2, l3⟩ := encS_len l gl
  obtain ⟨x1, x2, x3⟩ := encS_len xs h
  have hlen : (encB l).length = (encB xs).length := by
    have := congrArg List.length g2
    rw [List.length_set] at this
    omega
  have hs3 : ∀ m : List UInt8, (sealB m).length = 4 := fun _ => rfl
  by_cases hb : i < (encB xs).length
  · have e1 : encB l ++ sealB (encB l) = (encB xs).set i c ++ sealB (encB xs) := by
      have : (encS xs).set i c = (encB xs).set i c ++ sealB (encB xs) := by unfold encS; rw [List.set_append_left _ _ hb]
      rw [← this, ← g2]; rfl
    obtain ⟨e2, e3⟩ := List.append_inj e1 (by rw [List.length_set]; exact hlen)
    have e4 := sealB_fst e3
    rw [sums_fst, sums_fst, e2, sum_set _ _ hb] at e4
    have hne : c.toNat ≠ (encB xs)[i].toNat := by
      intro e
      apply hc
      have : c = (encB xs)[i] := UInt8.toNat_inj.1 e
      exact this.trans (List.getElem_append_left (bs := sealB (encB xs)) hb).symm
    have r1 := c.toNat_lt
    have r2 := (encB xs)[i].toNat_lt
    omega
  · have e1 : encB l ++ sealB (encB l) = encB xs ++ (sealB (encB xs)).set (i - (encB xs).length) c := by
      have : (encS xs).set i c = encB xs ++ (sealB (encB xs)).set (i - (encB xs).length) c := by unfold encS; rw [List.set_append_right _ _ (by omega)]
      rw [← this, ← g2]; rfl
    obtain ⟨e2, e3⟩ := List.append_inj e1 hlen
    rw [e2] at e3
    apply hc
    have hi' : i - (encB xs).length < (sealB (encB xs)).length := by rw [hs3]; unfold encS at hi; rw [List.length_append, hs3] at hi; omega
    have e4 : (sealB (encB xs))[i - (encB xs).length]? = some c := by
      rw [e3, List.getElem?_set_self hi']
    rw [List.getElem?_eq_getElem hi'] at e4
    injection e4 with e4
    exact e4.symm.trans (List.getElem_append_right (bs := sealB (encB xs)) (show (encB xs).length ≤ i by omega)).symm
end Go.Proofs.YtcbkimbeljhbhaaGreatDoor

namespace Go.Proofs.YtcbkimbeljhbhaaGreatDoor
open Go.RowKit Go.Deep

def oneS (s : List Entry) (r : Raw) : List Entry := (mergeStep aboveE (s, []) (rawE r)).1
/-- the store of raw things -/
def stoS (l : List Raw) : List Entry := l.foldl oneS []
theorem stoS_succ (l : List Raw) (k : Nat) (h : k < l.length) : stoS (l.take (k + 1)) = oneS (stoS (l.take k)) l[k] := by
  unfold stoS
  rw [List.take_succ_eq_append_getElem h, List.foldl_append]; rfl
theorem oneS_ok {s : List Entry} (h : OkS s) (r : Raw) : OkS (oneS s r) := mergeStep_ok (p := (s, [])) h (rawE_ok r)
theorem foldl_one_ok : ∀ (l : List Raw) (s : List Entry), OkS s → OkS (l.foldl oneS s)
  | [], _, h => h
  | r :: l, _, h => foldl_one_ok l _ (oneS_ok h r)
theorem stoS_ok (l : List Raw) : OkS (stoS l) := foldl_one_ok l [] OkS.nil
theorem okS_one (r : Raw) : OkS [rawE r] := ⟨by simp, by intro e he; simp at he; subst he; exact rawE_ok r, List.pairwise_singleton _ _⟩
theorem merge_one {s : List Entry} (h : OkS s) (r : Raw) : mergeS aboveE s [rawE r] = (oneS s r, (mergeStep aboveE (s, []) (rawE r)).2, 0) := by
  rw [merge_ok h.check (okS_one r).check]
  rfl

def NewS (w : World) (ys : List Entry) (e : Ending) (w' : World) : Prop := ∃ v', e = .returned v' ∧ Sl entR w' v' ys ∧ Below w.heap.size w w'

set_option maxRecDepth 100000 in
set_option maxHeartbeats 2000000 in
theorem store_any (v : Value) (xs : List Raw) (most : Nat) (w : World) (h : Sl rawR w v xs) (hm : most ≤ 1000) :
    Calls Tryz.prog 41 #[v, .int .i64 (most : Nat)] w (NewS w (stoS (xs.take most))) := by
  have hlen := h.len_le
  obtain ⟨A, c, rfl⟩ := h.form
  have H := Go.Lib.hid h
  clear h
  go_enter Tryz.func41, Tryz.ntmps41
  go_wp2_with fail
  go_loopw [5, 6, 7, 8, 9] (fun s5 s6 _ _ _ wr => ∃ k : Nat, k ≤ xs.length ∧ k ≤ most ∧ s6 = .int .i64 k ∧ Sl entR wr s5 (stoS (xs.take k)) ∧ Below w.heap.size w wr) (fun _ s6 _ _ _ _ => xs.length - (intOf s6).toNat)
  case atStart => exact ⟨0, Nat.zero_le _, Nat.zero_le _, rfl, Sl.nil _ _, Below.refl _ _⟩
  case round =>
    obtain ⟨k, hk, hkm, rfl, hs, hB⟩ := hrel
    have HS := Go.Lib.hid hs
    have HB := Go.Lib.hid hB
    by_cases hgo : k < xs.length ∧ k < most
    · obtain ⟨hlt, hlm⟩ := hgo
      obtain ⟨b, off, rfl, hb⟩ := H.out.at_ hlt
      obtain ⟨f1, f2, f3, f4, n1, n2, n3, n4⟩ := (H.out.below hB).raw hlt
      have hsucc := stoS_succ xs k hlt
      have hok := stoS_ok (xs.take k)
      obtain ⟨y, hy⟩ : ∃ y, xs[k] = y := ⟨_, rfl⟩
      obtain ⟨s, hss⟩ : ∃ s, stoS (xs.take k) = s := ⟨_, rfl⟩
      rw [hy] at f1 f2 f3 f4 n1 n2 n3 n4 hsucc
      rw [hss] at hok hsucc hs
      have HSUC := Go.Lib.hid hsucc
      have HOK := Go.Lib.hid hok
      have HS2 := Go.Lib.hid hs
      have HEN := Go.Lib.hid (entryE_any y wr n1 n2 n3 n4)
      have r0 : (0 : Int) ≤ (k : Int) := Int.natCast_nonneg _
      have r1 : (k : Int) < (xs.length : Int) := by omega
      have r2 : (k : Int) < (most : Int) := by omega
      have hez := hB.size
      clear hs hB hy hss hsucc hok HS n1 n2 n3 n4
      go_wp2_with fail
      refine HEN.out.mono ?_
      rintro e w1 ⟨rfl, hb1⟩
      have hx := rawE_wf y
      have hmo := merge_one HOK.out y
      have hB1 := HB.out.trans (hb1.mono hez)
      have hS1 := HS2.out.below hb1
      obtain ⟨x, hxe⟩ : ∃ x, rawE y = x := ⟨_, rfl⟩
      rw [hxe] at hx hmo ⊢
      unfold Entry.val
      have hal : Below w1.heap.size w1 (w1.alloc (.cells #[.string x.key, .int .i64 x.version, .int .i64 x.origin, .string x.value] 50)) := (Below.refl _ _).alloc (Nat.le_refl _) _
      have HM := Go.Lib.hid (merge_any _ _ s [x] _ (hS1.below hal) (sl_ent (ins_val (w := w1) (x := x)) hx) (by intro e he; simp at he; subst he; exact hx) hS1.wfs)
      have HB1 := Go.Lib.hid (hB1.trans (hal.mono hB1.size))
      have HMO := Go.Lib.hid hmo
      clear hb1 hx hmo hB1 hS1 hxe hal f1 f2 f3 f4
      go_wp2_with fail
      refine HM.out.mono ?_
      rintro e w2 ⟨v2, u2, rfl, ht2, hb2⟩
      rw [HMO.out] at ht2 ⊢
      have HT2 := Go.Lib.hid (ht2.out.sl (by decide))
      have HB2 := Go.Lib.hid (HB1.out.trans (hb2.mono HB1.out.size))
      clear ht2 hb2
      go_wp2_with fail
      go_roundw
      case rel => exact ⟨k + 1, by omega, by omega, by go_num, by rw [HSUC.out]; exact HT2.out, HB2.out⟩
      case measure => simp [intOf]; omega
    · have hfin : xs.take k = xs.take most := by
        by_cases h1 : k = most
        · rw [h1]
        · rw [List.take_of_length_le (by omega), List.take_of_length_le (by omega)]
      rw [hfin] at hs
      have HS3 := Go.Lib.hid hs
      clear hs hB hfin HS
      by_cases hlt : k < xs.length
      · have r1 : (k : Int) < (xs.length : Int) := by omega
        have r2 : ¬ (k : Int) < (most : Int) := by omega
        clear hgo
        go_wp2_with fail
        go_ret
        exact ⟨_, rfl, HS3.out, HB.out⟩
      · have r1 : ¬ (k : Int) < (xs.length : Int) := by omega
        clear hgo
        go_wp2_with fail
        go_ret
        exact ⟨_, rfl, HS3.out, HB.out⟩

def tells : List Entry := stoS ([⟨1, 1, 1, 1⟩, ⟨2, 2, 2, 2⟩] : List Raw)
theorem tells_len : 0 < tells.length ∧ (mergeS aboveE [] tells).2.2 = 0 ∧ (mergeS aboveE [] tells).1.length = tells.length := by decide +kernel

set_option maxRecDepth 100000 in
set_option maxHeartbeats 1000000 in
theorem tells_any (w : World) : Calls Tryz.prog 16 #[] w fun e w' => e = .returned (.bool true) ∧ Below w.heap.size w w' := by
  have hal : Below w.heap.size w (w.alloc (.cells #[.int .i64 1, .int .i64 1, .int .i64 1, .int .i64 1, .int .i64 2, .int .i64 2, .int .i64 2, .int .i64 2] 86)) := (Below.refl _ _).alloc (Nat.le_refl _) _
  have hsl : Sl rawR (w.alloc (.cells #[.int .i64 1, .int .i64 1, .int .i64 1, .int .i64 1, .int .i64 2, .int .i64 2, .int .i64 2, .int .i64 2] 86)) (.slice (some ⟨w.heap.size, 0, none⟩) 2 2) ([⟨1, 1, 1, 1⟩, ⟨2, 2, 2, 2⟩] : List Raw) := by
    refine ⟨some ⟨w.heap.size, 0, none⟩, 2, rfl, Nat.le_refl _, by decide, fun i x hx => ?_⟩
    match i, hx with
    | 0, hx =>
      simp at hx; subst hx
      refine ⟨w.heap.size, 0, _, rfl, by simp, by simp, ⟨rfl, by refine ⟨?_, ?_, ?_, ?_⟩ <;> (show inR _; unfold inR; simp)⟩, fun j u hu => ?_⟩
      rw [World.cell?_alloc_at _ _ _ _ rfl]
      match j, hu with
      | 0, hu => simpa [rawR, flatR] using hu
      | 1, hu => simpa [rawR, flatR] using hu
      | 2, hu => simpa [rawR, flatR] using hu
      | 3, hu => simpa [rawR, flatR] using hu
      | j + 4, hu => simp at hu
    | 1, hx =>
      simp at hx; subst hx
      refine ⟨w.heap.size, 0, _, rfl, by simp, by simp, ⟨rfl, by refine ⟨?_, ?_, ?_, ?_⟩ <;> (show inR _; unfold inR; simp)⟩, fun j u hu => ?_⟩
      rw [World.cell?_alloc_at _ _ _ _ rfl]
      match j, hu with
      | 0, hu => simpa [rawR, flatR] using hu
      | 1, hu => simpa [rawR, flatR] using hu
      | 2, hu => simpa [rawR, flatR] using hu
      | 3, hu => simpa [rawR, flatR] using hu
      | j + 4, hu => simp at hu
    | i + 2, hx => simp at hx
  have HST := Go.Lib.hid (store_any _ _ 20 _ hsl (by omega))
  have HAL := Go.Lib.hid hal
  clear hsl hal
  go_enter Tryz.func16, Tryz.ntmps16
  go_wp2_with fail
  refine HST.out.mono ?_
  rintro e w1 ⟨v1, rfl, hs1, hb1⟩
  have hs1' : Sl entR w1 v1 tells := hs1
  have HS1 := Go.Lib.hid hs1'
  have HB1 := Go.Lib.hid (HAL.out.trans (hb1.mono HAL.out.size))
  have HM := Go.Lib.hid (merge_any (.slice none 0 0) v1 [] tells w1 (Sl.nil _ _) hs1' hs1'.wfs (by intro e he; simp at he))
  obtain ⟨A1, c1, rfl⟩ := hs1'.form
  clear hs1 hs1' hb1
  go_wp2_with fail
  refine HM.out.mono ?_
  rintro e w2 ⟨v2, u2, rfl, ht2, hb2⟩
  obtain ⟨l1, l2, l3⟩ := tells_len
  rw [l2]
  have hsm := ht2.out.sl (by decide)
  have hok : OkS (mergeS aboveE [] tells).1 := by
    have htk : OkS tells := stoS_ok _
    have h1 := merge_ok OkS.nil.check htk.check
    rw [h1]
    exact mTo_ok OkS.nil htk.ok _
  have HB2 := Go.Lib.hid (HB1.out.trans (hb2.mono HB1.out.size))
  have HEN := Go.Lib.hid (encode_any _ _ w2 hsm)
  obtain ⟨m, hmm⟩ : ∃ m, (mergeS aboveE [] tells).1 = m := ⟨_, rfl⟩
  rw [hmm] at hsm hok HEN l3
  obtain ⟨A2, c2, rfl⟩ := hsm.form
  have hck := hok.check
  have hel := (encS_len m hok).1
  have her : encR m = encS m := by unfold encR; rw [if_pos hck]
  unfold EncPost at HEN
  rw [hck, her] at HEN
  obtain ⟨nt, hnt⟩ : ∃ n, tells.length = n := ⟨_, rfl⟩
  obtain ⟨nm, hnm⟩ : ∃ n, m.length = n := ⟨_, rfl⟩
  obtain ⟨ne, hne⟩ : ∃ n, (encS m).length = n := ⟨_, rfl⟩
  rw [hnt] at l1 l3 ⊢
  rw [hnm] at l3 HEN ⊢
  rw [hne] at hel
  have HNE := Go.Lib.hid hne
  have e1 : ((nm : Int) == (nt : Int)) = true := by simp; omega
  have e2 : (0 : Int) < (nm : Int) := by omega
  have e3 : (0 : Int) < (ne : Int) := by omega
  clear ht2 hb2 hsm hok hmm hck her hnt hnm hne l2 l3 l1 hel
  go_wp2_with fail
  refine HEN.out.mono ?_
  rintro e w3 ⟨v3, rfl, ho3, hb3⟩
  obtain ⟨A3, c3, hv3⟩ := (ho3.sl (by decide)).form
  subst hv3
  have HB3 := Go.Lib.hid (HB2.out.trans (hb3.mono HB2.out.size))
  rw [HNE.out]
  clear ho3 hb3
  go_wp2_with fail
  go_ret
  exact ⟨eb (by simp <;> omega), HB3.out⟩
end Go.Proofs.YtcbkimbeljhbhaaGreatDoor
