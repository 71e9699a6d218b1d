/-
  What a store tells of all nodes: graph.Read, walked.
-/
import Derived.Test.YtcbkimbeljhbhaaGreatDoorGDoM
import Derived.Test.YtcbkimbeljhbhaaGreatDoorGWaD
import Derived.Deep.MidRow
set_option linter.unusedVariables false
set_option linter.unusedSimpArgs false
namespace Go.Proofs.YtcbkimbeljhbhaaGreatDoor
open Go Go.RowKit Go.Deep

/-- a graph in memory -/
structure Gr (w : World) (G : Nat) (g : Gph) : Prop where
  cost : ∀ i j, i < 12 → j < 12 → w.cell? ⟨G, i * 12 + j, none⟩ = some (.int .i64 (g.C i j))
  drn : ∀ i, i < 12 → w.cell? ⟨G, 144 + i, none⟩ = some (.bool (g.D i))
  prf : ∀ i, i < 12 → ∃ v, w.cell? ⟨G, 156 + i, none⟩ = some v ∧ SlF prefR (G + 1) w v (g.P i)
  fz : ∀ o, w.frozen? ⟨G, o, none⟩ = false
  lt : G < w.heap.size
theorem Gr.keep {w w' : World} {G : Nat} {g : Gph} (h : Gr w G g) (hk : ∀ k, G ≤ k → k < w.heap.size → w'.heap[k]? = w.heap[k]?) (hs : w.heap.size ≤ w'.heap.size) : Gr w' G g := by
  have hG := hk G (Nat.le_refl _) h.lt
  refine ⟨fun i j hi hj => (World.cell?_of_block (w := w) hG).trans (h.cost i j hi hj), fun i hi => (World.cell?_of_block (w := w) hG).trans (h.drn i hi), fun i hi => ?_, fun o => (World.frozen?_of_block (w := w) hG).trans (h.fz o), Nat.lt_of_lt_of_le h.lt hs⟩
  obtain ⟨v, h1, h2⟩ := h.prf i hi
  exact ⟨v, (World.cell?_of_block (w := w) hG).trans h1, SlR.keep h2 (fun k hq => hk k (by omega) hq.1) (fun k hq => ⟨by omega, hq.2⟩)⟩
theorem Gr.below {w w' : World} {G : Nat} {g : Gph} (h : Gr w G g) (hb : Below w.heap.size w w') : Gr w' G g := h.keep (fun k _ hk => hb.block k hk) hb.size
theorem Gr.eq {w : World} {G : Nat} {g g' : Gph} (h : Gr w G g) (hc : ∀ a b, a < 12 → b < 12 → g'.C a b = g.C a b) (hd : ∀ a, a < 12 → g'.D a = g.D a) (hp : ∀ a, a < 12 → g'.P a = g.P a) : Gr w G g' :=
  ⟨fun i j hi hj => by rw [hc i j hi hj]; exact h.cost i j hi hj, fun i hi => by rw [hd i hi]; exact h.drn i hi, fun i hi => by rw [hp i hi]; exact h.prf i hi, h.fz, h.lt⟩
theorem pref_far {w : World} {G o : Nat} {v u : Value} {l : List Prefix} (h : SlF prefR (G + 1) w v l) : SlF prefR (G + 1) (w.setCell ⟨G, o, none⟩ u) v l :=
  SlR.keep h (fun k hk => Below.heap_setCell _ _ _ _ (by show k ≠ G; omega)) (fun k hk => ⟨by simp [World.setCell]; exact hk.1, hk.2⟩)
theorem Gr.setC {w : World} {G : Nat} {g : Gph} (h : Gr w G g) {n m : Nat} (hn : n < 12) (hm : m < 12) (x : Int) : Gr (w.setCell ⟨G, n * 12 + m, none⟩ (.int .i64 x)) G { g with C := updC g.C n m x } := by
  refine ⟨fun a b ha hb => ?_, fun a ha => ?_, fun a ha => ?_, fun o => by rw [World.frozen?_setCell]; exact h.fz o, by simp [World.setCell]; exact h.lt⟩
  · show _ = some (Value.int .i64 (updC g.C n m x a b))
    unfold updC
    by_cases e : a = n ∧ b = m
    · obtain ⟨rfl, rfl⟩ := e
      rw [if_pos ⟨rfl, rfl⟩]
      exact World.cell?_setCell_same' w _ _ (by rw [h.cost a b ha hb]; rfl)
    · rw [if_neg e, World.cell?_setCell_other w _ _ _ (by intro e2; injection e2 with _ e3 _; exact e (by omega))]
      exact h.cost a b ha hb
  · rw [World.cell?_setCell_other w _ _ _ (by intro e2; injection e2 with _ e3 _; omega)]; exact h.drn a ha
  · obtain ⟨v, h1, h2⟩ := h.prf a ha
    exact ⟨v, by rw [World.cell?_setCell_other w _ _ _ (by intro e2; injection e2 with _ e3 _; omega)]; exact h1, pref_far h2⟩
theorem Gr.setD {w : World} {G : Nat} {g : Gph} (h : Gr w G g) {n : Nat} (hn : n < 12) (x : Bool) : Gr (w.setCell ⟨G, 144 + n, none⟩ (.bool x)) G { g with D := fun a => if a = n then x else g.D a } := by
  refine ⟨fun a b ha hb => ?_, fun a ha => ?_, fun a ha => ?_, fun o => by rw [World.frozen?_setCell]; exact h.fz o, by simp [World.setCell]; exact h.lt⟩
  · rw [World.cell?_setCell_other w _ _ _ (by intro e2; injection e2 with _ e3 _; omega)]; exact h.cost a b ha hb
  · show _ = some (Value.bool (if a = n then x else g.D a))
    by_cases e : a = n
    · subst e
      rw [if_pos rfl]
      exact World.cell?_setCell_same' w _ _ (by rw [h.drn a ha]; rfl)
    · rw [if_neg e, World.cell?_setCell_other w _ _ _ (by intro e2; injection e2 with _ e3 _; omega)]
      exact h.drn a ha
  · obtain ⟨v, h1, h2⟩ := h.prf a ha
    exact ⟨v, by rw [World.cell?_setCell_other w _ _ _ (by intro e2; injection e2 with _ e3 _; omega)]; exact h1, pref_far h2⟩
theorem Gr.setP {w : World} {G : Nat} {g : Gph} (h : Gr w G g) {n : Nat} (hn : n < 12) {v : Value} {l : List Prefix} (hv : SlF prefR (G + 1) w v l) : Gr (w.setCell ⟨G, 156 + n, none⟩ v) G { g with P := fun a => if a = n then l else g.P a } := by
  refine ⟨fun a b ha hb => ?_, fun a ha => ?_, fun a ha => ?_, fun o => by rw [World.frozen?_setCell]; exact h.fz o, by simp [World.setCell]; exact h.lt⟩
  · rw [World.cell?_setCell_other w _ _ _ (by intro e2; injection e2 with _ e3 _; omega)]; exact h.cost a b ha hb
  · rw [World.cell?_setCell_other w _ _ _ (by intro e2; injection e2 with _ e3 _; omega)]; exact h.drn a ha
  · show ∃ u, _ ∧ SlF prefR (G + 1) _ u (if a = n then l else g.P a)
    by_cases e : a = n
    · subst e
      rw [if_pos rfl]
      obtain ⟨v0, h1, _⟩ := h.prf a ha
      exact ⟨v, World.cell?_setCell_same' w _ _ (by rw [h1]; rfl), pref_far hv⟩
    · rw [if_neg e]
      obtain ⟨v0, h1, h2⟩ := h.prf a ha
      exact ⟨v0, by rw [World.cell?_setCell_other w _ _ _ (by intro e2; injection e2 with _ e3 _; omega)]; exact h1, pref_far h2⟩
theorem zero_gph : Tryz.zeroCells74.toList = List.replicate 144 (.int .i64 0) ++ (List.replicate 12 (.bool false) ++ List.replicate 12 (.slice none 0 0)) := by kernel_rfl
theorem zlen : (List.replicate 144 (Value.int .i64 0) ++ (List.replicate 12 (Value.bool false) ++ List.replicate 12 (Value.slice none 0 0))).length = 168 := by
  rw [List.length_append, List.length_append, List.length_replicate, List.length_replicate, List.length_replicate]
theorem zero_run (w : World) (G : Nat) (ht : w.there G 0 168) : (storeCells ⟨G, 0, none⟩ Tryz.zeroCells74.toList).run Tryz.prog w = .ok () (w.setCells G 0 Tryz.zeroCells74.toList) := by
  have hl : Tryz.zeroCells74.toList.length = 168 := by rw [zero_gph]; exact zlen
  refine run_storeCells_cells (P := Tryz.prog) G 0 _ 0 w (fun j hj => ?_) (fun j hj => ?_) (fun v hv => ?_)
  · have := (ht j (by omega)).1; simpa using this
  · have := (ht j (by omega)).2; simpa using this
  · rw [zero_gph] at hv
    rcases List.mem_append.1 hv with h | h
    · rw [(List.mem_replicate.1 h).2]; rfl
    · rcases List.mem_append.1 h with h | h
      · rw [(List.mem_replicate.1 h).2]; rfl
      · rw [(List.mem_replicate.1 h).2]; rfl
theorem zero_gr {w : World} {G : Nat} (ht : w.there G 0 168) (hl : G < w.heap.size) (hf : ∀ o, w.frozen? ⟨G, o, none⟩ = false) : Gr (w.setCells G 0 Tryz.zeroCells74.toList) G gph0 := by
  have hz : ∀ j, (hj : j < 168) → (w.setCells G 0 Tryz.zeroCells74.toList).cell? ⟨G, j, none⟩ = (List.replicate 144 (Value.int .i64 0) ++ (List.replicate 12 (.bool false) ++ List.replicate 12 (.slice none 0 0)))[j]? := by
    intro j hj
    rw [zero_gph]
    have := World.cell?_setCells_in G (List.replicate 144 (Value.int .i64 0) ++ (List.replicate 12 (.bool false) ++ List.replicate 12 (.slice none 0 0))) 0 w (fun j hj => (ht j (by rw [zlen] at hj; exact hj)).1) j (by rw [zlen]; exact hj)
    rw [Nat.zero_add] at this
    rw [this, List.getElem?_eq_getElem]
  refine ⟨fun i j hi hj => ?_, fun i hi => ?_, fun i hi => ⟨.slice none 0 0, ?_, SlF.nil _ _ _⟩, fun o => by rw [World.frozen?_setCells]; exact hf o, ?_⟩
  · rw [hz _ (by omega), List.getElem?_append_left (by simp; omega), List.getElem?_replicate, if_pos (by omega)]; rfl
  · rw [hz _ (by omega), List.getElem?_append_right (by simp), List.getElem?_append_left (by simp; omega), List.getElem?_replicate, if_pos (by simp; omega)]; rfl
  · rw [hz _ (by omega), List.getElem?_append_right (by simp; omega), List.getElem?_append_right (by simp; omega), List.getElem?_replicate, if_pos (by simp; omega)]
  · have := (World.keptBut_setCells G (may := fun p => p.block = G) Tryz.zeroCells74.toList 0 w (fun _ _ => rfl)).size
    omega
theorem below_setCells {B : Nat} {w w' : World} (h : Below B w w') {G : Nat} (hG : B ≤ G) : ∀ (vs : List Value) (o : Nat), Below B w (w'.setCells G o vs) := by
  intro vs
  induction vs generalizing w' with
  | nil => intro o; exact h
  | cons v r ih => intro o; exact ih (h.setCell (p := ⟨G, o, none⟩) hG v) (o + 1)

theorem upd2 (C : Nat → Nat → Int) {i k a b : Nat} : (if (a = i ∧ b = k) ∨ (a = k ∧ b = i) then 0 else C a b) = updC (updC C i k 0) k i 0 a b := by
  unfold updC
  by_cases h1 : a = k ∧ b = i
  · rw [if_pos (.inr h1), if_pos h1]
  · rw [if_neg h1]
    by_cases h2 : a = i ∧ b = k
    · rw [if_pos (.inl h2), if_pos h2]
    · rw [if_neg (by rintro (e | e) <;> contradiction), if_neg h2]

set_option maxRecDepth 50000 in
set_option maxHeartbeats 4000000 in
theorem gread_any (v : Value) (xs : List Entry) (G : Nat) (w0 w : World) (h : Sl entR w0 v xs) (hv : ∀ e ∈ xs, e.key.size < 4294967281 ∧ e.value.size < 4294967281) (hE : Env w0) (hb : Below w0.heap.size w0 w) (hG : w0.heap.size ≤ G) (ht : w.there G 0 168) (hlt : G < w.heap.size) (hf : ∀ o, w.frozen? ⟨G, o, none⟩ = false) :
    Calls Tryz.prog 24 #[.pointer (some ⟨G, 0, none⟩), v] w fun e w' => e = .returned (.tuple #[]) ∧ Gr w' G (graphS xs) ∧ Below w0.heap.size w0 w' := by
  have hl := h.len_le
  obtain ⟨A, c, rfl⟩ := h.form
  have H := Go.Lib.hid h
  have HG := Go.Lib.hid hG
  have HSZ := Go.Lib.hid hv
  have HE := Go.Lib.hid hE
  have hzr := zero_run w G ht
  have HZ := Go.Lib.hid (zero_gr ht hlt hf)
  have HB0 := Go.Lib.hid (below_setCells hb hG Tryz.zeroCells74.toList 0)
  clear h hE hv ht hlt hf hb hG
  go_enter Tryz.func24, Tryz.ntmps24
  go_wp2_with fail
  clear hzr
  obtain ⟨W, hW⟩ : ∃ x, x = w.setCells G 0 Tryz.zeroCells74.toList := ⟨_, rfl⟩
  rw [← hW] at HZ HB0
  rw [← hW]
  clear hW
  go_loopw [21] (fun i wr => ∃ k : Nat, k ≤ xs.length ∧ i = .int .i64 k ∧ Gr wr G (gphTo xs k) ∧ Below w0.heap.size w0 wr) (fun i _ => xs.length - (intOf i).toNat)
  case atStart => exact ⟨0, Nat.zero_le _, rfl, HZ.out, HB0.out⟩
  case round =>
    obtain ⟨k, hk, rfl, hg, hb⟩ := hrel
    have HGR := Go.Lib.hid hg
    have HB := Go.Lib.hid hb
    clear hg hb HZ HB0
    by_cases hlt : k < xs.length
    · have hki : (k : Int) < (xs.length : Int) := by omega
      obtain ⟨bk, off, rfl, hbk⟩ := H.out.at_ hlt
      obtain ⟨f1, f2, f3, f4, f5⟩ := (H.out.below HB.out).ent hlt
      have HSK := Go.Lib.hid (HSZ.out _ (List.getElem_mem hlt))
      have HGS := Go.Lib.hid (gphTo_succ hlt)
      obtain ⟨m, hml⟩ := (HE.out.below HB.out).maxl
      have HML := Go.Lib.hid hml
      have hcut := fun w hm => Tryz.strings_Cut xs[k].key ⟨#[58]⟩ m w HSK.out.1 hm
      have hce : Lib.cut xs[k].key.data.toList ((⟨#[58]⟩ : ByteArray)).data.toList = cutB 58 xs[k].key.data.toList := cut_eq 58 _
      rw [hce] at hcut
      have hy : (bOf (cutB 58 xs[k].key.data.toList).2.1).size ≤ 281474976710656 := by rw [bOf_size]; have h1 := (cutB_len 58 xs[k].key.data.toList).2; have h2 := HSK.out.1; have h3 := size_toList xs[k].key; omega
      have hnm := fun w hE => gnumber_any (bOf (cutB 58 xs[k].key.data.toList).2.1) 11 w hy ⟨by decide, by decide⟩ hE
      rw [bOf_list] at hnm
      have hal := (Below.refl wr.heap.size wr).alloc (Nat.le_refl _) (.cells #[.string xs[k].key, .int .i64 xs[k].version, .int .i64 xs[k].origin, .string xs[k].value] 50)
      have HAL := Go.Lib.hid hal
      have HBA := Go.Lib.hid (HB.out.trans (hal.mono HB.out.size))
      clear hce hy hml hal
      rcases nodeE_cases xs[k] with hneg | ⟨n, hn, hnl⟩
      · have HSE := Go.Lib.hid (show stepE (gphTo xs k) xs[k] = gphTo xs k by unfold stepE; rw [if_pos hneg])
        have HC := Go.Lib.hid hcut
        have HN := Go.Lib.hid hnm
        unfold nodeE at hneg
        clear hcut hnm
        go_wp2_with (first
          | (go_at_call 60; refine (HC.out _ (cell_keep HAL.out HML.out)).mono ?_; rintro e w1 ⟨rfl, n, rfl⟩)
          | (go_at_call 61; refine (HN.out _ (HE.out.below (bDrewN HBA.out n))).mono ?_; rintro e w2 ⟨rfl, hb2⟩))
        have hb3 := (bDrewN HAL.out n).trans (hb2.mono (bDrewN HAL.out n).size)
        go_roundw
        case rel => exact ⟨k + 1, by omega, by go_num, by rw [HGS.out, HSE.out]; exact HGR.out.below hb3, HB.out.trans (hb3.mono HB.out.size)⟩
        case measure => simp [intOf]; omega
      · have hnn : numD 11 (cutB 58 xs[k].key.data.toList).2.1 = n := hn
        have HSE := Go.Lib.hid (show stepE (gphTo xs k) xs[k] = (if kindE xs[k] = [97] then stepA (gphTo xs k) n xs[k].value.data.toList else if kindE xs[k] = [112] then stepP (gphTo xs k) n xs[k].value.data.toList else gphTo xs k) from by
          unfold stepE
          rw [if_neg (by omega), hn]; rfl)
        have hkd : (cutB 58 xs[k].key.data.toList).1 = kindE xs[k] := rfl
        rw [hkd] at hcut
        rw [hnn] at hnm
        have HC := Go.Lib.hid hcut
        have HN := Go.Lib.hid hnm
        have hni : (n : Int) < 12 := by omega
        have HRA := Go.Lib.hid (fun w hE => readAdj_fr xs[k].value w HSK.out.2 hE)
        have HRP := Go.Lib.hid (fun w hE => readPrefs_fr xs[k].value w HSK.out.2 hE)
        clear hcut hnm hkd hnn hn
        generalize kindE xs[k] = K at *
        by_cases hk1 : K = [97]
        · subst hk1
          rw [if_pos rfl] at HSE
          unfold stepA at HSE
          have HLC := Go.Lib.hid (readAdj_chk xs[k].value.data.toList)
          go_wp2_with (first
            | (go_at_call 60; refine (HC.out _ (cell_keep HAL.out HML.out)).mono ?_; rintro e w1 ⟨rfl, j, rfl⟩)
            | (go_at_call 61; refine (HN.out _ (HE.out.below (bDrewN HBA.out j))).mono ?_; rintro e w2 ⟨rfl, hb2⟩; obtain ⟨hA1, hN1, hF1, hS1⟩ := pastAlloc (Below.trans (bDrewN (Below.refl _ _) j) hb2); have q3 : w2.cell? ⟨wr.heap.size, 3, none⟩ = some (.string xs[k].value) := hN1 3; have HA1 := Go.Lib.hid hA1; have HB2 := Go.Lib.hid (HB.out.trans (hA1.mono HB.out.size)); clear hb2 hN1 hF1 hS1 hA1)
            | (go_at_call 17; refine (HRA.out _ (HE.out.below HB2.out)).mono ?_; rintro e w3 ⟨v3, rfl, hv3, hb3⟩; obtain ⟨A3, c3, rfl⟩ := hv3.sl.form; have HV3 := Go.Lib.hid hv3; have HB3 := Go.Lib.hid hb3; clear hv3 hb3))
          obtain ⟨W3, hW3⟩ : ∃ x, x = w3.alloc (.cells #[.bool (readAdj xs[k].value.data.toList).1, .slice A3 (readAdj xs[k].value.data.toList).2.1.length c3] 53) := ⟨_, rfl⟩
          obtain ⟨B3, hB3⟩ : ∃ x, x = w3.heap.size := ⟨_, rfl⟩
          have hal3 := (Below.refl w3.heap.size w3).alloc (Nat.le_refl _) (.cells #[.bool (readAdj xs[k].value.data.toList).1, .slice A3 (readAdj xs[k].value.data.toList).2.1.length c3] 53)
          have hsz2 := HA1.out.size
          have x0 : W3.cell? ⟨B3, 0, none⟩ = some (.bool (readAdj xs[k].value.data.toList).1) := by rw [hW3, hB3, World.cell?_alloc_at _ _ _ _ rfl]; rfl
          have x1 : W3.cell? ⟨B3, 1, none⟩ = some (.slice A3 (readAdj xs[k].value.data.toList).2.1.length c3) := by rw [hW3, hB3, World.cell?_alloc_at _ _ _ _ rfl]; rfl
          have HX2 := Go.Lib.hid (show w0.heap.size ≤ B3 by rw [hB3]; have := HB2.out.size; have := HB3.out.size; omega)
          have HX3 := Go.Lib.hid (show G ≠ B3 by rw [hB3]; have := HB3.out.size; have := HGR.out.lt; omega)
          rw [← hW3] at hal3
          have HG3 := Go.Lib.hid (((HGR.out.below HA1.out).below HB3.out).below hal3)
          have HV4 := Go.Lib.hid ((hal3 |> HV3.out.below).mono (show G + 1 ≤ w2.heap.size by have := HGR.out.lt; omega))
          have HB4 := Go.Lib.hid ((HB2.out.trans (HB3.out.mono HB2.out.size)).trans (hal3.mono (by have := HB2.out.size; have := HB3.out.size; omega)))
          rw [← hW3, ← hB3]
          clear hW3 hB3 hal3 hsz2 HV3 HB3
          have y0 := HG3.out.drn n hnl
          have y1 := HG3.out.fz (144 + n)
          have hnl0 : (0 : Int) ≤ (n : Int) := Int.natCast_nonneg n
          clear q3 f1 f2 f3 f4 f5
          generalize (readAdj xs[k].value.data.toList).2.1 = L at *
          generalize (readAdj xs[k].value.data.toList).1 = d at *
          generalize (readAdj xs[k].value.data.toList).2.2 = n3 at *
          go_region
          all_goals go_wp2_with fail
          have HD4 := Go.Lib.hid ((HG3.out.setD hnl d).below (Below.refl _ _).drew)
          have HB5 := Go.Lib.hid ((HB4.out.setCell (p := ⟨G, 144 + n, none⟩) HG.out (.bool d)).drew)
          have HV5 := Go.Lib.hid (show SlF sideR (G + 1) (W3.setCell ⟨G, 144 + n, none⟩ (.bool d)).drew (.slice A3 L.length c3) L from SlR.keep HV4.out (fun q hq => Below.heap_setCell _ _ _ _ (by show q ≠ G; omega)) (fun q hq => ⟨by simp [World.setCell, World.drew]; exact hq.1, hq.2⟩))
          clear HG3 HB4 HV4 y0 y1 x0 x1
          go_loopw [55] (fun i wr => ∃ j : Nat, j ≤ L.length ∧ i = .int .i64 j ∧ Gr wr G { C := putSides (gphTo xs k).C n (L.take j), D := fun a => if a = n then d else (gphTo xs k).D a, P := (gphTo xs k).P } ∧ Below w0.heap.size w0 wr ∧ SlF sideR (G + 1) wr (.slice A3 L.length c3) L) (fun i _ => L.length - (intOf i).toNat)
          case atStart => exact ⟨0, Nat.zero_le _, rfl, HD4.out, HB5.out, HV5.out⟩
          case round =>
            clear HD4 HB5 HV5
            obtain ⟨j, hj, rfl, hg, hb, hv⟩ := hrel
            have HGR2 := Go.Lib.hid hg
            have HBB := Go.Lib.hid hb
            have HVV := Go.Lib.hid hv
            clear hg hb
            have hll := hv.sl.len_le
            by_cases hjl : j < L.length
            · have hji : (j : Int) < (L.length : Int) := by omega
              obtain ⟨b3, o3, rfl, hb3⟩ := hv.sl.at_ hjl
              obtain ⟨g1, g2, g3, g4⟩ := hv.sl.side hjl
              obtain ⟨l1, l2, l3, l4⟩ := sides_all HLC.out j hjl
              obtain ⟨m, hm⟩ : ∃ m : Nat, L[j].node = m := ⟨L[j].node.toNat, by omega⟩
              have hml : m < 12 := by omega
              have hmi : (m : Int) < 12 := by omega
              have hm0 : (0 : Int) ≤ (m : Int) := Int.natCast_nonneg m
              have HPS := Go.Lib.hid (putSides_succ (C := (gphTo xs k).C) (n := n) hjl)
              have hs1 : ∀ C, sideC1 n C L[j] = if m = n then C else updC C n m L[j].cost := by
                intro C; unfold sideC1; rw [hm]
                by_cases e : m = n
                · rw [if_pos (by omega), if_pos e]
                · rw [if_neg (by omega), if_neg e]; rfl
              have HS1 := Go.Lib.hid hs1
              rw [hm] at g1
              have hal := (Below.refl wr.heap.size wr).alloc (Nat.le_refl _) (.cells #[.int .i64 m, .int .i64 L[j].cost] 57)
              have HALS := Go.Lib.hid hal
              clear hs1 hv g3 g4 hal
              generalize L[j].cost = cj at *
              clear l1 l2 l3 l4 hm
              by_cases e : m = n
              · have eb : ((m : Int) != (n : Int)) = false := by rw [bne_eq_false_iff_eq]; omega
                have HE1 := Go.Lib.hid e
                clear e
                go_wp2_with fail
                go_roundw
                case rel => exact ⟨j + 1, by omega, by go_num, by rw [HPS.out, HS1.out, if_pos HE1.out]; exact HGR2.out.below HALS.out, HBB.out.trans (HALS.out.mono HBB.out.size), HVV.out.below HALS.out⟩
                case measure => simp [intOf]; omega
              · have eb : ((m : Int) != (n : Int)) = true := by rw [bne_iff_ne]; omega
                have HE1 := Go.Lib.hid e
                clear e
                have HGR3 := Go.Lib.hid (HGR2.out.below HALS.out)
                have HBB3 := Go.Lib.hid (HBB.out.trans (HALS.out.mono HBB.out.size))
                have HVV3 := Go.Lib.hid (HVV.out.below HALS.out)
                go_wp2_with fail
                obtain ⟨W4, hW4⟩ : ∃ x, x = wr.alloc (.cells #[.int .i64 m, .int .i64 cj] 57) := ⟨_, rfl⟩
                obtain ⟨B4, hB4⟩ : ∃ x, x = wr.heap.size := ⟨_, rfl⟩
                have u0 : W4.cell? ⟨B4, 0, none⟩ = some (.int .i64 m) := by rw [hW4, hB4, World.cell?_alloc_at _ _ _ _ rfl]; rfl
                have u1 : W4.cell? ⟨B4, 1, none⟩ = some (.int .i64 cj) := by rw [hW4, hB4, World.cell?_alloc_at _ _ _ _ rfl]; rfl
                rw [← hW4] at HGR3 HBB3 HVV3
                rw [← hW4, ← hB4]
                clear hW4 hB4 g1 g2
                have y0 := HGR3.out.cost n m hnl hml
                have y1 := HGR3.out.fz (n * 12 + m)
                go_region
                all_goals go_wp2_with fail
                go_roundw
                case rel => exact ⟨j + 1, by omega, by go_num, by rw [HPS.out, HS1.out, if_neg HE1.out]; exact (HGR3.out.setC hnl hml cj).below (Below.refl _ _).drew, (HBB3.out.setCell (p := ⟨G, n * 12 + m, none⟩) HG.out _).drew, SlR.keep HVV3.out (fun q hq => Below.heap_setCell _ _ _ _ (by show q ≠ G; omega)) (fun q hq => ⟨by simp [World.setCell, World.drew]; exact hq.1, hq.2⟩)⟩
                case measure => simp [intOf]; omega
            · have hji : ¬ (j : Int) < (L.length : Int) := by omega
              obtain rfl : j = L.length := by omega
              clear hv
              go_wp2_with fail
              go_roundw
              case rel => exact ⟨k + 1, by omega, by go_num, by rw [HGS.out, HSE.out]; rw [List.take_length] at HGR2; exact HGR2.out, HBB.out⟩
              case measure => simp [intOf]; omega
        · have hk1b : (K == [97]) = false := by rw [beq_eq_false_iff_ne]; exact hk1
          rw [if_neg hk1] at HSE
          by_cases hk2 : K = [112]
          · subst hk2
            rw [if_pos rfl] at HSE
            clear hk1
            unfold stepP at HSE
            have HE2 := Go.Lib.hid (fun n hn => HGR.out.prf n hn)
            have HX3 := Go.Lib.hid (show G ≠ wr.heap.size by have := HGR.out.lt; omega)
            go_wp2_with (first
              | (go_at_call 60; refine (HC.out _ (cell_keep HAL.out HML.out)).mono ?_; rintro e w1 ⟨rfl, j, rfl⟩)
              | (go_at_call 61; refine (HN.out _ (HE.out.below (bDrewN HBA.out j))).mono ?_; rintro e w2 ⟨rfl, hb2⟩; obtain ⟨hA1, hN1, hF1, hS1⟩ := pastAlloc (Below.trans (bDrewN (Below.refl _ _) j) hb2); have q3 : w2.cell? ⟨wr.heap.size, 3, none⟩ = some (.string xs[k].value) := hN1 3; have HA1 := Go.Lib.hid hA1; have HB2 := Go.Lib.hid (HB.out.trans (hA1.mono HB.out.size)); clear hb2 hN1 hF1 hS1 hA1)
              | fail)
            have HG2 := Go.Lib.hid (HGR.out.below HA1.out)
            have hsz2 := HG2.out.lt
            clear f1 f2 f3 f4 f5
            go_region_with (go_at_call 40; refine (HRP.out _ (HE.out.below HB2.out.drew)).mono ?_; rintro e w3 ⟨v3, rfl, hv3, hb3⟩; obtain ⟨A3, c3, rfl⟩ := hv3.sl.form; have hb4 := Below.trans ((Below.refl w2.heap.size w2).drew) hb3; have HV3 := Go.Lib.hid (hv3.mono (show G + 1 ≤ w2.drew.heap.size from hsz2)); have HB4 := Go.Lib.hid hb4; have HG4 := Go.Lib.hid (HG2.out.below hb4); obtain ⟨v0, p0, _⟩ := HG4.out.prf n hnl; have p1 := HG4.out.fz (156 + n); have p2 := cell_keep hb4 q3; clear hv3 hb3 hb4)
            all_goals go_wp2_with fail
            all_goals
              go_roundw
              case rel => exact ⟨k + 1, by omega, by go_num, by rw [HGS.out, HSE.out]; exact HG4.out.setP hnl HV3.out, (HB2.out.trans (HB4.out.mono HB2.out.size)).setCell (p := ⟨G, 156 + n, none⟩) HG.out _⟩
              case measure => simp [intOf]; omega
          · have hk2b : (K == [112]) = false := by rw [beq_eq_false_iff_ne]; exact hk2
            rw [if_neg hk2] at HSE
            clear hk1 hk2
            go_wp2_with (first
              | (go_at_call 60; refine (HC.out _ (cell_keep HAL.out HML.out)).mono ?_; rintro e w1 ⟨rfl, j, rfl⟩)
              | (go_at_call 61; refine (HN.out _ (HE.out.below (bDrewN HBA.out j))).mono ?_; rintro e w2 ⟨rfl, hb2⟩; obtain ⟨hA1, hN1, hF1, hS1⟩ := pastAlloc (Below.trans (bDrewN (Below.refl _ _) j) hb2); have q3 : w2.cell? ⟨wr.heap.size, 3, none⟩ = some (.string xs[k].value) := hN1 3; have HA1 := Go.Lib.hid hA1; have HB2 := Go.Lib.hid (HB.out.trans (hA1.mono HB.out.size)); clear hb2 hN1 hF1 hS1 hA1)
              | fail)
            go_roundw
            case rel => exact ⟨k + 1, by omega, by go_num, by rw [HGS.out, HSE.out]; exact HGR.out.below HA1.out, HB2.out⟩
            case measure => simp [intOf]; omega
    · have hki : ¬ (k : Int) < (xs.length : Int) := by omega
      obtain rfl : k = xs.length := by omega
      have HG0 := Go.Lib.hid (HGR.out.eq (g' := { C := symTo (gphTo xs xs.length).C 0 0, D := (gphTo xs xs.length).D, P := (gphTo xs xs.length).P }) (fun a b _ _ => sym_zero) (fun _ _ => rfl) (fun _ _ => rfl))
      have HFIN := Go.Lib.hid (show graphS xs = { C := symAll (gphTo xs xs.length).C, D := (gphTo xs xs.length).D, P := (gphTo xs xs.length).P } from rfl)
      clear HGR
      generalize gphTo xs xs.length = g at *
      obtain ⟨C, D, P⟩ := g
      go_wp2_with fail
      go_loopw [88] (fun u wr => ∃ i : Nat, i ≤ 12 ∧ u = .int .i64 i ∧ Gr wr G { C := symTo C i 0, D := D, P := P } ∧ Below w0.heap.size w0 wr) (fun u _ => 12 - (intOf u).toNat)
      case atStart => exact ⟨0, Nat.zero_le _, rfl, HG0.out, HB.out⟩
      case round =>
        clear HG0 HB
        obtain ⟨i, hi, rfl, hg, hb⟩ := hrel
        have HG1 := Go.Lib.hid hg
        have HB1 := Go.Lib.hid hb
        clear hg hb
        by_cases hil : i < 12
        · have hii : (i : Int) < 12 := by omega
          have hi0 : (0 : Int) ≤ (i : Int) := Int.natCast_nonneg i
          go_wp2_with fail
          go_loopw [92] (fun u wr => ∃ k : Nat, k ≤ i ∧ u = .int .i64 k ∧ Gr wr G { C := symTo C i k, D := D, P := P } ∧ Below w0.heap.size w0 wr) (fun u _ => i - (intOf u).toNat)
          case atStart => exact ⟨0, Nat.zero_le _, rfl, HG1.out, HB1.out⟩
          case round =>
            clear HG1 HB1
            obtain ⟨k, hk, rfl, hg, hb⟩ := hrel
            have HG1 := Go.Lib.hid hg
            have HB1 := Go.Lib.hid hb
            clear hg hb
            by_cases hkl : k < i
            · have hki : (k : Int) < (i : Int) := by omega
              have hk12 : k < 12 := by omega
              have hki2 : (k : Int) < 12 := by omega
              have hk0 : (0 : Int) ≤ (k : Int) := Int.natCast_nonneg k
              have e1 : symTo C i k i k = C i k := by unfold symTo; rw [if_neg (fun h => by omega)]
              have e2 : symTo C i k k i = C k i := by unfold symTo; rw [if_neg (fun h => by omega)]
              have y0 : wr.cell? ⟨G, i * 12 + k, none⟩ = some (.int .i64 (C i k)) := by
                have h := HG1.out.cost i k hil hk12
                rw [show ({ C := symTo C i k, D := D, P := P } : Gph).C i k = C i k from e1] at h; exact h
              have y1 : wr.cell? ⟨G, k * 12 + i, none⟩ = some (.int .i64 (C k i)) := by
                have h := HG1.out.cost k i hk12 hil
                rw [show ({ C := symTo C i k, D := D, P := P } : Gph).C k i = C k i from e2] at h; exact h
              have y2 := HG1.out.fz (i * 12 + k)
              have y3 := HG1.out.fz (k * 12 + i)
              clear e1 e2
              by_cases c1 : C i k = 0
              · have HSC := Go.Lib.hid (fun a b => sym_cut (C := C) (a := a) (b := b) (.inl c1) hkl)
                have d1 : (C i k == 0) = true := by rw [beq_iff_eq]; exact c1
                clear c1
                go_wp2_with fail
                go_region
                all_goals go_wp2_with fail
                go_roundw
                case rel => exact ⟨k + 1, by omega, by go_num, (((HG1.out.setC hil hk12 0).setC hk12 hil 0).eq (g' := { C := symTo C i (k + 1), D := D, P := P }) (fun a b _ _ => by show symTo C i (k + 1) a b = _; rw [HSC.out a b]; exact upd2 (symTo C i k)) (fun _ _ => rfl) (fun _ _ => rfl)).below (Below.refl _ _).drew, ((HB1.out.setCell (p := ⟨G, i * 12 + k, none⟩) HG.out _).setCell (p := ⟨G, k * 12 + i, none⟩) HG.out _).drew⟩
                case measure => simp [intOf]; omega
              · have d1 : (C i k == 0) = false := by rw [beq_eq_false_iff_ne]; exact c1
                by_cases c2 : C k i = 0
                · have HSC := Go.Lib.hid (fun a b => sym_cut (C := C) (a := a) (b := b) (.inr c2) hkl)
                  have d2 : (C k i == 0) = true := by rw [beq_iff_eq]; exact c2
                  clear c1 c2
                  go_wp2_with fail
                  go_region
                  all_goals go_wp2_with fail
                  go_roundw
                  case rel => exact ⟨k + 1, by omega, by go_num, (((HG1.out.setC hil hk12 0).setC hk12 hil 0).eq (g' := { C := symTo C i (k + 1), D := D, P := P }) (fun a b _ _ => by show symTo C i (k + 1) a b = _; rw [HSC.out a b]; exact upd2 (symTo C i k)) (fun _ _ => rfl) (fun _ _ => rfl)).below (Below.refl _ _).drew, ((HB1.out.setCell (p := ⟨G, i * 12 + k, none⟩) HG.out _).setCell (p := ⟨G, k * 12 + i, none⟩) HG.out _).drew⟩
                  case measure => simp [intOf]; omega
                · have HSC := Go.Lib.hid (fun a b => sym_same (C := C) (a := a) (b := b) (show ¬ (C i k = 0 ∨ C k i = 0) by rintro (e | e) <;> contradiction) hkl)
                  have d2 : (C k i == 0) = false := by rw [beq_eq_false_iff_ne]; exact c2
                  clear c1 c2
                  go_wp2_with fail
                  go_roundw
                  case rel => exact ⟨k + 1, by omega, by go_num, HG1.out.eq (fun a b _ _ => HSC.out a b) (fun _ _ => rfl) (fun _ _ => rfl), HB1.out⟩
                  case measure => simp [intOf]; omega
            · have hki : ¬ (k : Int) < (i : Int) := by omega
              obtain rfl : k = i := by omega
              go_wp2_with fail
              go_roundw
              case rel => exact ⟨k + 1, by omega, by go_num, HG1.out.eq (fun a b _ _ => sym_row) (fun _ _ => rfl) (fun _ _ => rfl), HB1.out⟩
              case measure => simp [intOf]; omega
        · have hii : ¬ (i : Int) < 12 := by omega
          obtain rfl : i = 12 := by omega
          have HGF := Go.Lib.hid (HG1.out.eq (g' := graphS xs) (fun a b ha hb => by rw [HFIN.out]; exact (sym_end ha hb).symm) (fun _ _ => by rw [HFIN.out]) (fun _ _ => by rw [HFIN.out]))
          go_wp2_with fail
          refine bodyPost_end (v := .tuple #[]) (by simp [results, Tryz.results24, go_sem]) rfl ?_
          exact ⟨rfl, HGF.out, HB1.out⟩
end Go.Proofs.YtcbkimbeljhbhaaGreatDoor
