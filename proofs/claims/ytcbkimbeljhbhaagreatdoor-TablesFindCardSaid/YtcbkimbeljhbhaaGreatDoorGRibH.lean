/-
  Lookup.
-/
import Derived.Test.YtcbkimbeljhbhaaGreatDoorGSame
set_option linter.unusedVariables false
set_option linter.unusedSimpArgs false
namespace Go.Proofs.YtcbkimbeljhbhaaGreatDoor
open Go.RowKit Go.Sort

def LookPost (xs : List Route) (addr : Int) (w : World) (e : Ending) (w' : World) : Prop :=
  ∃ v', e = .returned (.tuple #[.agg #[.int .i64 (lookS xs addr).1.pre.addr, .int .i64 (lookS xs addr).1.pre.bits, .bool (lookS xs addr).1.here, .int .i64 (lookS xs addr).1.cost, v'], .int .i64 (lookS xs addr).2]) ∧
    Sl intR w' v' (lookS xs addr).1.hops ∧ Below w.heap.size w w'
theorem look_fin {xs : List Route} {addr : Int} {w w' : World} {v' : Value} {r : Route} {n : Int} (h : lookS xs addr = (r, n)) (hs : Sl intR w' v' r.hops) (hb : Below w.heap.size w w') :
    LookPost xs addr w (.returned (.tuple #[.agg #[.int .i64 r.pre.addr, .int .i64 r.pre.bits, .bool r.here, .int .i64 r.cost, v'], .int .i64 n])) w' := by
  refine ⟨v', ?_, ?_, hb⟩
  · rw [h]
  · rw [h]; exact hs
def bestN : Option Nat → Int
  | none => -1
  | some j => (j : Int)
theorem b5 {w w1 : World} (h : Below w.heap.size w w1) (a b c d e : Value) :
    Below w.heap.size w (((((w1.setCell ⟨w.heap.size, 0, none⟩ a).setCell ⟨w.heap.size, 1, none⟩ b).setCell ⟨w.heap.size, 2, none⟩ c).setCell ⟨w.heap.size, 3, none⟩ d).setCell ⟨w.heap.size, 4, none⟩ e) :=
  ((((h.setCell (Nat.le_refl _) _).setCell (Nat.le_refl _) _).setCell (Nat.le_refl _) _).setCell (Nat.le_refl _) _).setCell (Nat.le_refl _) _
theorem Sl.five {w : World} {v : Value} {xs : List Int} {B : Nat} (h : SlR intR w (fun k => k < w.heap.size ∧ k ≠ B) v xs) (a b c d e : Value) :
    Sl intR (((((w.setCell ⟨B, 0, none⟩ a).setCell ⟨B, 1, none⟩ b).setCell ⟨B, 2, none⟩ c).setCell ⟨B, 3, none⟩ d).setCell ⟨B, 4, none⟩ e) v xs := by
  refine SlR.keep h (fun k hk => ?_) (fun k hk => ?_)
  · iterate 5 rw [Below.heap_setCell _ _ _ k hk.2]
  · simpa [World.setCell] using hk.1
theorem SlR.apart {α : Type} {r : Rep α} {w w' : World} {v : Value} {xs : List α} (h : Sl r w v xs) (hb : Below w.heap.size w w') : SlR r w' (fun k => k < w'.heap.size ∧ k ≠ w.heap.size) v xs :=
  SlR.keep h hb.block (fun k hk => ⟨Nat.lt_of_lt_of_le hk hb.size, by omega⟩)

theorem OwR.slB {E base : Nat} {w : World} {v : Value} {xs : List Int} (h : OwR intR E base w v xs) : SlR intR w (fun k => k < w.heap.size ∧ base ≤ k) v xs := by
  obtain ⟨A, c, rfl, h1, h2, h3⟩ := h.sl (by decide)
  refine ⟨A, c, rfl, h1, h2, fun i x hx => ?_⟩
  obtain ⟨b, off, cs, rfl, hS, hb, hh, hc⟩ := h3 i x hx
  exact ⟨b, off, cs, rfl, ⟨hb, (h.base_le b rfl).1⟩, hb, hh, hc⟩

set_option maxRecDepth 100000 in
set_option maxHeartbeats 2000000 in
theorem lookup_any (v : Value) (xs : List Route) (addr : Int) (w : World) (h : Sl routeR w v xs) : Calls Tryz.prog 19 #[v, .int .i64 addr] w (LookPost xs addr w) := by
  have hB0 : Below w.heap.size w (w.alloc (.cells #[.int .i64 0, .int .i64 0, .bool false, .int .i64 0, .slice none 0 0] 64)) := (Below.refl _ _).alloc (Nat.le_refl _) _
  have H0 := Go.Lib.hid (h.below hB0)
  have hlen := h.len_le
  obtain ⟨A, c, rfl⟩ := h.form
  have H := Go.Lib.hid h
  clear h hB0
  go_enter Tryz.func19, Tryz.ntmps19
  go_wp2_with fail
  refine (ribCheck_any _ xs _ H0.out).mono ?_
  rintro r w1 ⟨rfl, hb1⟩
  obtain ⟨hA, hN, hM, hS⟩ := pastAlloc hb1
  have HA := Go.Lib.hid hA
  clear hA hb1 H0
  by_cases hc : chkRoutes xs = 0
  · have t1 : (chkRoutes xs != 0) = false := by simp [hc]
    have hok := routes_ok hc
    have hl2 := hok.1
    have HOK := Go.Lib.hid hok.2
    have HC := Go.Lib.hid hc
    clear hok hc
    by_cases ha : addr < 0 ∨ 255 < addr
    · have HL := Go.Lib.hid (look_range HC.out ha)
      have hfin : ∀ {w'}, Below w.heap.size w w' → LookPost xs addr w (.returned (.tuple #[.agg #[.int .i64 0, .int .i64 0, .bool false, .int .i64 0, .slice none 0 0], .int .i64 2])) w' := fun hb => look_fin HL.out (Sl.nil _ _) hb
      have HF := Go.Lib.hid (hfin (b5 HA.out (.int .i64 0) (.int .i64 0) (.bool false) (.int .i64 0) (.slice none 0 0)))
      clear hfin
      rcases ha with ha | ha
      · go_wp2_with fail
        exact bodyPost_ret (v := .tuple #[.agg #[.int .i64 0, .int .i64 0, .bool false, .int .i64 0, .slice none 0 0], .int .i64 2]) (by simp [results, Tryz.results19, go_sem, hN, hS]) rfl HF.out
      · go_wp2_with fail
        exact bodyPost_ret (v := .tuple #[.agg #[.int .i64 0, .int .i64 0, .bool false, .int .i64 0, .slice none 0 0], .int .i64 2]) (by simp [results, Tryz.results19, go_sem, hN, hS]) rfl HF.out
    · have a1 : 0 ≤ addr := by omega
      have a2 : addr ≤ 255 := by omega
      have a3 : ¬ addr < 0 := by omega
      have a4 : ¬ 255 < addr := by omega
      clear ha
      go_wp2_with fail
      go_loopw [7, 8, 9, 25] (fun s7 _ _ s25 wr => ∃ k : Nat, k ≤ xs.length ∧ s25 = .int .i64 k ∧ s7 = .int .i64 (bestN (bestTo xs addr k)) ∧ Below w1.heap.size w1 wr) (fun _ _ _ s25 _ => xs.length - (intOf s25).toNat)
      case atStart => exact ⟨0, Nat.zero_le _, rfl, rfl, Below.refl _ _⟩
      case round =>
        obtain ⟨k, hk, rfl, rfl, hB⟩ := hrel
        have hez := hB.size
        have HB := Go.Lib.hid hB
        have HBW := Go.Lib.hid (HA.out.trans (hB.mono HA.out.size))
        have hNr : ∀ i, wr.cell? ⟨w.heap.size, i, none⟩ = #[Value.int .i64 0, .int .i64 0, .bool false, .int .i64 0, .slice none 0 0][i]? := fun i => (bAt hB hS i).trans (hN i)
        have hMr : ∀ i, wr.frozen? ⟨w.heap.size, i, none⟩ = false := fun i => (bFz hB hS i).trans (hM i)
        have hSr : w.heap.size < wr.heap.size := Nat.lt_of_lt_of_le hS hez
        clear hB hN hM
        obtain ⟨bt, hbt⟩ : ∃ bt, bestTo xs addr k = bt := ⟨_, rfl⟩
        have HBT := Go.Lib.hid hbt
        rw [hbt]
        clear hbt
        by_cases hlt : k < xs.length
        · obtain ⟨b, off, rfl, hb⟩ := H.out.at_ hlt
          obtain ⟨hv, f1, f2, f3, f4, f5, hsl, hwf⟩ := (H.out.below HBW.out).route hlt
          obtain ⟨A2, c2, rfl⟩ := hsl.form
          obtain ⟨o1, o2, o3, o4⟩ := prefBad_ok (routeBad_iff (HOK.out k hlt)).1
          have hand := andNot_span addr xs[k].pre.bits o1 o2 a1 a2
          have hgk : xs.getD k zeroR = xs[k] := by simp [List.getD, hlt]
          have hstep : bestTo xs addr (k + 1) = if matchR addr xs[k] && betterR xs k bt then some k else bt := by
            show (if matchR addr (xs.getD k zeroR) && betterR xs k (bestTo xs addr k) then some k else bestTo xs addr k) = _
            rw [hgk, HBT.out]
          have HST := Go.Lib.hid hstep
          have o1' : ¬ xs[k].pre.bits < 0 := by omega
          clear hsl hwf hstep
          have hbr : Below w1.heap.size w1 (wr.alloc (.cells #[.int .i64 xs[k].pre.addr, .int .i64 xs[k].pre.bits, .bool xs[k].here, .int .i64 xs[k].cost, .slice A2 xs[k].hops.length c2] 64)) := HB.out.alloc hez _
          have HBR := Go.Lib.hid hbr
          have q2 : 0 ≤ xs[k].pre.bits := o1
          clear hbr
          rcases hmm : matchR addr xs[k] with _ | _
          · have hm : (addr - addr % spanN xs[k].pre.bits == xs[k].pre.addr) = false := hmm
            have HMM := Go.Lib.hid hmm
            clear hmm
            go_wp2_with fail
            go_quiet (fail)
            go_wp2_with fail
            go_roundw
            case rel => exact ⟨k + 1, by omega, by go_num, by rw [HST.out, HMM.out]; rfl, bDrewN HBR.out _⟩
            case measure => simp [intOf]; omega
          · have hm : (addr - addr % spanN xs[k].pre.bits == xs[k].pre.addr) = true := hmm
            have HMM := Go.Lib.hid hmm
            clear hmm
            rcases bt with _ | j
            · have hbn : bestN none = -1 := rfl
              go_wp2_with fail
              go_quiet (fail)
              go_wp2_with fail
              go_roundw
              case rel => exact ⟨k + 1, by omega, by go_num, by rw [HST.out, HMM.out]; rfl, bDrewN HBR.out _⟩
              case measure => simp [intOf]; omega
            · have hbn : bestN (some j) = (j : Int) := rfl
              obtain ⟨hjk, _, _⟩ := best_some xs addr k j HBT.out
              have hjl : j < xs.length := by omega
              have hgj : xs.getD j zeroR = xs[j] := by simp [List.getD, hjl]
              have HGJ := Go.Lib.hid hgj
              have HGK := Go.Lib.hid hgk
              obtain ⟨_, g1, g2, z3, z4, z5, z6, z7⟩ := (H.out.below HBW.out).route hjl
              have r0 : (0 : Int) ≤ (j : Int) := Int.natCast_nonneg _
              have r1 : (j : Int) < (xs.length : Int) := by omega
              have r2 : decide ((j : Int) < 0) = false := by rw [decide_eq_false_iff_not]; omega
              have hbwj : b < wr.heap.size := by have := HBW.out.size; omega
              clear z3 z4 z5 z6 z7 hgj hgk
              by_cases hlb : xs[j].pre.bits < xs[k].pre.bits
              · have r3 : decide (xs[j].pre.bits < xs[k].pre.bits) = true := by rw [decide_eq_true_iff]; exact hlb
                have hbb : betterR xs k (some j) = decide (xs[j].pre.bits < xs[k].pre.bits) := by
                  show decide ((xs.getD j zeroR).pre.bits < (xs.getD k zeroR).pre.bits) = _
                  rw [HGJ.out, HGK.out]
                rw [r3] at hbb
                have HBB := Go.Lib.hid hbb
                clear hbb
                go_wp2_with fail
                go_quiet (fail)
                go_wp2_with fail
                go_roundw
                case rel => exact ⟨k + 1, by omega, by go_num, by rw [HST.out, HMM.out, HBB.out]; rfl, bDrewN HBR.out _⟩
                case measure => simp [intOf]; omega
              · have r3 : decide (xs[j].pre.bits < xs[k].pre.bits) = false := by rw [decide_eq_false_iff_not]; exact hlb
                have hbb : betterR xs k (some j) = decide (xs[j].pre.bits < xs[k].pre.bits) := by
                  show decide ((xs.getD j zeroR).pre.bits < (xs.getD k zeroR).pre.bits) = _
                  rw [HGJ.out, HGK.out]
                rw [r3] at hbb
                have HBB := Go.Lib.hid hbb
                clear hbb
                go_wp2_with fail
                go_quiet (fail)
                go_wp2_with fail
                go_roundw
                case rel => exact ⟨k + 1, by omega, by go_num, by rw [HST.out, HMM.out, HBB.out]; rfl, bDrewN HBR.out _⟩
                case measure => simp [intOf]; omega
        · have hkk : k = xs.length := by omega
          rcases bt with _ | j
          · have hbn : bestN none < 0 := by decide
            have HL := Go.Lib.hid (look_none HC.out ⟨a1, a2⟩ (by rw [← hkk]; exact HBT.out))
            have hfin : ∀ {w'}, Below w.heap.size w w' → LookPost xs addr w (.returned (.tuple #[.agg #[.int .i64 0, .int .i64 0, .bool false, .int .i64 0, .slice none 0 0], .int .i64 6])) w' := fun hb => look_fin HL.out (Sl.nil _ _) hb
            have HF := Go.Lib.hid (hfin (b5 HBW.out (.int .i64 0) (.int .i64 0) (.bool false) (.int .i64 0) (.slice none 0 0)))
            clear hfin hkk
            go_wp2_with fail
            exact bodyPost_ret (v := .tuple #[.agg #[.int .i64 0, .int .i64 0, .bool false, .int .i64 0, .slice none 0 0], .int .i64 6]) (by simp [results, Tryz.results19, go_sem, hNr, hSr]) rfl HF.out
          · have hbn : bestN (some j) = (j : Int) := rfl
            obtain ⟨hjk, _, _⟩ := best_some xs addr k j HBT.out
            have hjl : j < xs.length := by omega
            have HL := Go.Lib.hid (look_some HC.out ⟨a1, a2⟩ (by rw [← hkk]; exact HBT.out) hjl)
            obtain ⟨b, off, rfl, hb⟩ := H.out.at_ hjl
            obtain ⟨hv, f1, f2, f3, f4, f5, hsl, hwf⟩ := (H.out.below HBW.out).route hjl
            have hcop := copied_any xs[j] hv wr hsl (by have := (routeBad_iff (HOK.out j hjl)).2; omega)
            obtain ⟨A2, c2, rfl⟩ := hsl.form
            have HCOP := Go.Lib.hid hcop
            have r0 : (0 : Int) ≤ (j : Int) := Int.natCast_nonneg _
            have r1 : (j : Int) < (xs.length : Int) := by omega
            have r2 : ¬ ((j : Int) < 0) := by omega
            clear hkk hsl hwf hcop
            go_wp2_with fail
            refine HCOP.out.mono ?_
            rintro e w2 ⟨v1, rfl, ho1, hb2⟩
            obtain ⟨A3, c3, rfl⟩ := ho1.form
            have hN2 : ∀ i, w2.cell? ⟨w.heap.size, i, none⟩ = #[Value.int .i64 0, .int .i64 0, .bool false, .int .i64 0, .slice none 0 0][i]? := fun i => (bAt hb2 hSr i).trans (hNr i)
            have hM2 : ∀ i, w2.frozen? ⟨w.heap.size, i, none⟩ = false := fun i => (bFz hb2 hSr i).trans (hMr i)
            have hS2 : w.heap.size < w2.heap.size := Nat.lt_of_lt_of_le hSr hb2.size
            have hfin := look_fin HL.out (Sl.five (B := w.heap.size) (SlR.keep ho1.slB (fun _ _ => rfl) (fun k hk => ⟨hk.1, by have := hk.2; omega⟩)) (.int .i64 xs[j].pre.addr) (.int .i64 xs[j].pre.bits) (.bool xs[j].here) (.int .i64 xs[j].cost) (.slice A3 xs[j].hops.length c3)) (b5 (HBW.out.trans (hb2.mono HBW.out.size)) _ _ _ _ _)
            have HF := Go.Lib.hid hfin
            clear hb2 ho1 hNr hMr hfin
            go_wp2_with fail
            exact bodyPost_ret (v := .tuple #[.agg #[.int .i64 xs[j].pre.addr, .int .i64 xs[j].pre.bits, .bool xs[j].here, .int .i64 xs[j].cost, .slice A3 xs[j].hops.length c3], .int .i64 0]) (by simp [results, Tryz.results19, go_sem, hN2, hS2]) rfl HF.out
  · have t1 : (chkRoutes xs != 0) = true := by simp [hc]
    have HL := Go.Lib.hid (look_bad (addr := addr) hc)
    have hfin : ∀ {w'}, Below w.heap.size w w' → LookPost xs addr w (.returned (.tuple #[.agg #[.int .i64 0, .int .i64 0, .bool false, .int .i64 0, .slice none 0 0], .int .i64 (chkRoutes xs)])) w' := fun hb => look_fin HL.out (Sl.nil _ _) hb
    have HF := Go.Lib.hid (hfin (b5 HA.out (.int .i64 0) (.int .i64 0) (.bool false) (.int .i64 0) (.slice none 0 0)))
    clear hc hfin
    go_wp2_with fail
    exact bodyPost_ret (v := .tuple #[.agg #[.int .i64 0, .int .i64 0, .bool false, .int .i64 0, .slice none 0 0], .int .i64 (chkRoutes xs)]) (by simp [results, Tryz.results19, go_sem, hN, hS]) rfl HF.out

theorem SlR.route {w : World} {S : Nat → Prop} {b off c n : Nat} {xs : List Route} (h : SlR routeR w S (.slice (some ⟨b, off, none⟩) n c) xs) {k : Nat} (hk : k < xs.length) :
    ∃ v, w.cell? ⟨b, off + k * 5, none⟩ = some (.int .i64 xs[k].pre.addr) ∧ w.cell? ⟨b, off + k * 5 + 1, none⟩ = some (.int .i64 xs[k].pre.bits) ∧ w.cell? ⟨b, off + k * 5 + 2, none⟩ = some (.bool xs[k].here) ∧
      w.cell? ⟨b, off + k * 5 + 3, none⟩ = some (.int .i64 xs[k].cost) ∧ w.cell? ⟨b, off + k * 5 + 4, none⟩ = some v ∧ SlR intR w S v xs[k].hops ∧ xs[k].wf := by
  obtain ⟨A', c', hv, _, _, h3⟩ := h
  injection hv with e1 e2 e3
  subst e1
  obtain ⟨b', off', cs, hA, _, hb, ⟨v, rfl, hs, hw⟩, hc⟩ := h3 k xs[k] (List.getElem?_eq_getElem hk)
  injection hA with hA
  injection hA with g1 g2
  subst g1 g2
  exact ⟨v, hc 0 _ rfl, hc 1 _ rfl, hc 2 _ rfl, hc 3 _ rfl, hc 4 _ rfl, hs, hw⟩
theorem SlR.form {α : Type} {r : Rep α} {w : World} {S : Nat → Prop} {v : Value} {xs : List α} (h : SlR r w S v xs) : ∃ A c, v = .slice A xs.length c := by
  obtain ⟨A, c, hv, _⟩ := h; exact ⟨A, c, hv⟩

end Go.Proofs.YtcbkimbeljhbhaaGreatDoor
