/-
  
-/
import Derived.Test.YtbhbilenbbldnaaGreatDoorGRibF
set_option linter.unusedVariables false
set_option linter.unusedSimpArgs false
set_option maxHeartbeats 16000000
namespace Go.Proofs.YtbhbilenbbldnaaGreatDoor
section
open Go.RowKit Go.Sort
theorem OwR.lower {α : Type} {r : Rep α} {E base base' : Nat} {w : World} {v : Value} {xs : List α} (h : OwR r E base w v xs) (hb : base' <= base) : OwR r E base' w v xs := by
 obtain ⟨css, g1, g2, g3, g4⟩ := h
 refine ⟨css, g1, g2, ⟨g3.1, ?_⟩, by omega⟩
 rcases g3.2 with h | ⟨g, cap, cur, a1, a2, a3⟩
 · exact .inl h
 · exact .inr ⟨g, cap, cur, a1, by omega, a3⟩
theorem OwR.form {α : Type} {r : Rep α} {E base : Nat} {w : World} {v : Value} {xs : List α} (h : OwR r E base w v xs) : ∃ A c, v = .slice A xs.length c := by
 obtain ⟨css, g1, g2, g3, g4⟩ := h
 rcases g3.2 with ⟨rfl, h⟩ | ⟨g, cap, cur, rfl, _⟩
 · exact ⟨none, 0, by rw [h]⟩
 · exact ⟨_, _, rfl⟩
theorem pastAlloc2F {wr w1 : World} {cs ds : Array Value} {t u : TypeId} (h : Below ((wr.alloc (.cells cs t)).alloc (.cells ds u)).heap.size ((wr.alloc (.cells cs t)).alloc (.cells ds u)) w1) :
  (∀ i, w1.frozen? ⟨wr.heap.size, i, none⟩ = false) /\ (∀ i, w1.frozen? ⟨wr.heap.size + 1, i, none⟩ = false) := by
 obtain ⟨h1, h2, h3, h4⟩ := pastAlloc h
 rw [zbq] at h1 h2 h3 h4
 obtain ⟨g1, g2, g3, _⟩ := pastAlloc (wr := wr) (w1 := w1) (cs := cs) (t := t) (by rw [zbq]; exact h1)
 exact ⟨g3, h3⟩
theorem grown_setCell (w : World) (p : Addr) (u : Value) : w.grownBy (w.setCell p u) (some p.block) :=
 ⟨rfl, rfl, rfl, by simp [World.setCell], fun k _ hne => zak _ _ _ _ (fun e => hne (by rw [e]))⟩
theorem OwR.setCellI {E base : Nat} {w : World} {v : Value} {xs : List Int} (h : OwR intR E base w v xs) {p : Addr} (hp : p.block < base) (u : Value) : OwR intR E base (w.setCell p u) v xs :=
 h.kept (grown_setCell w p u) (.inr (fun e => by have := (h.base_le _ e).1; omega))
def CopPost (w : World) (r : Route) (e : Ending) (w' : World) : Prop :=
 ∃ v', e = .returned (.agg #[.int .i64 r.pre.addr, .int .i64 r.pre.bits, .bool r.here, .int .i64 r.cost, v']) /\ OwR intR 3 w.heap.size w' v' r.hops /\ Below w.heap.size w w'
theorem copied_any (r : Route) (v : Value) (w : World) (h : Sl intR w v r.hops) (hl : r.hops.length <= 1000) :
  Calls Tryz.prog 63 #[.agg #[.int .i64 r.pre.addr, .int .i64 r.pre.bits, .bool r.here, .int .i64 r.cost, v]] w (CopPost w r) := by
 obtain ⟨A, c, rfl⟩ := h.form
 obtain ⟨hs, hhs⟩ : ∃ hs, r.hops = hs := ⟨_, rfl⟩
 rw [hhs] at h hl ⊢
 have HHS := zaa hhs
 have hb : Below w.heap.size w ((w.alloc (.cells #[.int .i64 r.pre.addr, .int .i64 r.pre.bits, .bool r.here, .int .i64 r.cost, .slice A hs.length c] 75)).alloc (.cells #[.int .i64 0, .int .i64 0, .bool false, .int .i64 0, .slice none 0 0] 75)) := ((zad _ _).alloc (zab _) _).alloc (by simp) _
 have hcl := cloneI_any _ hs _ (h.below hb) (by omega)
 have HCL := zaa hcl
 clear h hb hcl hhs
 go_enter Tryz.func63, Tryz.ntmps63
 go_wp2_with fail
 refine HCL.out.mono ?_
 rintro e w1 ⟨v1, rfl, ho1, hb1⟩
 obtain ⟨A1, c1, rfl⟩ := ho1.form
 obtain ⟨hA, hN, hM, hS⟩ := pastAlloc2 hb1
 obtain ⟨hF1, hF2⟩ := pastAlloc2F hb1
 have HA := zaa hA
 have HO := zaa ho1
 clear hA hb1 ho1 HCL
 go_wp2_with fail
 refine bodyPost_ret (v := .agg #[.int .i64 r.pre.addr, .int .i64 r.pre.bits, .bool r.here, .int .i64 r.cost, .slice A1 hs.length c1]) (by simp [results, Tryz.results63, go_sem, *]) rfl ⟨_, rfl, ?_, ?_⟩
 · have h0 : OwR intR 3 (w.heap.size + 1 + 1) w1 (.slice A1 hs.length c1) hs := by
    have := HO.out
    rw [zbq, zbq] at this
    exact this
   rw [HHS.out]
   refine OwR.lower (base := w.heap.size + 1 + 1) ?_ (by omega)
   iterate 6 refine OwR.setCellI ?_ (by dsimp only; omega) _
   exact h0
 · iterate 6 refine Below.setCell ?_ (by dsimp only; omega) _
   exact HA.out
def LookPost (xs : List Route) (addr : Int) (w : World) (e : Ending) (w' : World) : Prop :=
 ∃ v', e = .returned (.tuple #[.agg #[.int .i64 (lookS xs addr).1.pre.addr, .int .i64 (lookS xs addr).1.pre.bits, .bool (lookS xs addr).1.here, .int .i64 (lookS xs addr).1.cost, v'], .int .i64 (lookS xs addr).2]) /\
   Sl intR w' v' (lookS xs addr).1.hops /\ Below w.heap.size w w'
theorem look_fin {xs : List Route} {addr : Int} {w w' : World} {v' : Value} {r : Route} {n : Int} (h : lookS xs addr = (r, n)) (hs : Sl intR w' v' r.hops) (hb : Below w.heap.size w w') :
  LookPost xs addr w (.returned (.tuple #[.agg #[.int .i64 r.pre.addr, .int .i64 r.pre.bits, .bool r.here, .int .i64 r.cost, v'], .int .i64 n])) w' := by
 refine ⟨v', ?_, ?_, hb⟩
 · rw [h]
 · rw [h]; exact hs
def bestN : Option Nat -> Int
 | none => -1
 | some j => (j : Int)
theorem b5 {w w1 : World} (h : Below w.heap.size w w1) (a b c d e : Value) :
  Below w.heap.size w (((((w1.setCell ⟨w.heap.size, 0, none⟩ a).setCell ⟨w.heap.size, 1, none⟩ b).setCell ⟨w.heap.size, 2, none⟩ c).setCell ⟨w.heap.size, 3, none⟩ d).setCell ⟨w.heap.size, 4, none⟩ e) :=
 ((((h.setCell (zab _) _).setCell (zab _) _).setCell (zab _) _).setCell (zab _) _).setCell (zab _) _
theorem Sl.five {w : World} {v : Value} {xs : List Int} {B : Nat} (h : SlR intR w (fun k => k < w.heap.size /\ k ≠ B) v xs) (a b c d e : Value) :
  Sl intR (((((w.setCell ⟨B, 0, none⟩ a).setCell ⟨B, 1, none⟩ b).setCell ⟨B, 2, none⟩ c).setCell ⟨B, 3, none⟩ d).setCell ⟨B, 4, none⟩ e) v xs := by
 refine SlR.keep h (fun k hk => ?_) (fun k hk => ?_)
 · iterate 5 rw [zak _ _ _ k hk.2]
 · simpa [World.setCell] using hk.1
theorem OwR.slB {E base : Nat} {w : World} {v : Value} {xs : List Int} (h : OwR intR E base w v xs) : SlR intR w (fun k => k < w.heap.size /\ base <= k) v xs := by
 obtain ⟨A, c, rfl, h1, h2, h3⟩ := h.sl (by decide)
 refine ⟨A, c, rfl, h1, h2, fun i x hx => ?_⟩
 obtain ⟨b, off, cs, rfl, hS, hb, hh, hc⟩ := h3 i x hx
 exact ⟨b, off, cs, rfl, ⟨hb, (h.base_le b rfl).1⟩, hb, hh, hc⟩
set_option maxRecDepth 100000 in
theorem lookup_any (v : Value) (xs : List Route) (addr : Int) (w : World) (h : Sl routeR w v xs) : Calls Tryz.prog 37 #[v, .int .i64 addr] w (LookPost xs addr w) := by
 have hB0 : Below w.heap.size w (w.alloc (.cells #[.int .i64 0, .int .i64 0, .bool false, .int .i64 0, .slice none 0 0] 75)) := (zad _ _).alloc (zab _) _
 have H0 := zaa (h.below hB0)
 have hlen := h.len_le
 obtain ⟨A, c, rfl⟩ := h.form
 have H := zaa h
 clear h hB0
 go_enter Tryz.func37, Tryz.ntmps37
 go_wp2_with fail
 refine (ribCheck_any _ xs _ H0.out).mono ?_
 rintro r w1 ⟨rfl, hb1⟩
 obtain ⟨hA, hN, hM, hS⟩ := pastAlloc hb1
 have HA := zaa hA
 clear hA hb1 H0
 by_cases hc : chkRoutes xs = 0
 · have t1 : (chkRoutes xs != 0) = false := by simp [hc]
   have hok := routes_ok hc
   have hl2 := hok.1
   have HOK := zaa hok.2
   have HC := zaa hc
   clear hok hc
   by_cases ha : addr < 0 ∨ 255 < addr
   · have HL := zaa (look_range HC.out ha)
     have hfin : ∀ {w'}, Below w.heap.size w w' -> LookPost xs addr w (.returned (.tuple #[.agg #[.int .i64 0, .int .i64 0, .bool false, .int .i64 0, .slice none 0 0], .int .i64 2])) w' := fun hb => look_fin HL.out (Sl.nil _ _) hb
     have HF := zaa (hfin (b5 HA.out (.int .i64 0) (.int .i64 0) (.bool false) (.int .i64 0) (.slice none 0 0)))
     clear hfin
     rcases ha with ha | ha
     · go_wp2_with fail
       exact bodyPost_ret (v := .tuple #[.agg #[.int .i64 0, .int .i64 0, .bool false, .int .i64 0, .slice none 0 0], .int .i64 2]) (by simp [results, Tryz.results37, go_sem, hN, hS]) rfl HF.out
     · go_wp2_with fail
       exact bodyPost_ret (v := .tuple #[.agg #[.int .i64 0, .int .i64 0, .bool false, .int .i64 0, .slice none 0 0], .int .i64 2]) (by simp [results, Tryz.results37, go_sem, hN, hS]) rfl HF.out
   · have a1 : 0 <= addr := by omega
     have a2 : addr <= 255 := by omega
     have a3 : ¬ addr < 0 := by omega
     have a4 : ¬ 255 < addr := by omega
     clear ha
     go_wp2_with fail
     go_loopw [7, 8, 9, 25] (fun s7 _ _ s25 wr => ∃ k : Nat, k <= xs.length /\ s25 = .int .i64 k /\ s7 = .int .i64 (bestN (bestTo xs addr k)) /\ Below w1.heap.size w1 wr) (fun _ _ _ s25 _ => xs.length - (intOf s25).toNat)
     case atStart => exact ⟨0, zam _, rfl, rfl, zad _ _⟩
     case round =>
      obtain ⟨k, hk, rfl, rfl, hB⟩ := hrel
      have hez := hB.size
      have HB := zaa hB
      have HBW := zaa (HA.out.trans (hB.mono HA.out.size))
      have hNr : ∀ i, wr.cell? ⟨w.heap.size, i, none⟩ = #[Value.int .i64 0, .int .i64 0, .bool false, .int .i64 0, .slice none 0 0][i]? := fun i => (bAt hB hS i).trans (hN i)
      have hMr : ∀ i, wr.frozen? ⟨w.heap.size, i, none⟩ = false := fun i => (bFz hB hS i).trans (hM i)
      have hSr : w.heap.size < wr.heap.size := zai hS hez
      clear hB hN hM
      obtain ⟨bt, hbt⟩ : ∃ bt, bestTo xs addr k = bt := ⟨_, rfl⟩
      have HBT := zaa hbt
      rw [hbt]
      clear hbt
      by_cases hlt : k < xs.length
      · obtain ⟨b, off, rfl, hb⟩ := H.out.at_ hlt
        obtain ⟨hv, f1, f2, f3, f4, f5, hsl, hwf⟩ := (H.out.below HBW.out).route hlt
        obtain ⟨A2, c2, rfl⟩ := hsl.form
        obtain ⟨o1, o2, o3, o4⟩ := prefBad_ok (routeBad_iff (HOK.out k hlt)).1
        have hand := andNot_span addr xs[k].pre.bits o1 o2 a1 a2
        have hgk : xs.getD k zeroR = xs[k] := by simp [List.getD, hlt]
        have hstep : bestTo xs addr (k + 1) = if matchR addr xs[k] && betterR xs k bt then some k else bt := by
         show (if matchR addr (xs.getD k zeroR) && betterR xs k (bestTo xs addr k) then some k else bestTo xs addr k) = _
         rw [hgk, HBT.out]
        have HST := zaa hstep
        have o1' : ¬ xs[k].pre.bits < 0 := by omega
        clear hsl hwf hstep
        have hbr : Below w1.heap.size w1 (wr.alloc (.cells #[.int .i64 xs[k].pre.addr, .int .i64 xs[k].pre.bits, .bool xs[k].here, .int .i64 xs[k].cost, .slice A2 xs[k].hops.length c2] 75)) := HB.out.alloc hez _
        have HBR := zaa hbr
        have q2 : 0 <= xs[k].pre.bits := o1
        clear hbr
        rcases hmm : matchR addr xs[k] with _ | _
        · have hm : (addr - addr % spanN xs[k].pre.bits == xs[k].pre.addr) = false := hmm
          have HMM := zaa hmm
          clear hmm
          go_wp2_with fail
          go_quiet (fail)
          go_wp2_with fail
          go_roundw
          case rel => exact ⟨k + 1, by omega, by go_num, by rw [HST.out, HMM.out]; rfl, bDrewN HBR.out _⟩
          case measure => simp [intOf]; omega
        · have hm : (addr - addr % spanN xs[k].pre.bits == xs[k].pre.addr) = true := hmm
          have HMM := zaa hmm
          clear hmm
          rcases bt with _ | j
          · have hbn : bestN none = -1 := rfl
            go_wp2_with fail
            go_quiet (fail)
            go_wp2_with fail
            go_roundw
            case rel => exact ⟨k + 1, by omega, by go_num, by rw [HST.out, HMM.out]; rfl, bDrewN HBR.out _⟩
            case measure => simp [intOf]; omega
          · have hbn : bestN (some j) = (j : Int) := rfl
            obtain ⟨hjk, _, _⟩ := best_some xs addr k j HBT.out
            have hjl : j < xs.length := by omega
            have hgj : xs.getD j zeroR = xs[j] := by simp [List.getD, hjl]
            have HGJ := zaa hgj
            have HGK := zaa hgk
            obtain ⟨_, g1, g2, z3, z4, z5, z6, z7⟩ := (H.out.below HBW.out).route hjl
            have r0 : (0 : Int) <= (j : Int) := zae _
            have r1 : (j : Int) < (xs.length : Int) := by omega
            have r2 : decide ((j : Int) < 0) = false := by rw [decide_eq_false_iff_not]; omega
            have hbwj : b < wr.heap.size := by have := HBW.out.size; omega
            clear z3 z4 z5 z6 z7 hgj hgk
            by_cases hlb : xs[j].pre.bits < xs[k].pre.bits
            · have r3 : decide (xs[j].pre.bits < xs[k].pre.bits) = true := by rw [decide_eq_true_iff]; exact hlb
              have hbb : betterR xs k (some j) = decide (xs[j].pre.bits < xs[k].pre.bits) := by
               show decide ((xs.getD j zeroR).pre.bits < (xs.getD k zeroR).pre.bits) = _
               rw [HGJ.out, HGK.out]
              rw [r3] at hbb
              have HBB := zaa hbb
              clear hbb
              go_wp2_with fail
              go_quiet (fail)
              go_wp2_with fail
              go_roundw
              case rel => exact ⟨k + 1, by omega, by go_num, by rw [HST.out, HMM.out, HBB.out]; rfl, bDrewN HBR.out _⟩
              case measure => simp [intOf]; omega
            · have r3 : decide (xs[j].pre.bits < xs[k].pre.bits) = false := by rw [decide_eq_false_iff_not]; exact hlb
              have hbb : betterR xs k (some j) = decide (xs[j].pre.bits < xs[k].pre.bits) := by
               show decide ((xs.getD j zeroR).pre.bits < (xs.getD k zeroR).pre.bits) = _
               rw [HGJ.out, HGK.out]
              rw [r3] at hbb
              have HBB := zaa hbb
              clear hbb
              go_wp2_with fail
              go_quiet (fail)
              go_wp2_with fail
              go_roundw
              case rel => exact ⟨k + 1, by omega, by go_num, by rw [HST.out, HMM.out, HBB.out]; rfl, bDrewN HBR.out _⟩
              case measure => simp [intOf]; omega
      · have hkk : k = xs.length := by omega
        rcases bt with _ | j
        · have hbn : bestN none < 0 := by decide
          have HL := zaa (look_none HC.out ⟨a1, a2⟩ (by rw [<- hkk]; exact HBT.out))
          have hfin : ∀ {w'}, Below w.heap.size w w' -> LookPost xs addr w (.returned (.tuple #[.agg #[.int .i64 0, .int .i64 0, .bool false, .int .i64 0, .slice none 0 0], .int .i64 6])) w' := fun hb => look_fin HL.out (Sl.nil _ _) hb
          have HF := zaa (hfin (b5 HBW.out (.int .i64 0) (.int .i64 0) (.bool false) (.int .i64 0) (.slice none 0 0)))
          clear hfin hkk
          go_wp2_with fail
          exact bodyPost_ret (v := .tuple #[.agg #[.int .i64 0, .int .i64 0, .bool false, .int .i64 0, .slice none 0 0], .int .i64 6]) (by simp [results, Tryz.results37, go_sem, hNr, hSr]) rfl HF.out
        · have hbn : bestN (some j) = (j : Int) := rfl
          obtain ⟨hjk, _, _⟩ := best_some xs addr k j HBT.out
          have hjl : j < xs.length := by omega
          have HL := zaa (look_some HC.out ⟨a1, a2⟩ (by rw [<- hkk]; exact HBT.out) hjl)
          obtain ⟨b, off, rfl, hb⟩ := H.out.at_ hjl
          obtain ⟨hv, f1, f2, f3, f4, f5, hsl, hwf⟩ := (H.out.below HBW.out).route hjl
          have hcop := copied_any xs[j] hv wr hsl (by have := (routeBad_iff (HOK.out j hjl)).2; omega)
          obtain ⟨A2, c2, rfl⟩ := hsl.form
          have HCOP := zaa hcop
          have r0 : (0 : Int) <= (j : Int) := zae _
          have r1 : (j : Int) < (xs.length : Int) := by omega
          have r2 : ¬ ((j : Int) < 0) := by omega
          clear hkk hsl hwf hcop
          go_wp2_with fail
          refine HCOP.out.mono ?_
          rintro e w2 ⟨v1, rfl, ho1, hb2⟩
          obtain ⟨A3, c3, rfl⟩ := ho1.form
          have hN2 : ∀ i, w2.cell? ⟨w.heap.size, i, none⟩ = #[Value.int .i64 0, .int .i64 0, .bool false, .int .i64 0, .slice none 0 0][i]? := fun i => (bAt hb2 hSr i).trans (hNr i)
          have hM2 : ∀ i, w2.frozen? ⟨w.heap.size, i, none⟩ = false := fun i => (bFz hb2 hSr i).trans (hMr i)
          have hS2 : w.heap.size < w2.heap.size := zai hSr hb2.size
          have hfin := look_fin HL.out (Sl.five (B := w.heap.size) (SlR.keep ho1.slB (fun _ _ => rfl) (fun k hk => ⟨hk.1, by have := hk.2; omega⟩)) (.int .i64 xs[j].pre.addr) (.int .i64 xs[j].pre.bits) (.bool xs[j].here) (.int .i64 xs[j].cost) (.slice A3 xs[j].hops.length c3)) (b5 (HBW.out.trans (hb2.mono HBW.out.size)) _ _ _ _ _)
          have HF := zaa hfin
          clear hb2 ho1 hNr hMr hfin
          go_wp2_with fail
          exact bodyPost_ret (v := .tuple #[.agg #[.int .i64 xs[j].pre.addr, .int .i64 xs[j].pre.bits, .bool xs[j].here, .int .i64 xs[j].cost, .slice A3 xs[j].hops.length c3], .int .i64 0]) (by simp [results, Tryz.results37, go_sem, hN2, hS2]) rfl HF.out
 · have t1 : (chkRoutes xs != 0) = true := by simp [hc]
   have HL := zaa (look_bad (addr := addr) hc)
   have hfin : ∀ {w'}, Below w.heap.size w w' -> LookPost xs addr w (.returned (.tuple #[.agg #[.int .i64 0, .int .i64 0, .bool false, .int .i64 0, .slice none 0 0], .int .i64 (chkRoutes xs)])) w' := fun hb => look_fin HL.out (Sl.nil _ _) hb
   have HF := zaa (hfin (b5 HA.out (.int .i64 0) (.int .i64 0) (.bool false) (.int .i64 0) (.slice none 0 0)))
   clear hc hfin
   go_wp2_with fail
   exact bodyPost_ret (v := .tuple #[.agg #[.int .i64 0, .int .i64 0, .bool false, .int .i64 0, .slice none 0 0], .int .i64 (chkRoutes xs)]) (by simp [results, Tryz.results37, go_sem, hN, hS]) rfl HF.out
end
end Go.Proofs.YtbhbilenbbldnaaGreatDoor
