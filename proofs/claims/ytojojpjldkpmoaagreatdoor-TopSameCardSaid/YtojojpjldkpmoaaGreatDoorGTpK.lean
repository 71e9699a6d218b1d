/-
  
-/
import Derived.Test.YtojojpjldkpmoaaGreatDoorGTpC
import Derived.Deep.RegionHeld3
set_option linter.unusedVariables false
set_option linter.unusedSimpArgs false
set_option maxHeartbeats 16000000
namespace Go.Proofs.YtojojpjldkpmoaaGreatDoor
section
open Go Go.RowKit Go.Deep
theorem lines_take : ∀ (l : List ActV) (rs : List Rpl) (C : Nat -> Nat -> Int), linesS C l (rs.take l.length) = linesS C l rs
 | [], _, _ => by unfold linesS; rfl
 | c :: l, [], C => rfl
 | c :: l, r :: rs, C => by
   rw [zaw, zbd]
   exact lines_take l rs _
theorem lines_succ : ∀ (l : List ActV) (rs : List Rpl) (C : Nat -> Nat -> Int) (k : Nat) (h1 : k < l.length) (h2 : k < rs.length), linesS C (l.take (k + 1)) rs = lineS (linesS C (l.take k) rs) l[k] rs[k].code
 | [], _, _, k, h1, _ => by simp at h1
 | c :: l, [], _, k, _, h2 => by simp at h2
 | c :: l, r :: rs, C, 0, _, _ => by
   rw [zbd, List.take_zero]
   show linesS (lineS C c r.code) [] rs = lineS (linesS C [] (r :: rs)) c r.code
   unfold linesS; rfl
 | c :: l, r :: rs, C, k + 1, h1, h2 => by
   rw [zbd, zbd]
   have g1 : k < l.length := by simpa using h1
   have g2 : k < rs.length := by simpa using h2
   show linesS (lineS C c r.code) (l.take (k + 1)) rs = lineS (linesS (lineS C c r.code) (l.take k) rs) l[k] rs[k].code
   exact lines_succ l rs _ k g1 g2
theorem line_done {x : Net} {c : ActV} (hc : Tame c) (hk : c.kind = 1 ∨ c.kind = 2) (h : (actS x c).2.code = 0) : (0 <= c.a /\ c.a < 5) /\ (0 <= c.b /\ c.b < 5) /\ c.a ≠ c.b := by
 obtain ⟨a, ha⟩ : ∃ a : Nat, c.a = a := ⟨c.a.toNat, by have := hc.a0; omega⟩
 have ha5 : a < 5 := by have := hc.a1; omega
 have key : ∀ n, (linkS x a c.b n).2 = 0 -> (0 <= c.b) /\ c.a ≠ c.b := fun n hn => by
  unfold linkS at hn
  split at hn
  · cases hn
  · rename_i h1
    split at hn
    · cases hn
    · rename_i h2
      have h3 : isN c.b = true := by
       cases e : isN c.b with
       | true => rfl
       | false => exact absurd (.inl e) h1
      exact ⟨((isN_iff _).1 h3).1, by rw [ha]; exact h2⟩
 rcases hk with hk | hk
 · rw [act_go (k := 1) (a := a) (by omega) (by rw [ha]; exact lit_isN (by omega)) ha (by omega), actK_1] at h
   split at h
   · obtain ⟨h1, h2⟩ := key _ h
     exact ⟨⟨hc.a0, hc.a1⟩, ⟨h1, hc.b1⟩, h2⟩
   · cases h
 · rw [act_go (k := 2) (a := a) (by omega) (by rw [ha]; exact lit_isN (by omega)) ha (by omega)] at h
   obtain ⟨h1, h2⟩ := key _ h
   exact ⟨⟨hc.a0, hc.a1⟩, ⟨h1, hc.b1⟩, h2⟩
theorem run_at (l m : List ActV) (k : Nat) (h : k < l.length) (h2 : k < (runS net0 (l ++ m)).2.length) : (runS net0 (l ++ m)).2[k] = (actS (runS net0 (l.take k)).1 l[k]).2 := by
 have h1 : k < (runS net0 l).2.length := by rw [runS_len0]; exact h
 have e1 : (runS net0 (l ++ m)).2[k] = (runS net0 l).2[k] := by
  have e : (runS net0 (l ++ m)).2 = (runS net0 l).2 ++ (runS (runS net0 l).1 m).2 := by rw [runS_append]
  simp only [e]
  rw [List.getElem_append_left h1]
 rw [e1]
 have h3 := topSteps_says l (k + 1)
 rw [run_take h] at h3
 have h4 : ((runS net0 l).2.take (k + 1))[k]? = some ((runS net0 l).2[k]) := by
  rw [zbb, if_pos (zbN _), zac h1]
 rw [<- h3] at h4
 have h5 : (runS net0 (l.take k)).2.length = k := by rw [runS_len0, zaq]; omega
 rw [zaR (by omega), h5, Nat.sub_self] at h4
 exact (Option.some.inj h4).symm
def row5 (L : Nat -> Nat -> Int) : List Value := (List.range 25).map fun i => .int .i64 (L (i / 5) (i % 5))
theorem row5_get (L : Nat -> Nat -> Int) {a b : Nat} (ha : a < 5) (hb : b < 5) : (row5 L)[a * 5 + b]? = some (.int .i64 (L a b)) := by
 unfold row5
 rw [zbt, zbJ (by omega)]
 show some (Value.int .i64 (L ((a * 5 + b) / 5) ((a * 5 + b) % 5))) = _
 rw [show (a * 5 + b) / 5 = a by omega, show (a * 5 + b) % 5 = b by omega]
theorem row5_len (L : Nat -> Nat -> Int) : (row5 L).length = 25 := by simp [row5]
theorem row5_one (L : Nat -> Nat -> Int) : ∀ v ∈ row5 L, v.oneCell' = true := fun v hv => by
 obtain ⟨i, _, rfl⟩ := zbm.1 hv; rfl
structure Row5 (w : World) (O : Nat) (L : Nat -> Nat -> Int) : Prop where
 cell : ∀ a b, a < 5 -> b < 5 -> w.cell? ⟨O, a * 5 + b, none⟩ = some (.int .i64 (L a b))
 fz : ∀ o, w.frozen? ⟨O, o, none⟩ = false
 lt : O < w.heap.size
theorem Row5.below {w w' : World} {O : Nat} {L : Nat -> Nat -> Int} (h : Row5 w O L) (hb : Below w.heap.size w w') : Row5 w' O L :=
 ⟨fun a b ha hb' => cell_keep hb (h.cell a b ha hb'), fun o => (bFz hb h.lt o).trans (h.fz o), zan h.lt hb.size⟩
theorem Row5.set {w : World} {O : Nat} {L : Nat -> Nat -> Int} (h : Row5 w O L) {a b : Nat} (ha : a < 5) (hb : b < 5) (n : Int) : Row5 (w.setCell ⟨O, a * 5 + b, none⟩ (.int .i64 n)) O (updC L a b n) := by
 refine ⟨fun x y hx hy => ?_, fun o => by rw [zau]; exact h.fz o, by simpa [World.setCell] using h.lt⟩
 unfold updC
 by_cases e : x = a /\ y = b
 · rw [if_pos e, e.1, e.2]
   exact zay _ _ _ (by rw [h.cell a b ha hb]; rfl)
 · rw [if_neg e, zag _ _ _ _ (by intro h9; injection h9 with _ h9 _; omega)]
   exact h.cell x y hx hy
theorem Row5.other {w : World} {O O' o : Nat} {L : Nat -> Nat -> Int} (h : Row5 w O L) (hne : O ≠ O') (u : Value) : Row5 (w.setCell ⟨O', o, none⟩ u) O L :=
 ⟨fun a b ha hb => (zav (zai _ _ _ _ (show O ≠ O' from hne))).trans (h.cell a b ha hb), fun x => by rw [zau]; exact h.fz x, by simpa [World.setCell] using h.lt⟩
theorem Row5.range {w : World} {O : Nat} {L : Nat -> Nat -> Int} (h : Row5 w O L) : w.rangeAt O 0 (row5 L) := fun j v hj => by
 have hl : j < 25 := by have := (zax.1 hj).1; rw [row5_len] at this; exact this
 have e : j = j / 5 * 5 + j % 5 := by omega
 rw [zaM]
 rw [e] at hj ⊢
 rw [row5_get L (by omega) (by omega)] at hj
 rw [h.cell _ _ (by omega) (by omega)]; exact hj
theorem size5 : (Tryz.prog.info? 37).map (·.size) = some 25 := by kernel_rfl
def z25 : Array Value := #[.int .i64 0, .int .i64 0, .int .i64 0, .int .i64 0, .int .i64 0, .int .i64 0, .int .i64 0, .int .i64 0, .int .i64 0, .int .i64 0, .int .i64 0, .int .i64 0, .int .i64 0, .int .i64 0, .int .i64 0, .int .i64 0, .int .i64 0, .int .i64 0, .int .i64 0, .int .i64 0, .int .i64 0, .int .i64 0, .int .i64 0, .int .i64 0, .int .i64 0]
theorem zero5_row {w : World} (T : TypeId) (O : Nat) (hO : O = w.heap.size) : Row5 (w.alloc (.cells z25 T)) O (fun _ _ => 0) := by
 subst hO
 refine ⟨fun a b ha hb => ?_, fun o => zaD _ _ _ _ rfl, by simp⟩
 rw [zae _ _ _ _ rfl]
 have h5 : a = 0 ∨ a = 1 ∨ a = 2 ∨ a = 3 ∨ a = 4 := by omega
 have h6 : b = 0 ∨ b = 1 ∨ b = 2 ∨ b = 3 ∨ b = 4 := by omega
 rcases h5 with rfl | rfl | rfl | rfl | rfl <;> rcases h6 with rfl | rfl | rfl | rfl | rfl <;> rfl
theorem Row5.there {w : World} {O : Nat} {L : Nat -> Nat -> Int} (h : Row5 w O L) : w.there O 0 25 := fun j hj => by
 rw [zaM]
 have e : j = j / 5 * 5 + j % 5 := by omega
 refine ⟨?_, h.fz j⟩
 rw [e, h.cell _ _ (by omega) (by omega)]; rfl
theorem results_cell5 {P : Program} {fn : Func} {a : Tmp} {t : TypeId} (h : fn.results = #[.cell a t]) {tmps : Array Value} {w : World} {ad : Addr} {v : Value} (hp : tmps.getD a undef = .pointer (some ad)) (hl : (loadVar t ad).run P w = .ok v w) : (results fn tmps).run P w = .ok v w := by
 have hp' : tmps[a]?.getD undef = .pointer (some ad) := by simpa using hp
 simp [results, h, hp', hl, asAddr]
set_option maxRecDepth 50000 in
theorem lines_any (v1 v2 : Value) (acts : List ActV) (rs : List Rpl) (w : World) (h1 : Sl actR w v1 acts) (h2 : Sl rplR w v2 rs) (hl : acts.length <= rs.length) (hl2 : acts.length <= 1000)
  (hok : ∀ k, (h : k < acts.length) -> (h2 : k < rs.length) -> rs[k].code = 0 -> (acts[k].kind = 1 ∨ acts[k].kind = 2) -> (0 <= acts[k].a /\ acts[k].a < 5) /\ (0 <= acts[k].b /\ acts[k].b < 5) /\ acts[k].a ≠ acts[k].b) :
  Calls Tryz.prog 9 #[v1, v2] w fun e w' => e = .returned (.agg (row5 (linesS (fun _ _ => 0) acts rs)).toArray) /\ Below w.heap.size w w' := by
 obtain ⟨A1, c1, rfl⟩ := h1.form
 obtain ⟨A2, c2, rfl⟩ := h2.form
 have hal0 := (zad w.heap.size w).alloc (zab _) (.cells z25 37)
 have hal1 := (zad (w.alloc (.cells z25 37)).heap.size (w.alloc (.cells z25 37))).alloc (zab _) (.cells z25 37)
 have hR := (zero5_row (w := w) 37 w.heap.size rfl).below hal1
 have hO := zero5_row (w := w.alloc (.cells z25 37)) 37 (w.heap.size + 1) (by simp)
 have hb := hal0.trans (hal1.mono hal0.size)
 have H1 := zaa h1
 have H2 := zaa h2
 have HOK := zaa hok
 clear hok h1 h2 hal0 hal1
 go_enter Tryz.func9, Tryz.ntmps9
 go_wp2_with fail
 obtain ⟨W, hW⟩ : ∃ x, x = (w.alloc (.cells z25 37)).alloc (.cells z25 37) := ⟨_, rfl⟩
 obtain ⟨O, hOO⟩ : ∃ x, x = w.heap.size + 1 := ⟨_, rfl⟩
 obtain ⟨R, hRR⟩ : ∃ x, x = w.heap.size := ⟨_, rfl⟩
 rw [<- hW] at hR hO hb
 unfold z25 at hW
 rw [<- hOO] at hO
 rw [<- hRR] at hR
 rw [<- hW, <- hOO, <- hRR]
 have HR := zaa hR
 have HO := zaa hO
 have HB := zaa hb
 have HOO := zaa hOO
 have HRR := zaa hRR
 have HWO := zaa (show w.heap.size <= O by omega)
 have HRO := zaa (show R ≠ O by omega)
 have HRW := zaa (show w.heap.size <= R by omega)
 clear hR hO hb hW hOO hRR
 go_loopw [6, 10] (fun _ i wr => ∃ k : Nat, k <= acts.length /\ i = .int .i64 k /\ Row5 wr O (linesS (fun _ _ => 0) (acts.take k) rs) /\ Row5 wr R (fun _ _ => 0) /\ Below w.heap.size w wr) (fun _ i _ => acts.length - (intOf i).toNat)
 case atStart => exact ⟨0, zak _, rfl, by rw [List.take_zero, show linesS (fun _ _ => 0) [] rs = fun _ _ => 0 by unfold linesS; rfl]; exact HO.out, HR.out, HB.out⟩
 case round =>
  obtain ⟨k, hk, rfl, hr5, hrr, hB⟩ := hrel
  have HRZ := zaa hrr
  clear hrr
  have HR5 := zaa hr5
  have HBW := zaa hB
  clear hr5
  by_cases hlt : k < acts.length
  · have hki : (k : Int) < (acts.length : Int) := by omega
    have hk0 : (0 : Int) <= (k : Int) := zaf k
    have hkr : k < rs.length := by omega
    have hkj : (k : Int) < (rs.length : Int) := by omega
    obtain ⟨b1, o1, rfl, hb1⟩ := H1.out.at_ hlt
    obtain ⟨b2, o2, rfl, hb2⟩ := H2.out.at_ hkr
    obtain ⟨f0, f1, f2, f3, f4, f5, f6, f7, f8, _⟩ := (H1.out.below hB).act hlt
    obtain ⟨_, _, g0, _⟩ := (H2.out.below hB).rpl hkr
    have hb1' : b1 < wr.heap.size := zan hb1 hB.size
    have hb2' : b2 < wr.heap.size := zan hb2 hB.size
    have HLS := zaa (lines_succ acts rs (fun _ _ => 0) k hlt hkr)
    have hokk := HOK.out k hlt hkr
    obtain ⟨c, hc⟩ : ∃ c, c = acts[k] := ⟨_, rfl⟩
    obtain ⟨code, hcd⟩ : ∃ c, c = rs[k].code := ⟨_, rfl⟩
    rw [<- hc] at f0 f1 f2 f3 f4 f5 f6 f7 f8 HLS hokk
    rw [<- hcd] at g0 HLS hokk
    obtain ⟨L, hL⟩ : ∃ L, L = linesS (fun _ _ => 0) (acts.take k) rs := ⟨_, rfl⟩
    rw [<- hL] at HLS HR5
    have hal := (zad wr.heap.size wr).alloc (zab _) (.cells #[.int .i64 c.kind, .int .i64 c.a, .int .i64 c.b, .int .i64 c.n, .int .i64 c.m, .int .i64 c.pre.addr, .int .i64 c.pre.bits, .string c.key, .string c.value] 34)
    have HBA := zaa (HBW.out.trans (hal.mono HBW.out.size))
    have HRA := zaa (HR5.out.below hal)
    have HRY := zaa (HRZ.out.below hal)
    clear hc hcd hL hB hal
    by_cases hz : code = 0
    · have HOKK := zaa (hokk hz)
      rw [hz] at g0 HLS
      clear hz hokk
      by_cases h1 : c.kind = 1
      · obtain ⟨⟨x1, x2⟩, ⟨x3, x4⟩, x5⟩ := HOKK.out (.inl h1)
        have hln : lineS L c 0 = updC (updC L c.a.toNat c.b.toNat c.n) c.b.toNat c.a.toNat c.n := by unfold lineS; rw [if_neg (by simp), if_pos h1]
        rw [hln] at HLS
        have t1 : (c.kind == 1) = true := by simp [h1]
        obtain ⟨p, hp⟩ : ∃ p : Nat, c.a = p := ⟨c.a.toNat, by omega⟩
        obtain ⟨q, hq⟩ : ∃ q : Nat, c.b = q := ⟨c.b.toNat, by omega⟩
        rw [hp, hq, zaL, zaL] at HLS
        have hp5 : p < 5 := by omega
        have hq5 : q < 5 := by omega
        have hpq : ¬ p = q := by omega
        rw [hp] at f1 HBA HRA HRY
        rw [hq] at f2 HBA HRA HRY
        have i1 : (0 : Int) <= (p : Int) := zaf _
        have i2 : (p : Int) < 5 := by omega
        have i3 : (0 : Int) <= (q : Int) := zaf _
        have i4 : (q : Int) < 5 := by omega
        have hne : ¬ p * 5 + q = q * 5 + p := by omega
        have y0 := HRA.out.cell p q hp5 hq5
        have y1 := HRA.out.cell q p hq5 hp5
        have y2 := HRA.out.fz (p * 5 + q)
        have y3 := HRA.out.fz (q * 5 + p)
        clear h1 x1 x2 x3 x4 x5 hp hq hln
        go_wp2_with fail
        obtain ⟨W4, hW4⟩ : ∃ x, x = wr.alloc (.cells #[.int .i64 c.kind, .int .i64 (p : Int), .int .i64 (q : Int), .int .i64 c.n, .int .i64 c.m, .int .i64 c.pre.addr, .int .i64 c.pre.bits, .string c.key, .string c.value] 34) := ⟨_, rfl⟩
        obtain ⟨B4, hB4⟩ : ∃ x, x = wr.heap.size := ⟨_, rfl⟩
        have u1 : W4.cell? ⟨B4, 1, none⟩ = some (.int .i64 (p : Int)) := by rw [hW4, hB4, zae _ _ _ _ rfl]; rfl
        have u2 : W4.cell? ⟨B4, 2, none⟩ = some (.int .i64 (q : Int)) := by rw [hW4, hB4, zae _ _ _ _ rfl]; rfl
        have u3 : W4.cell? ⟨B4, 3, none⟩ = some (.int .i64 c.n) := by rw [hW4, hB4, zae _ _ _ _ rfl]; rfl
        have hOB : ¬ B4 = O := by have := HR5.out.lt; omega
        have hOB' : ¬ O = B4 := fun e => hOB e.symm
        rw [<- hW4] at y0 y1 y2 y3 HRA HBA HRY
        rw [<- hW4, <- hB4]
        clear hW4 hB4 f0 f1 f2 f3 f4 f5 f6 f7 f8 g0
        have HLS2 := HLS
        clear HLS
        go_region
        all_goals
         have hfin := (HRA.out.set hp5 hq5 c.n).set hq5 hp5 c.n
         have HF := zaa (hfin.below (zad _ _).drew)
         have HBF := zaa (((HBA.out.setCell (p := ⟨O, p * 5 + q, none⟩) HWO.out (.int .i64 c.n)).setCell (p := ⟨O, q * 5 + p, none⟩) HWO.out (.int .i64 c.n)).drew)
         have HRF := zaa (((HRY.out.other (o := p * 5 + q) HRO.out (.int .i64 c.n)).other (o := q * 5 + p) HRO.out (.int .i64 c.n)).below (zad _ _).drew)
         clear hfin y0 y1 y2 y3 u1 u2 u3
         go_wp2_with fail
         go_roundw
         case rel => exact ⟨k + 1, by omega, by go_num, by rw [HLS2.out]; exact HF.out, HRF.out, HBF.out⟩
         case measure => simp [intOf]; omega
      · have t1 : (c.kind == 1) = false := by simp [h1]
        by_cases h2 : c.kind = 2
        · obtain ⟨⟨x1, x2⟩, ⟨x3, x4⟩, x5⟩ := HOKK.out (.inr h2)
          have hln : lineS L c 0 = updC (updC L c.a.toNat c.b.toNat 0) c.b.toNat c.a.toNat 0 := by unfold lineS; rw [if_neg (by simp), if_neg h1, if_pos h2]
          rw [hln] at HLS
          have t2 : (c.kind == 2) = true := by simp [h2]
          obtain ⟨p, hp⟩ : ∃ p : Nat, c.a = p := ⟨c.a.toNat, by omega⟩
          obtain ⟨q, hq⟩ : ∃ q : Nat, c.b = q := ⟨c.b.toNat, by omega⟩
          rw [hp, hq, zaL, zaL] at HLS
          have hp5 : p < 5 := by omega
          have hq5 : q < 5 := by omega
          have hpq : ¬ p = q := by omega
          rw [hp] at f1 HBA HRA HRY
          rw [hq] at f2 HBA HRA HRY
          have i1 : (0 : Int) <= (p : Int) := zaf _
          have i2 : (p : Int) < 5 := by omega
          have i3 : (0 : Int) <= (q : Int) := zaf _
          have i4 : (q : Int) < 5 := by omega
          have hne : ¬ p * 5 + q = q * 5 + p := by omega
          have y0 := HRA.out.cell p q hp5 hq5
          have y1 := HRA.out.cell q p hq5 hp5
          have y2 := HRA.out.fz (p * 5 + q)
          have y3 := HRA.out.fz (q * 5 + p)
          clear h1 h2 x1 x2 x3 x4 x5 hp hq hln
          go_wp2_with fail
          obtain ⟨W4, hW4⟩ : ∃ x, x = wr.alloc (.cells #[.int .i64 c.kind, .int .i64 (p : Int), .int .i64 (q : Int), .int .i64 c.n, .int .i64 c.m, .int .i64 c.pre.addr, .int .i64 c.pre.bits, .string c.key, .string c.value] 34) := ⟨_, rfl⟩
          obtain ⟨B4, hB4⟩ : ∃ x, x = wr.heap.size := ⟨_, rfl⟩
          have u1 : W4.cell? ⟨B4, 1, none⟩ = some (.int .i64 (p : Int)) := by rw [hW4, hB4, zae _ _ _ _ rfl]; rfl
          have u2 : W4.cell? ⟨B4, 2, none⟩ = some (.int .i64 (q : Int)) := by rw [hW4, hB4, zae _ _ _ _ rfl]; rfl
          have u3 : W4.cell? ⟨B4, 3, none⟩ = some (.int .i64 c.n) := by rw [hW4, hB4, zae _ _ _ _ rfl]; rfl
          have hOB : ¬ B4 = O := by have := HR5.out.lt; omega
          have hOB' : ¬ O = B4 := fun e => hOB e.symm
          rw [<- hW4] at y0 y1 y2 y3 HRA HBA HRY
          rw [<- hW4, <- hB4]
          clear hW4 hB4 f0 f1 f2 f3 f4 f5 f6 f7 f8 g0
          have HLS2 := HLS
          clear HLS
          go_region
          all_goals
           have hfin := (HRA.out.set hp5 hq5 0).set hq5 hp5 0
           have HF := zaa (hfin.below (zad _ _).drew)
           have HBF := zaa (((HBA.out.setCell (p := ⟨O, p * 5 + q, none⟩) HWO.out (.int .i64 0)).setCell (p := ⟨O, q * 5 + p, none⟩) HWO.out (.int .i64 0)).drew)
           have HRF := zaa (((HRY.out.other (o := p * 5 + q) HRO.out (.int .i64 0)).other (o := q * 5 + p) HRO.out (.int .i64 0)).below (zad _ _).drew)
           clear hfin y0 y1 y2 y3 u1 u2 u3
           go_wp2_with fail
           go_roundw
           case rel => exact ⟨k + 1, by omega, by go_num, by rw [HLS2.out]; exact HF.out, HRF.out, HBF.out⟩
           case measure => simp [intOf]; omega
        · have t2 : (c.kind == 2) = false := by simp [h2]
          have hln : lineS L c 0 = L := lineS_else h1 h2
          rw [hln] at HLS
          clear h1 h2 hln
          go_wp2_with fail
          go_roundw
          case rel => exact ⟨k + 1, by omega, by go_num, by rw [HLS.out]; exact HRA.out, HRY.out, HBA.out⟩
          case measure => simp [intOf]; omega
    · have hcz : (code != 0) = true := by simp [hz]
      have hln : lineS L c code = L := lineS_bad hz
      rw [hln] at HLS
      clear hz hokk hln
      go_wp2_with fail
      go_roundw
      case rel => exact ⟨k + 1, by omega, by go_num, by rw [HLS.out]; exact HRA.out, HRY.out, HBA.out⟩
      case measure => simp [intOf]; omega
  · obtain rfl : k = acts.length := by omega
    rw [zaP] at HR5
    have hki : ¬ (acts.length : Int) < (acts.length : Int) := by omega
    clear hB
    obtain ⟨L, hL⟩ : ∃ L, L = linesS (fun _ _ => 0) acts rs := ⟨_, rfl⟩
    rw [<- hL] at HR5
    have HL := zaa hL
    clear hL
    have HRNG := zaa HR5.out.range
    have HTR := zaa (show wr.there R 0 (row5 L).toArray.size by rw [zaW, row5_len]; exact HRZ.out.there)
    have HIF := zaa (show (Tryz.prog.info? 37).map (·.size) = some (row5 L).length by rw [row5_len]; exact size5)
    have HIA := zaa (show (Tryz.prog.info? 37).map (·.size) = some (row5 L).toArray.size by rw [zaW, row5_len]; exact size5)
    have HON := zaa (row5_one L)
    go_wp2_with (first
     | (refine wpList_load_mid rfl 37 (.tmp 5) rfl O 0 rfl (row5 L) _ HRNG.out Tryz.underlying37 rfl HIF.out ?_)
     | (refine wpList_store_mid rfl 37 (.tmp 4) (.tmp 56) rfl R 0 (row5 L).toArray rfl rfl HTR.out HIA.out (all_oneCell_toArray HON.out) ?_))
    have hld := run_loadVar_mid (P := Tryz.prog) (wr.setCells R 0 (row5 L)) R 0 37 (row5 L) _ (World.rangeAt_setCells_same wr R 0 (row5 L) (by have h := HTR.out; rw [zaW] at h; exact h)) Tryz.underlying37 rfl HIF.out
    exact bodyPost_ret (v := .agg (row5 L).toArray) (results_cell5 Tryz.results9 rfl hld) rfl ⟨by rw [HL.out], belowCells HRW.out _ _ _ HBW.out⟩
structure Cn (w : World) (B : Nat) (P : Nat -> Prop) : Prop where
 cell : ∀ b, b < 5 -> ∃ t, w.cell? ⟨B, b, none⟩ = some (.bool t) /\ (t = true -> P b)
 fz : ∀ o, w.frozen? ⟨B, o, none⟩ = false
 lt : B < w.heap.size
theorem Cn.set {w : World} {B : Nat} {P : Nat -> Prop} (h : Cn w B P) {a : Nat} (ha : a < 5) (t : Bool) (ht : t = true -> P a) : Cn (w.setCell ⟨B, a, none⟩ (.bool t)) B P := by
 refine ⟨fun b hb => ?_, fun o => by rw [zau]; exact h.fz o, by simpa [World.setCell] using h.lt⟩
 by_cases e : b = a
 · subst e
   obtain ⟨u, hu, _⟩ := h.cell b hb
   exact ⟨t, zay _ _ _ (by rw [hu]; rfl), ht⟩
 · obtain ⟨u, hu, h2⟩ := h.cell b hb
   exact ⟨u, by rw [zag _ _ _ _ (by intro h9; injection h9 with _ h9 _; omega)]; exact hu, h2⟩
theorem Cn.below {w w' : World} {B : Nat} {P : Nat -> Prop} (h : Cn w B P) (hb : Below w.heap.size w w') : Cn w' B P :=
 ⟨fun b hb' => by obtain ⟨t, h1, h2⟩ := h.cell b hb'; exact ⟨t, cell_keep hb h1, h2⟩, fun o => (bFz hb h.lt o).trans (h.fz o), zan h.lt hb.size⟩
theorem make5 (w : World) : (Instr.makeSlice 39 (.int .i64 5) (.int .i64 5)).run Tryz.prog w = .ok (.slice (some ⟨w.heap.size, 0, none⟩) 5 5) (w.alloc (.cells #[.bool false, .bool false, .bool false, .bool false, .bool false] 4)) := by kernel_rfl
theorem cn_first (w : World) (T : TypeId) (P : Nat -> Prop) (B f : Nat) (hB : B = w.heap.size) (hf : f < 5) (hP : P f) : Cn (w.alloc (.cells ([Value.bool false, .bool false, .bool false, .bool false, .bool false].set f (.bool true)).toArray T)) B P := by
 subst hB
 refine ⟨fun b hb => ?_, fun o => zaD _ _ _ _ rfl, by simp⟩
 rw [zae _ _ _ _ rfl, zao]
 by_cases e : b = f
 · subst e
   exact ⟨true, by rw [zbw (by simpa using hb)], fun _ => hP⟩
 · refine ⟨false, ?_, fun h => by cases h⟩
   rw [zbD (fun h => e h.symm)]
   have h6 : b = 0 ∨ b = 1 ∨ b = 2 ∨ b = 3 ∨ b = 4 := by omega
   rcases h6 with rfl | rfl | rfl | rfl | rfl <;> rfl
theorem row5_box (w : World) (L : Nat -> Nat -> Int) (T : TypeId) (B : Nat) (hB : B = w.heap.size) : Row5 (w.alloc (.cells (row5 L).toArray T)) B L := by
 subst hB
 refine ⟨fun a b ha hb => ?_, fun o => zaD _ _ _ _ rfl, by simp⟩
 rw [zae _ _ _ _ rfl, zao]
 exact row5_get L ha hb
set_option maxRecDepth 50000 in
theorem connected_any (L : Nat -> Nat -> Int) (f : Nat) (P : Nat -> Prop) (w : World) (hf : f < 5) (hP : P f) (hst : ∀ a b, a < 5 -> b < 5 -> P a -> 0 < L a b -> P b) :
  Calls Tryz.prog 10 #[.agg (row5 L).toArray, .int .i64 (f : Int)] w fun e w' => ∃ B, e = .returned (.slice (some ⟨B, 0, none⟩) 5 5) /\ Cn w' B P /\ Below w.heap.size w w' := by
 have hmk := fun w => make5 w
 have f0 : (0 : Int) <= (f : Int) := zaf _
 have f1 : (f : Int) < 5 := by omega
 obtain ⟨W1, hW1⟩ : ∃ x, x = w.alloc (.cells (row5 L).toArray 37) := ⟨_, rfl⟩
 obtain ⟨R, hR⟩ : ∃ x, x = w.heap.size := ⟨_, rfl⟩
 have hz1 : W1.heap.size = R + 1 := by rw [hW1, hR]; simp
 have hr := row5_box w L 37 R hR
 have hb1 : Below w.heap.size w W1 := by rw [hW1]; exact (zad _ _).alloc (zab _) _
 rw [<- hW1] at hr
 have HST := zaa hst
 have HPF := zaa hP
 clear hst hP
 go_enter Tryz.func10, Tryz.ntmps10
 go_wp2_with fail
 rw [<- hW1, <- hR]
 obtain ⟨W, hW⟩ : ∃ x, x = W1.alloc (.cells ([Value.bool false, .bool false, .bool false, .bool false, .bool false].set f (.bool true)).toArray 4) := ⟨_, rfl⟩
 obtain ⟨B, hBB⟩ : ∃ x, x = R + 1 := ⟨_, rfl⟩
 have hal := (zad W1.heap.size W1).alloc (zab _) (.cells ([Value.bool false, .bool false, .bool false, .bool false, .bool false].set f (.bool true)).toArray 4)
 have hcn := cn_first W1 4 P B f (by omega) hf HPF.out
 have hr2 := hr.below hal
 rw [<- hW] at hcn hr2 hal
 rw [<- hW, <- hBB]
 have HCN := zaa hcn
 have HRW := zaa hr2
 have HB := zaa (hb1.trans (hal.mono hb1.size))
 have hwB : w.heap.size <= B := by omega
 have hRB : R ≠ B := by omega
 clear hcn hr2 hal hr hb1 hz1 hW hBB hW1 hR hmk
 go_loopw [12] (fun i wr => ∃ k : Nat, k <= 5 /\ i = .int .i64 k /\ Cn wr B P /\ Row5 wr R L /\ Below w.heap.size w wr) (fun i _ => 5 - (intOf i).toNat)
 case atStart => exact ⟨0, zak _, rfl, HCN.out, HRW.out, HB.out⟩
 case round =>
  obtain ⟨k, hk, rfl, hc, hr, hb⟩ := hrel
  have HC := zaa hc
  have HR := zaa hr
  have HBW := zaa hb
  clear hc hr hb HCN HRW HB
  by_cases hlk : k < 5
  · have hki : (k : Int) < 5 := by omega
    obtain ⟨WR1, rfl⟩ : ∃ m, m = wr := ⟨wr, rfl⟩
    go_wp2_with fail
    go_loopw [14] (fun i wr => ∃ a : Nat, a <= 5 /\ i = .int .i64 a /\ Cn wr B P /\ Row5 wr R L /\ Below w.heap.size w wr) (fun i _ => 5 - (intOf i).toNat)
    case atStart => exact ⟨0, zak _, rfl, HC.out, HR.out, HBW.out⟩
    case round =>
     obtain ⟨a, ha, rfl, hc, hr, hb⟩ := hrel
     have HC2 := zaa hc
     have HR2 := zaa hr
     have HBW2 := zaa hb
     clear hc hr hb HC HR HBW
     by_cases hla : a < 5
     · have hai : (a : Int) < 5 := by omega
       have ha0 : (0 : Int) <= (a : Int) := zaf _
       obtain ⟨WR2, rfl⟩ : ∃ m, m = wr := ⟨wr, rfl⟩
       go_wp2_with fail
       go_loopw [17] (fun i wr => ∃ b : Nat, b <= 5 /\ i = .int .i64 b /\ Cn wr B P /\ Row5 wr R L /\ Below w.heap.size w wr) (fun i _ => 5 - (intOf i).toNat)
       case atStart => exact ⟨0, zak _, rfl, HC2.out, HR2.out, HBW2.out⟩
       case round =>
        obtain ⟨b, hb, rfl, hc, hr, hbw⟩ := hrel
        have HC3 := zaa hc
        have HR3 := zaa hr
        have HBW3 := zaa hbw
        clear hc hr hbw HC2 HR2 HBW2
        by_cases hlb : b < 5
        · have hbi : (b : Int) < 5 := by omega
          have hb0 : (0 : Int) <= (b : Int) := zaf _
          obtain ⟨tb, e1, e2⟩ := HC3.out.cell b hlb
          obtain ⟨ta, g1, g2⟩ := HC3.out.cell a hla
          have hfz := HC3.out.fz b
          have hrc := HR3.out.cell a b hla hlb
          have HE2 := zaa e2
          have HG2 := zaa g2
          have hB3 := HC3.out.lt
          clear e2 g2
          rcases tb with _ | _
          · rcases ta with _ | _
            · go_wp2_with fail
              go_roundw
              case rel => exact ⟨b + 1, by omega, by go_num, HC3.out.set hlb false (fun h => by cases h), HR3.out.other hRB _, HBW3.out.setCell (p := ⟨B, b, none⟩) hwB _⟩
              case measure => simp [intOf]; omega
            · by_cases hpos : 0 < L a b
              · have HPO := zaa hpos
                go_wp2_with fail
                go_roundw
                case rel => exact ⟨b + 1, by omega, by go_num, HC3.out.set hlb true (fun _ => HST.out a b hla hlb (HG2.out rfl) HPO.out), HR3.out.other hRB _, HBW3.out.setCell (p := ⟨B, b, none⟩) hwB _⟩
                case measure => simp [intOf]; omega
              · go_wp2_with fail
                go_roundw
                case rel => exact ⟨b + 1, by omega, by go_num, HC3.out.set hlb false (fun h => by cases h), HR3.out.other hRB _, HBW3.out.setCell (p := ⟨B, b, none⟩) hwB _⟩
                case measure => simp [intOf]; omega
          · go_wp2_with fail
            go_roundw
            case rel => exact ⟨b + 1, by omega, by go_num, HC3.out.set hlb true (fun _ => HE2.out rfl), HR3.out.other hRB _, HBW3.out.setCell (p := ⟨B, b, none⟩) hwB _⟩
            case measure => simp [intOf]; omega
        · have hbi : ¬ (b : Int) < 5 := by omega
          go_wp2_with fail
          go_roundw
          case rel => exact ⟨a + 1, by omega, by go_num, HC3.out, HR3.out, HBW3.out⟩
          case measure => simp [intOf]; omega
     · have hai : ¬ (a : Int) < 5 := by omega
       go_wp2_with fail
       go_roundw
       case rel => exact ⟨k + 1, by omega, by go_num, HC2.out, HR2.out, HBW2.out⟩
       case measure => simp [intOf]; omega
  · have hki : ¬ (k : Int) < 5 := by omega
    go_wp2_with fail
    go_ret
    exact ⟨B, rfl, HC.out, HBW.out⟩
end
end Go.Proofs.YtojojpjldkpmoaaGreatDoor
