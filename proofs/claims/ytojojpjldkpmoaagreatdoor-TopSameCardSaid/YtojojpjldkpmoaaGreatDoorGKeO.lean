/-
  
-/
import Derived.Test.YtojojpjldkpmoaaGreatDoorGPaA
import Derived.Test.YtojojpjldkpmoaaGreatDoorGDoD
import Derived.Test.YtojojpjldkpmoaaGreatDoorGDoS
import Derived.Test.YtojojpjldkpmoaaGreatDoorGRibQ
import Derived.WalkSpells
import Derived.Lib.SliceRun
import Derived.Lib.QuietBelow
import Derived.Test.YtojojpjldkpmoaaGreatDoorGTbE
import Derived.Test.YtojojpjldkpmoaaGreatDoorGNwA
import Derived.Test.YtojojpjldkpmoaaGreatDoorGNtF
import Derived.Test.YtojojpjldkpmoaaGreatDoorGRibF
import Derived.Test.YtojojpjldkpmoaaGreatDoorGStQ
import Derived.Test.YtojojpjldkpmoaaGreatDoorGStG
import Derived.Test.YtojojpjldkpmoaaGreatDoorGDeD
import Derived.Test.YtojojpjldkpmoaaGreatDoorGStM
import Derived.Test.YtojojpjldkpmoaaGreatDoorGNtD
import Derived.Test.YtojojpjldkpmoaaGreatDoorGDoA
import Derived.Test.YtojojpjldkpmoaaGreatDoorGDoG
import Derived.Test.YtojojpjldkpmoaaGreatDoorGDoF
import Derived.Test.YtojojpjldkpmoaaGreatDoorGTaE
import Derived.Test.YtojojpjldkpmoaaGreatDoorGNtA
import Derived.Test.YtojojpjldkpmoaaGreatDoorGNwG
import Derived.Test.YtojojpjldkpmoaaGreatDoorGTxD
import Derived.Test.YtojojpjldkpmoaaGreatDoorGTbD
import Derived.Test.YtojojpjldkpmoaaGreatDoorGTbC
import Derived.Test.YtojojpjldkpmoaaGreatDoorGShf
import Derived.Deep.RegionHeld3
set_option linter.unusedVariables false
set_option linter.unusedSimpArgs false
set_option maxHeartbeats 16000000
namespace Go.Proofs.YtojojpjldkpmoaaGreatDoor
section
open Go Go.RowKit Go.Deep
def routeZ (Z : Nat) : Rep Route :=
 { size := 5, holds := fun w S cs r => routeR.holds w (fun k => S k /\ Z <= k) cs r
   len := fun h => routeR.len h
   one := fun h => routeR.one h
   keep := fun h k1 k2 => routeR.keep h (fun k hk => k1 k hk.1) (fun k hk => ⟨k2 k hk.1, hk.2⟩) }
theorem Sl.unZ {Z : Nat} {w : World} {v : Value} {xs : List Route} (h : Sl (routeZ Z) w v xs) : Sl routeR w v xs := by
 obtain ⟨A, c, rfl, h1, h2, h3⟩ := h
 refine ⟨A, c, rfl, h1, h2, fun i x hx => ?_⟩
 obtain ⟨b, off, cs, hA, hS, hb, hh, hc⟩ := h3 i x hx
 exact ⟨b, off, cs, hA, hS, hb, routeR.keep hh (fun _ _ => rfl) (fun _ hk => hk.1), hc⟩
theorem OwR.slZ {E base Z : Nat} {w : World} {v : Value} {xs : List Route} (h : OwR (routeZ Z) E base w v xs) (hZ : Z <= base) : SlF routeR Z w v xs := by
 obtain ⟨A, c, rfl, h1, h2, h3⟩ := h.sl (show 0 < 5 by decide)
 refine ⟨A, c, rfl, h1, h2, fun i x hx => ?_⟩
 obtain ⟨b, off, cs, rfl, hS, hb, hh, hc⟩ := h3 i x hx
 exact ⟨b, off, cs, rfl, ⟨hb, zaz hZ (h.base_le b rfl).1⟩, hb, hh, hc⟩
theorem wpList_routeZ {ops : Array Oper} {rest : List Oper} {o : Oper} {a : Act} {Q : Exit -> Act -> World -> Prop} {w : World} {base : Nat} (hgd : o.guard = none) (s x : Operand)
  (ho : o.op = .call { callee := .builtin .append, args := #[s, x], argTypes := #[47, 47] }) {v vh : Value} {xs : List Route} {r : Route} {S : Nat -> Prop} {Z : Nat}
  (hown : OwR (routeZ Z) 130 base w v xs) (hh : SlR intR w S vh r.hops) (hw : r.wf) (hS : ∀ k, S k -> k < w.heap.size /\ v.ownBlock ≠ some k /\ Z <= k) (hs : a.eval s = v)
  {B : Nat} (hx : a.eval x = .slice (some ⟨B, 0, none⟩) 1 1) (hB : B = w.heap.size) (hb : xs.length <= 1000000)
  (h : ∀ v' w', OwR (routeZ Z) 130 base w' v' (xs ++ [r]) -> GrowTo (w.alloc (.cells #[.int .i64 r.pre.addr, .int .i64 r.pre.bits, .bool r.here, .int .i64 r.cost, vh] 130)) v w' v' -> wpList Tryz.prog ops Q rest (a.put o.dst v') w') :
  wpList Tryz.prog ops Q (o :: rest) a (w.alloc (.cells #[.int .i64 r.pre.addr, .int .i64 r.pre.bits, .bool r.here, .int .i64 r.cost, vh] 130)) :=
 wpList_plain hgd fun _ hK => by
  subst hB
  have hone : SlR (routeZ Z) (w.alloc (.cells #[.int .i64 r.pre.addr, .int .i64 r.pre.bits, .bool r.here, .int .i64 r.cost, vh] 130)) (fun k => S k ∨ k = w.heap.size) (.slice (some ⟨w.heap.size, 0, none⟩) 1 1) [r] := by
   refine ⟨some ⟨w.heap.size, 0, none⟩, 1, rfl, by simp, by decide, fun i y hy => ?_⟩
   match i, hy with
   | 0, hy =>
     simp at hy; subst hy
     refine ⟨w.heap.size, 0, r.cells vh, rfl, .inr rfl, by simp, ⟨vh, rfl, SlR.keep hh (fun k hk => zbj _ _ _ (hS k hk).1) (fun k hk => ⟨.inl hk, (hS k hk).2.2⟩), hw⟩, fun j u hu => ?_⟩
     rw [zae _ _ _ _ rfl]
     simpa [Route.cells] using hu
   | i + 1, hy => simp at hy
  obtain ⟨v', w', hrun, r2, r3, r4⟩ := run_own_append (ty := o.type) elt_route (hown.alloc1 _) hone (fun cs y hy => (routeZ Z).keep hy (fun _ _ => rfl) (fun k hk => by
   rcases hk with hk | hk
   · have := hS k hk; exact ⟨by simp; omega, this.2.1⟩
   · subst hk; exact ⟨by simp, fun e => by have := (hown.base_le _ e).2; omega⟩)) (by unfold maxLen; simp; omega) (by simp; omega)
  unfold Oper.wp execOp
  simp only [ho, resolve, invoke, builtin, zbA, zbz, Result.andThen_ok, zbk, zaH, zbv, hs, hx, hrun]
  exact hK _ _ (h v' w' r2 (GrowTo.of_at r3 r4))
theorem OwR.setRouteZ {base Z : Nat} {w : World} {g n cap : Nat} {xs : List Route} (h : OwR (routeZ Z) 130 base w (.slice (some ⟨g, 0, none⟩) n cap) xs) {i : Nat} (hi : i < xs.length) {y : Route} {vy : Value}
  (hy : SlR intR w (fun k => k < w.heap.size /\ k ≠ g /\ Z <= k) vy y.hops) (hw : y.wf) :
  OwR (routeZ Z) 130 base (((((w.setCell ⟨g, i * 5, none⟩ (.int .i64 y.pre.addr)).setCell ⟨g, i * 5 + 1, none⟩ (.int .i64 y.pre.bits)).setCell ⟨g, i * 5 + 2, none⟩ (.bool y.here)).setCell ⟨g, i * 5 + 3, none⟩ (.int .i64 y.cost)).setCell ⟨g, i * 5 + 4, none⟩ vy) (.slice (some ⟨g, 0, none⟩) n cap) (xs.set i y) := by
 obtain ⟨css, c1, c2, c3⟩ := h.css
 have hvy : vy.oneCell' = true := by obtain ⟨A, c, rfl, _⟩ := hy; rfl
 have hi' : i < css.length := by omega
 have s0 := c3.setRaw (i := i) (j := 0) hi' (show 0 < 5 by decide) (u := .int .i64 y.pre.addr) rfl
 have s1 := s0.setRaw (i := i) (j := 1) (by simpa using hi') (show 1 < 5 by decide) (u := .int .i64 y.pre.bits) rfl
 have s2 := s1.setRaw (i := i) (j := 2) (by simpa using hi') (show 2 < 5 by decide) (u := .bool y.here) rfl
 have s3 := s2.setRaw (i := i) (j := 3) (by simpa using hi') (show 3 < 5 by decide) (u := .int .i64 y.cost) rfl
 have s4 := s3.setRaw (i := i) (j := 4) (by simpa using hi') (show 4 < 5 by decide) (u := vy) hvy
 obtain ⟨_, r2, _⟩ := OwR.to_raw c3
 obtain ⟨a, b, c, d, e, hc⟩ : ∃ a b c d e, css[i] = [a, b, c, d, e] := by
  have := (r2 _ (zas hi')).1
  match css[i], this with
  | [a, b, c, d, e], _ => exact ⟨a, b, c, d, e, rfl⟩
 simp only [List.set_set, List.getElem_set_self, hc, five_set, zbE] at s4
 have hblk : ∀ k, k ≠ g -> (((((w.setCell ⟨g, i * 5, none⟩ (.int .i64 y.pre.addr)).setCell ⟨g, i * 5 + 1, none⟩ (.int .i64 y.pre.bits)).setCell ⟨g, i * 5 + 2, none⟩ (.bool y.here)).setCell ⟨g, i * 5 + 3, none⟩ (.int .i64 y.cost)).setCell ⟨g, i * 5 + 4, none⟩ vy).heap[k]? = w.heap[k]? := by
  intro k hk
  rw [zai _ _ _ _ (by exact hk), zai _ _ _ _ (by exact hk), zai _ _ _ _ (by exact hk), zai _ _ _ _ (by exact hk), zai _ _ _ _ (by exact hk)]
 refine OwR.of_css (css := css.set i [.int .i64 y.pre.addr, .int .i64 y.pre.bits, .bool y.here, .int .i64 y.cost, vy]) (by simp [c1]) (fun m cs x hcs hx => ?_) s4
 have hsz : (((((w.setCell ⟨g, i * 5, none⟩ (.int .i64 y.pre.addr)).setCell ⟨g, i * 5 + 1, none⟩ (.int .i64 y.pre.bits)).setCell ⟨g, i * 5 + 2, none⟩ (.bool y.here)).setCell ⟨g, i * 5 + 3, none⟩ (.int .i64 y.cost)).setCell ⟨g, i * 5 + 4, none⟩ vy).heap.size = w.heap.size := by simp [World.setCell]
 by_cases e : m = i
 · subst e
   rw [zbw (by omega)] at hcs hx
   injection hcs with hcs; injection hx with hx
   subst hcs hx
   exact ⟨vy, rfl, SlR.keep hy (fun k hk => hblk k hk.2.1) (fun k hk => ⟨⟨by rw [hsz]; exact hk.1, fun e => by have e2 : g = k := Option.some.inj e; exact hk.2.1 e2.symm⟩, hk.2.2⟩), hw⟩
 · rw [zbD (fun x => e x.symm)] at hcs hx
   exact (routeZ Z).keep (c2 m cs x hcs hx) (fun k hk => hblk k (fun e2 => hk.2 (by rw [e2]; rfl))) (fun k hk => ⟨by rw [hsz]; exact hk.1, hk.2⟩)
theorem insertRouteZ_any (v : Value) (xs : List Route) (y : Route) (vy : Value) (i : Nat) (w : World) (vb base Z : Nat) (h : OwR (routeZ Z) 130 base w v xs) (hi : i <= xs.length) (hl : xs.length <= 1000)
  (hvb : w.heap[vb]? = some (.cells (y.cells vy).toArray 130 (0, 0))) (hne : v.ownBlock ≠ some vb) (hy : SlR intR w (fun k => (k < w.heap.size /\ v.ownBlock ≠ some k) /\ Z <= k) vy y.hops) (hw : y.wf) :
  Calls Tryz.prog 123 #[v, .int .i64 (i : Nat), .slice (some ⟨vb, 0, none⟩) 1 1] w fun e w' => ∃ v', e = .returned v' /\ OwR (routeZ Z) 130 base w' v' (xs.take i ++ y :: xs.drop i) /\ GrowTo w v w' v' := by
 obtain ⟨css, c1, c2, c3⟩ := h.css
 have hvy : vy.oneCell' = true := by obtain ⟨A, c, rfl, _⟩ := hy; rfl
 have hraw : RawK 5 (y.cells vy) := ⟨rfl, fun u hu => by
  simp [Route.cells] at hu
  rcases hu with rfl | rfl | rfl | rfl | rfl
  · rfl
  · rfl
  · rfl
  · rfl
  · exact hvy⟩
 refine (insert_anyR v css (y.cells vy) i w vb base c3 (by omega) (by omega) hvb hne hraw).mono ?_
 rintro e w' ⟨v', rfl, ho, hg⟩
 refine ⟨v', rfl, OwR.of_css (by simp [c1]) (fun m cs x hcs hx => ?_) ho, hg⟩
 have hblk : ∀ k, (k < w.heap.size /\ v.ownBlock ≠ some k) -> w'.heap[k]? = w.heap[k]? := fun k hk => hg.grown.block k hk.1 (fun e => hk.2 e.symm)
 have hsub : ∀ k, (k < w.heap.size /\ v.ownBlock ≠ some k) -> (k < w'.heap.size /\ v'.ownBlock ≠ some k) := fun k hk =>
  ⟨zan hk.1 hg.grown.size, fun e => by
   rcases hg.own k e with h1 | h1
   · exact hk.2 h1
   · omega⟩
 by_cases h1 : m < i
 · rw [zba (by rw [zaq]; omega), zbb, if_pos h1] at hcs hx
   exact (routeZ Z).keep (c2 m cs x hcs hx) hblk hsub
 · rw [zaR (by rw [zaq]; omega), zaq, Nat.min_eq_left (by omega)] at hcs hx
   by_cases h2 : m = i
   · subst h2
     rw [Nat.sub_self] at hcs hx
     simp at hcs hx
     subst hcs hx
     exact ⟨vy, rfl, SlR.keep hy (fun k hk => hblk k hk.1) (fun k hk => ⟨hsub k hk.1, hk.2⟩), hw⟩
   · obtain ⟨q, hq⟩ : ∃ q, m - i = q + 1 := ⟨m - i - 1, by omega⟩
     rw [hq, zam, zbQ] at hcs hx
     exact (routeZ Z).keep (c2 _ cs x hcs hx) hblk hsub
def PatZ (xs set : List Route) (gone : List Prefix) (w : World) (e : Ending) (w' : World) : Prop :=
 ∃ v, e = .returned (.tuple #[v, .int .i64 (chkRoutes (patchTo xs set gone))]) /\ SlF routeR w.heap.size w' v (patchL xs set gone) /\ Below w.heap.size w w'
theorem below_growZ {B Z : Nat} {a w w' : World} {v v' : Value} {E : TypeId} {xs : List Route} (h : Below B a w) (ho : OwR (routeZ Z) E B w v xs) (hg : GrowTo w v w' v') : Below B a w' :=
 h.grown hg.grown ho.choose_spec.2.2.2 (fun k hk => (ho.base_le k hk).1)
set_option maxRecDepth 100000 in
theorem patchZ_any (v1 v2 v3 : Value) (xs set : List Route) (gone : List Prefix) (w : World) (h1 : Sl routeR w v1 xs) (h2 : Sl routeR w v2 set) (h3 : Sl prefR w v3 gone) (hc : chkRoutes xs = 0) (hset : ∀ r ∈ set, FineR r) (hsl : set.length <= 400) :
  Calls Tryz.prog 69 #[v1, v2, v3] w (PatZ xs set gone w) := by
 have hlen := h2.len_le
 have hlen1 := h1.len_le
 have hxl := (routes_ok hc).1
 have hxf : ∀ r ∈ xs, FineR r := fun r hr => by
  obtain ⟨i, hi, rfl⟩ := zaj hr
  obtain ⟨b1, b2⟩ := routeBad_iff ((routes_ok hc).2 i hi)
  obtain ⟨A, c, hv⟩ := h1.form
  obtain ⟨_, _, hA, _⟩ := (hv ▸ h1).at_ hi
  subst hv; subst hA
  obtain ⟨_, _, _, _, _, _, _, hw⟩ := h1.route hi
  exact ⟨b1, b2, hw⟩
 have hxo : SortedR xs := zaF.2 fun i j hi hj hij => routes_ord hc hij hj
 obtain ⟨A1, c1, rfl⟩ := h1.form
 obtain ⟨A2, c2, rfl⟩ := h2.form
 obtain ⟨A3, c3, rfl⟩ := h3.form
 have H1 := zaa h1
 have H2 := zaa h2
 have H3 := zaa h3
 have HXF := zaa hxf
 have HXO := zaa hxo
 have HSF := zaa hset
 have HCK := zaa hc
 have HP := zaa (fun k => fold_putR (P := FineR) (set.take k) (xs.filter fun r => !inP gone r.pre) (hxo.sublist List.filter_sublist) (fun x hx => hxf x (zaY.1 hx).1) (fun x hx => hset x (zbh hx)))
 clear h1 h2 h3 hxf hxo hset hc
 go_enter Tryz.func69, Tryz.ntmps69
 go_wp2_with fail
 refine (ribCheck_any _ xs _ H1.out).mono ?_
 rintro r w1 ⟨rfl, hb1⟩
 have HB1 := zaa hb1
 have hz1 := hb1.size
 rw [HCK.out]
 clear hb1
 go_wp2_with fail
 go_loopw [9, 11, 24] (fun s9 _ s24 wr => ∃ k : Nat, k <= xs.length /\ s24 = .int .i64 k /\ OwR (routeZ w.heap.size) 130 w.heap.size wr s9 ((xs.take k).filter fun r => !inP gone r.pre) /\ Below w.heap.size w wr) (fun _ _ s24 _ => xs.length - (intOf s24).toNat)
 case atStart => exact ⟨0, zak _, rfl, OwR.nil _ _ HB1.out.size, HB1.out⟩
 case round =>
  obtain ⟨k, hk, rfl, hown, hB⟩ := hrel
  have HO := zaa hown
  have HB := zaa hB
  have hez := hB.size
  by_cases hlt : k < xs.length
  · obtain ⟨b, off, rfl, hb⟩ := H1.out.at_ hlt
    obtain ⟨vh, f1, f2, f3, f4, f5, hs, hrw⟩ := (H1.out.below hB).route hlt
    have hst := rest_to (gone := gone) hlt
    have hhl := (HXF.out _ (zas hlt)).len
    obtain ⟨y, hy⟩ : ∃ y, xs[k] = y := ⟨_, rfl⟩
    rw [hy] at f1 f2 f3 f4 hs hrw hst hhl
    have HRW := zaa hrw
    have HSET := zaa hst
    have hba : Below wr.heap.size wr (wr.alloc (.cells #[.int .i64 y.pre.addr, .int .i64 y.pre.bits, .bool y.here, .int .i64 y.cost, vh] 130)) := (zad _ _).alloc (zab _) _
    have HCON := zaa (conPref_any (.slice A3 gone.length c3) gone y.pre _ ((H3.out.below hB).below hba))
    have HS := zaa (hs.below hba)
    obtain ⟨Ah, ch, hvh⟩ := hs.form
    subst hvh
    have HHL := zaa hhl
    have r0 : (0 : Int) <= (k : Int) := zaf _
    have r1 : (k : Int) < (xs.length : Int) := by omega
    clear hown hB hy hrw hst hba hs hhl
    go_wp2_with fail
    refine HCON.out.mono ?_
    rintro e w3 ⟨rfl, hb3⟩
    obtain ⟨hA, hN, hM, hS⟩ := pastAlloc hb3
    have HB3 := zaa (HB.out.trans (hA.mono hez))
    have HO3 := zaa (HO.out.keep hA)
    have HS3 := zaa (HS.out.below hb3)
    clear hb3 hA f1 f2 f3 f4 f5
    rcases hin : inP gone y.pre with _ | _
    · have HIN := zaa hin
      obtain ⟨hh, hhe⟩ : ∃ l, y.hops = l := ⟨_, rfl⟩
      have HCP := zaa (copied_any y _ w3 HS3.out (by have := HHL.out; omega))
      rw [hhe] at HCP hN ⊢
      clear hin hhe
      go_wp2_with fail
      refine HCP.out.mono ?_
      rintro e w4 ⟨v4, rfl, ho4, hb4⟩
      have HO4 := zaa (HO3.out.keep hb4)
      have HB4 := zaa (HB3.out.trans (hb4.mono HB3.out.size))
      have HH4 := zaa ho4.slC
      have HKS := zaa (show ∀ k, (k < w4.heap.size /\ w3.heap.size <= k) -> k < w4.heap.size /\ u9.ownBlock ≠ some k /\ w.heap.size <= k from fun k hk => ⟨hk.1, fun e => by have := (HO3.out.base_le _ e).2; omega, zaz HB3.out.size hk.2⟩)
      have HFL := zaa (show ((xs.take k).filter fun r => !inP gone r.pre).length <= 1000000 by have := filt_len (fun r => !inP gone r.pre) xs k; omega)
      clear ho4 hb4 hN hM
      go_wp2_with (at_builtin; refine wpList_routeZ (Z := w.heap.size) (w := w4) (base := w.heap.size) (r := y) rfl (.tmp 33) (.tmp 36) rfl HO4.out HH4.out HRW.out HKS.out rfl rfl (by first | rfl | simp) HFL.out ?_; intro v5 w5 ho5 hg5)
      go_roundw
      case rel =>
       refine ⟨k + 1, by omega, by go_num, ?_, (HB4.out.alloc HB4.out.size _).grown hg5.grown (by simp; have := HB4.out.size; omega) (fun q e => (HO4.out.base_le q e).1)⟩
       rw [HSET.out, if_neg (by rw [HIN.out]; simp)]
       exact ho5
      case measure => simp [intOf]; omega
    · have HIN := zaa hin
      clear hin
      go_wp2_with fail
      go_roundw
      case rel =>
       refine ⟨k + 1, by omega, by go_num, ?_, HB3.out⟩
       rw [HSET.out, if_pos HIN.out, zbq]
       exact HO3.out
      case measure => simp [intOf]; omega
  · obtain rfl : k = xs.length := by omega
    rw [zaP] at hown
    obtain ⟨L, hL⟩ : ∃ L, L = xs.filter fun r => !inP gone r.pre := ⟨_, rfl⟩
    rw [<- hL] at hown HP
    have HLL := zaa (show L.length <= 200 by rw [hL]; exact zaz (zbP _ _) hxl)
    have HL := zaa (show patchTo xs set gone = set.foldl putR L by rw [hL]; rfl)
    have HO1 := zaa hown
    clear hown hB hL HO
    go_wp2_with fail
    go_loopw [9, 13, 14, 15, 41] (fun s9 _ _ _ s41 wq => ∃ k : Nat, k <= set.length /\ s41 = .int .i64 k /\ OwR (routeZ w.heap.size) 130 w.heap.size wq s9 ((set.take k).foldl putR L) /\ Below w.heap.size w wq) (fun _ _ _ _ s41 _ => set.length - (intOf s41).toNat)
    case atStart => exact ⟨0, zak _, rfl, HO1.out, HB.out⟩
    case round =>
     obtain ⟨k, hk, rfl, hown, hBq⟩ := hrel
     have HO := zaa hown
     have HBQ := zaa hBq
     have hezq := hBq.size
     obtain ⟨A9, n9, c9, rfl⟩ := ow_form hown (show 0 < 5 by decide)
     obtain ⟨p1, p2, p3⟩ := HP.out k
     have hpl : ((set.take k).foldl putR L).length <= 600 := by have := HLL.out; rw [zaq] at p3; omega
     by_cases hlt : k < set.length
     · have hsuc := foldl_take putR L set hlt
       obtain ⟨M, hM⟩ : ∃ M, M = (set.take k).foldl putR L := ⟨_, rfl⟩
       rw [<- hM] at HO hown p1 p2 hpl hsuc
       clear hM p3
       obtain ⟨b, off, rfl, hb⟩ := H2.out.at_ hlt
       obtain ⟨vh, f1, f2, f3, f4, f5, hs, hrw⟩ := (H2.out.below hBq).route hlt
       have hfy := HSF.out _ (zas hlt)
       obtain ⟨y, hy⟩ : ∃ y, set[k] = y := ⟨_, rfl⟩
       rw [hy] at f1 f2 f3 f4 hs hrw hfy hsuc
       have HRW := zaa hrw
       have HSUC := zaa hsuc
       have HFY := zaa hfy
       have hba : Below wr.heap.size wr (wr.alloc (.cells #[.int .i64 y.pre.addr, .int .i64 y.pre.bits, .bool y.here, .int .i64 y.cost, vh] 130)) := (zad _ _).alloc (zab _) _
       have HBS := zaa (bsearchRP_any (.slice A9 n9 c9) M y.pre _ ((hown.keep hba).sl (show 0 < 5 by decide)).unZ p1 (fun x hx => (p2 x hx).pre) hfy.pre (by omega))
       have HS := zaa (hs.below hba)
       have HML := zaa hpl
       have HMS := zaa p1
       obtain ⟨Ah, ch, hvh⟩ := hs.form
       subst hvh
       have r0 : (0 : Int) <= (k : Int) := zaf _
       have r1 : (k : Int) < (set.length : Int) := by omega
       clear hown hBq hy hrw hsuc hba hs hfy p1 p2 hpl
       go_wp2_with fail
       refine HBS.out.mono ?_
       rintro e w3 ⟨rfl, hb3⟩
       obtain ⟨hA, hN, hM, hS⟩ := pastAlloc hb3
       have HB3 := zaa (HBQ.out.trans (hA.mono hezq))
       have HO3 := zaa (HO.out.keep hA)
       have HS3 := zaa (HS.out.below hb3)
       have HCP := zaa (copied_any y _ w3 HS3.out (by have := HFY.out.len; omega))
       obtain ⟨hh, hhe⟩ : ∃ l, y.hops = l := ⟨_, rfl⟩
       have HHE := zaa hhe
       rw [hhe] at HCP hN ⊢
       clear hb3 hA f1 f2 f3 f4 f5 hhe
       rcases hin : hasP M y.pre with _ | _
       · have HAD := zaa (putR_no HMS.out hin)
         have hlb := tw_le (fun x : Route => prefOrd x.pre y.pre) M
         clear hin
         go_wp2_with fail
         refine HCP.out.mono ?_
         rintro e w4 ⟨v4, rfl, ho4, hb4⟩
         obtain ⟨A4, n4, c4, rfl⟩ := ow_form ho4 (by decide)
         have HO4 := zaa (HO3.out.keep hb4)
         have HB4 := zaa (HB3.out.trans (hb4.mono HB3.out.size))
         have hal := (zad w4.heap.size w4).alloc (zab _) (.cells #[.int .i64 y.pre.addr, .int .i64 y.pre.bits, .bool y.here, .int .i64 y.cost, .slice A4 n4 c4] 130)
         have hh4 := SlR.keep (w' := w4.alloc (.cells #[.int .i64 y.pre.addr, .int .i64 y.pre.bits, .bool y.here, .int .i64 y.cost, .slice A4 n4 c4] 130)) (S' := fun q => (q < (w4.alloc (.cells #[.int .i64 y.pre.addr, .int .i64 y.pre.bits, .bool y.here, .int .i64 y.cost, .slice A4 n4 c4] 130)).heap.size /\ (Value.slice A9 n9 c9).ownBlock ≠ some q) /\ w.heap.size <= q) ho4.slC (fun q hq => zbj _ _ _ hq.1) (fun q hq => ⟨⟨by simp; omega, fun e => by have h5 := (HO3.out.base_le _ e).2; have h6 : w3.heap.size <= q := hq.2; omega⟩, zaz HB3.out.size hq.2⟩)
         have HIN := zaa (insertRouteZ_any (.slice A9 n9 c9) M y (.slice A4 n4 c4) (lbP M y.pre) _ w4.heap.size w.heap.size w.heap.size (HO4.out.keep hal) hlb (by have := HML.out; omega) (heap_alloc_new w4 _) (fun e => by have := (HO4.out.base_le _ e).2; omega) hh4 HRW.out)
         have HBA := zaa (HB4.out.trans (hal.mono HB4.out.size))
         have HOA := zaa (HO4.out.keep hal)
         clear ho4 hb4 hN hM hal hh4 hlb
         go_wp2_with fail
         refine HIN.out.mono ?_
         rintro e w5 ⟨v5, rfl, ho5, hg5⟩
         have HO5 := zaa ho5
         have HB5 := zaa (below_growZ HBA.out HOA.out hg5)
         clear ho5 hg5
         go_wp2_with fail
         go_roundw
         case rel => exact ⟨k + 1, by omega, by go_num, by rw [HSUC.out, HAD.out]; exact HO5.out, HB5.out⟩
         case measure => simp [intOf]; omega
       · obtain ⟨hil, hadd⟩ := putR_yes HMS.out hin
         have HAD := zaa hadd
         obtain ⟨i, hi⟩ : ∃ i, i = lbP M y.pre := ⟨_, rfl⟩
         rw [<- hi] at hil HAD ⊢
         clear hin hadd hi
         go_wp2_with fail
         refine HCP.out.mono ?_
         rintro e w4 ⟨v4, rfl, ho4, hb4⟩
         obtain ⟨A4, n4, c4, rfl⟩ := ow_form ho4 (by decide)
         have HO4 := zaa (HO3.out.keep hb4)
         have HB4 := zaa (HB3.out.trans (hb4.mono HB3.out.size))
         have hh4 := ho4.slC
         have hn9 : n9 = M.length := by obtain ⟨A, c, e⟩ := HO4.out.form; injection e
         subst hn9
         obtain ⟨g, hgA, hgo, hgw, hfz⟩ : ∃ g, A9 = some ⟨g, 0, none⟩ /\ w.heap.size <= g /\ g < w3.heap.size /\ (∀ j, w4.frozen? ⟨g, j, none⟩ = false) := by
          obtain ⟨css, d1, _, d3, _⟩ := HO4.out
          rcases d3.2 with ⟨_, h0⟩ | ⟨g, cap, cur, e, hbg, hgc, _⟩
          · omega
          · injection e with e1 _ _
            subst e1
            exact ⟨g, rfl, hbg, (HO3.out.base_le g rfl).2, fun j => d3.frozenAt j⟩
         subst hgA
         obtain ⟨vx, g1, g2, g3, g4, g5, _⟩ := (HO4.out.sl (show 0 < 5 by decide)).unZ.route hil
         simp only [zaM] at g1 g2 g3 g4 g5
         have HRT := zaa (OwR.setRouteZ (w := w4) (y := y) (vy := .slice A4 n4 c4) HO4.out hil (SlR.keep (S' := fun q => q < w4.heap.size /\ q ≠ g /\ w.heap.size <= q) hh4 (fun _ _ => rfl) (fun q hq => ⟨hq.1, fun e => by have h6 : w3.heap.size <= q := hq.2; omega, zaz HB3.out.size hq.2⟩)) HRW.out)
         have HG5 := zaa (below_growZ HB4.out HO4.out (grow5 w4 (v := .slice (some ⟨g, 0, none⟩) M.length c9) rfl (i * 5) (i * 5 + 1) (i * 5 + 2) (i * 5 + 3) (i * 5 + 4) (.int .i64 y.pre.addr) (.int .i64 y.pre.bits) (.bool y.here) (.int .i64 y.cost) (.slice A4 n4 c4)))
         have hii : (i : Int) < (M.length : Int) := by omega
         have hi0 : (0 : Int) <= (i : Int) := zaf i
         clear ho4 hb4 hN hM hh4
         go_wp2_with fail
         go_roundw
         case rel => exact ⟨k + 1, by omega, by go_num, by rw [HSUC.out, HAD.out]; exact HRT.out, HG5.out⟩
         case measure => simp [intOf]; omega
     · obtain rfl : k = set.length := by omega
       rw [zaP, <- HL.out] at hown
       have HS9 := zaa (hown.slZ (zab _))
       have HCH := zaa (ribCheck_any (.slice A9 n9 c9) (patchTo xs set gone) wr HS9.out.sl)
       obtain ⟨M, hM⟩ : ∃ M, M = patchTo xs set gone := ⟨_, rfl⟩
       have HM := zaa hM
       rw [<- hM] at HS9 HCH
       clear hown hBq p1 p2 p3 hpl hM HO HP
       go_wp2_with fail
       refine HCH.out.mono ?_
       rintro e w5 ⟨rfl, hb5⟩
       have HB5 := zaa (HBQ.out.trans (hb5.mono hezq))
       have HS5 := zaa (HS9.out.below hb5)
       clear hb5
       by_cases hck : chkRoutes M = 0
       · have hckb : (chkRoutes M != 0) = false := by rw [hck]; rfl
         have HK := zaa hck
         clear hck
         go_wp2_with fail
         go_ret2
         exact ⟨.slice A9 n9 c9, by rw [<- HM.out, HK.out]; rfl, by unfold patchL; rw [<- HM.out, if_pos HK.out]; exact HS5.out, HB5.out⟩
       · have hckb : (chkRoutes M != 0) = true := by simpa using hck
         have HK := zaa hck
         clear hck
         go_wp2_with fail
         go_ret2
         exact ⟨.slice none 0 0, by rw [<- HM.out]; rfl, by unfold patchL; rw [<- HM.out, if_neg HK.out]; exact SlF.nil _ _ _, HB5.out⟩
theorem sizes_of {xs : List Entry} (h : checkS xs = 0) : ∀ e ∈ xs, e.key.size < 4294967281 /\ e.value.size < 4294967281 := by
 intro e he
 have h1 := (okS_of h).ok e he
 unfold entryOk keyOk at h1
 simp only [Bool.and_eq_true, decide_eq_true_eq] at h1
 omega
theorem gph_there (w : World) (B : Nat) (hB : B = w.heap.size) (T : TypeId) : (w.alloc (.cells Tryz.zeroCells178 T)).there B 0 168 := by
 intro j hj
 rw [zaM]
 refine ⟨?_, zaD _ _ _ _ hB⟩
 rw [zae _ _ _ _ hB, <- Array.getElem?_toList, zero_gph]
 rw [zac (by rw [zlen]; exact hj)]; rfl
def tableS (xs : List Entry) (f : Int) : List Route × Int := if checkS xs ≠ 0 then ([], checkS xs) else if decide (0 <= f) && decide (f <= 11) then (tabTo xs f.toNat 12, 0) else ([], 2)
def TabPost (r : List Route × Int) (w : World) (e : Ending) (w' : World) : Prop := ∃ v, e = .returned (.tuple #[v, .int .i64 r.2]) /\ OwR routeR 130 w.heap.size w' v r.1 /\ Below w.heap.size w w'
theorem tb_fin {r : List Route × Int} {w w' : World} {v : Value} {l : List Route} {n : Int} (h : r = (l, n)) (hs : OwR routeR 130 w.heap.size w' v l) (hb : Below w.heap.size w w') : TabPost r w (.returned (.tuple #[v, .int .i64 n])) w' := ⟨v, by rw [h], by rw [h]; exact hs, hb⟩
theorem owR5_form {E base : Nat} {w : World} {v : Value} {xs : List Route} (h : OwR routeR E base w v xs) : ∃ A n c, v = .slice A n c := by
 obtain ⟨A, c, e⟩ := h.form
 exact ⟨A, _, c, e⟩
theorem below_grow {B : Nat} {a w w' : World} {v v' : Value} {E : TypeId} {xs : List Route} (h : Below B a w) (ho : OwR routeR E B w v xs) (hg : GrowTo w v w' v') : Below B a w' :=
 h.grown hg.grown ho.choose_spec.2.2.2 (fun k hk => (ho.base_le k hk).1)
theorem waysTo_at {xs : List Entry} {s n k : Nat} (h : k < (waysTo xs s n).length) : (waysTo xs s n)[k] = wayTo xs s k := by simp [waysTo]
set_option maxRecDepth 50000 in
theorem table_any (v : Value) (xs : List Entry) (f : Int) (w : World) (h : Sl entR w v xs) (hf : inR f) (hE : Env w) :
  Calls Tryz.prog 67 #[v, .int .i64 f] w (TabPost (tableS xs f) w) := by
 have HC := zaa (check_any v xs w h)
 obtain ⟨A, c, rfl⟩ := h.form
 have H := zaa h
 have HE := zaa hE
 unfold inR at hf
 clear h hE
 by_cases hc : checkS xs = 0
 · have hc0 : (checkS xs != 0) = false := by simp [hc]
   by_cases h0 : f < 0
   · have HW := zaa (show tableS xs f = ([], 2) by
      unfold tableS; rw [if_neg (by simp [hc]), if_neg]; simp; omega)
     clear hc
     go_enter Tryz.func67, Tryz.ntmps67
     go_wp2_with (go_at_call 63; refine HC.out.mono ?_; rintro e w1 ⟨rfl, hb1⟩)
     go_ret2
     exact tb_fin HW.out (OwR.nil _ _ hb1.size) hb1
   · by_cases h11 : 11 < f
     · have HW := zaa (show tableS xs f = ([], 2) by
        unfold tableS; rw [if_neg (by simp [hc]), if_neg]; simp; omega)
       have h12 : 12 <= f := by omega
       clear hc
       go_enter Tryz.func67, Tryz.ntmps67
       go_wp2_with (go_at_call 63; refine HC.out.mono ?_; rintro e w1 ⟨rfl, hb1⟩)
       go_ret2
       exact tb_fin HW.out (OwR.nil _ _ hb1.size) hb1
     · obtain ⟨s, rfl, hs⟩ : ∃ s : Nat, f = s /\ s < 12 := ⟨f.toNat, by omega, by omega⟩
       have HW := zaa (show tableS xs s = (tabTo xs s 12, 0) by
        unfold tableS; rw [if_neg (by simp [hc]), if_pos (by simp; omega)]; rfl)
       have HCK := zaa hc
       have h12 : ¬ (12 : Int) <= (s : Int) := by omega
       clear hc
       go_enter Tryz.func67, Tryz.ntmps67
       go_wp2_with (go_at_call 63; refine HC.out.mono ?_; rintro e w1 ⟨rfl, hb1⟩; have HB1 := zaa hb1; clear hb1)
       have HG1 := zaa (gread_any (.slice A xs.length c) xs w1.heap.size w1 (w1.alloc (.cells Tryz.zeroCells178 178)) (H.out.below HB1.out) (sizes_of HCK.out) (HE.out.below HB1.out) ((zad _ _).alloc (zab _) _) (zab _) (gph_there w1 _ rfl _) (by simp) (fun o => zaD _ _ _ _ rfl))
       refine HG1.out.mono ?_
       rintro e w2 ⟨rfl, hg2, hb2⟩
       have HG2 := zaa hg2
       have HB2 := zaa hb2
       have HLT := zaa hg2.lt
       obtain ⟨G, hG⟩ : ∃ G, G = w1.heap.size := ⟨_, rfl⟩
       rw [<- hG] at HG2 HLT
       rw [<- hG]
       have HGB := zaa (show w.heap.size <= G by rw [hG]; exact HB1.out.size)
       clear hg2 hb2 HG1 hG
       obtain ⟨gl1, gl2⟩ := graphS_links HCK.out
       have HG3 := zaa (HG2.out.eq (g' := ⟨fun a b => (linkC xs a b : Nat), fun a => (adjAt xs a).1, fun a => prefsAt xs a⟩) (fun a b ha hb => (gl1 a b ha hb).symm) (fun a ha => (gl2 a ha).symm) (fun a ha => (graphS_prefs HCK.out a ha).symm))
       have HGW := zaa (gways_any w2.heap.size G ⟨fun a b => (linkC xs a b : Nat), fun a => (adjAt xs a).1, fun a => prefsAt xs a⟩ (fun a b => linkC xs a b) s w2 ⟨HG3.out, HLT.out, rfl, fun _ _ _ _ => rfl, fun a b => linkC_le xs a b⟩ hs)
       clear gl1 gl2 HG2
       go_wp2_with fail
       refine HGW.out.mono ?_
       rintro e w3 ⟨v3, st, R, rfl, hs3, hb3, hi, hcv, hh⟩
       rw [show (List.range 12).map (outW st) = waysTo xs s 12 from List.map_congr_left (fun q hq => ways_agree hs (fun a b => rfl) (fun a => rfl) hi hcv hh (zbn.1 hq))] at hs3
       have HB3 := zaa ((HB1.out.trans (HB2.out.mono HB1.out.size)).trans (hb3.mono (by have := HB1.out.size; have := HB2.out.size; omega)))
       have HG4 := zaa (HG3.out.below hb3)
       obtain ⟨A3, c3, hv3⟩ := hs3.form
       rw [waysTo_len] at hv3
       subst hv3
       have HS3 := zaa hs3
       clear hs3 hb3 hi hcv hh HGW HG3 HLT HB1 HB2
       go_wp2_with fail
       go_loopw [8, 33] (fun o i wr => ∃ k : Nat, k <= 12 /\ i = .int .i64 k /\ OwR routeR 130 w3.heap.size wr o (tabTo xs s k) /\ Below w3.heap.size w3 wr) (fun _ i _ => 12 - (intOf i).toNat)
       case atStart => exact ⟨0, zak _, rfl, OwR.nil _ _ (zab _), zad _ _⟩
       case round =>
        obtain ⟨k, hk, rfl, ho, hb⟩ := hrel
        have HO := zaa ho
        have HB := zaa hb
        clear ho hb
        by_cases hlt : k < 12
        · have hki : (k : Int) < 12 := by omega
          have hk0 : (0 : Int) <= (k : Int) := zaf k
          obtain ⟨bw, offw, rfl, hbw⟩ := HS3.out.at_ (by rw [waysTo_len]; exact hlt)
          obtain ⟨vh, g1, g2, f3, f4⟩ := HS3.out.way (k := k) (by rw [waysTo_len]; exact hlt)
          rw [waysTo_at] at g1 f3 f4
          have f1 := cell_keep HB.out g1
          have f2 := cell_keep HB.out g2
          clear g1 g2
          have HF3 := zaa f3
          obtain ⟨Ah, nh, ch, rfl⟩ : ∃ A n c, vh = .slice A n c := by obtain ⟨A, c, e⟩ := f3.form; exact ⟨A, _, c, e⟩
          obtain ⟨vp, p1, p2⟩ := HG4.out.prf k hlt
          have HPF := zaa (show Sl prefR w3 vp (prefsAt xs k) from SlF.sl p2)
          obtain ⟨Ap, cp, hvp, _⟩ := p2
          have hpn : (prefsAt xs k).length <= 6 := (prefs_fine (prefsAt_chk xs k)).1
          subst hvp
          have hgl : G < wr.heap.size := zan HG4.out.lt HB.out.size
          have hgn1 : ¬ G = wr.heap.size := by omega
          have hgn2 : ¬ wr.heap.size = G := by omega
          have p1 := cell_keep HB.out p1
          have p3 : (wr.alloc (.cells #[.int .i64 (wayTo xs s k).cost, .slice Ah nh ch] 152)).cell? ⟨G, 156 + k, none⟩ = some (.slice Ap (prefsAt xs k).length cp) := cell_keep ((zad _ _).alloc (zab _) _) p1
          have hbx : WBox (wr.alloc (.cells #[.int .i64 (wayTo xs s k).cost, .slice Ah nh ch] 152)) wr.heap.size (wayTo xs s k).cost (.slice Ah nh ch) := by
           refine ⟨?_, ?_, fun i => zaD _ _ _ _ rfl, by simp⟩
           · rw [zae _ _ _ _ rfl]; rfl
           · rw [zae _ _ _ _ rfl]; rfl
          have hal := (zad wr.heap.size wr).alloc (zab _) (.cells #[.int .i64 (wayTo xs s k).cost, .slice Ah nh ch] 152)
          have HX := zaa hbx
          have HO1 := zaa (HO.out.keep hal)
          have HB1 := zaa (HB.out.trans (hal.mono HB.out.size))
          clear hbx hal
          go_wp2_with fail
          clear p1 p3 f1 f2 hgl hgn1 hgn2
          have hne0 : ∀ o, OwR routeR 130 w3.heap.size wr o (tabTo xs s k) -> o.ownBlock ≠ some wr.heap.size := fun o h e => by have := (h.base_le _ e).2; omega
          have HNE := zaa (hne0 _ HO.out)
          have HB3S := zaa (show w3.heap.size <= wr.heap.size from HB.out.size)
          obtain ⟨W4, hW4⟩ : ∃ x, x = wr.alloc (.cells #[.int .i64 (wayTo xs s k).cost, .slice Ah nh ch] 152) := ⟨_, rfl⟩
          rw [<- hW4] at HX HO1 HB1
          rw [<- hW4]
          obtain ⟨WB, hWB⟩ : ∃ x, x = wr.heap.size := ⟨_, rfl⟩
          rw [<- hWB] at HX HNE HB3S
          rw [<- hWB]
          have HWP := zaa (way_le xs hs hlt)
          clear hW4 hWB hne0 HO HB
          go_loopw [8, 45] (fun o j wr5 => ∃ m : Nat, m <= (prefsAt xs k).length /\ j = .int .i64 m /\ OwR routeR 130 w3.heap.size wr5 o (rowN xs s k (tabTo xs s k) ((prefsAt xs k).take m)) /\ o.ownBlock ≠ some WB /\ WBox wr5 WB (wayTo xs s k).cost (.slice Ah nh ch) /\ Below w3.heap.size w3 wr5) (fun _ j _ => (prefsAt xs k).length - (intOf j).toNat)
          case atStart => exact ⟨0, zak _, rfl, by simpa [rowN] using HO1.out, HNE.out, HX.out, HB1.out⟩
          case round =>
           obtain ⟨m, hm, rfl, ho, hne, hbx, hb⟩ := hrel
           have HO := zaa ho
           have HB := zaa hb
           clear HX HO1 HB1 HNE
           have HNE := zaa hne
           have HX := zaa hbx
           clear ho hb hne hbx
           by_cases hml : m < (prefsAt xs k).length
           · have hmi : (m : Int) < ((prefsAt xs k).length : Int) := by omega
             obtain ⟨bp, offp, hAp, hbp⟩ := HPF.out.at_ hml
             subst hAp
             obtain ⟨q1, q2, q3, q4⟩ := (HPF.out.below HB.out).pref hml
             have HRW := zaa (show rowN xs s k (tabTo xs s k) ((prefsAt xs k).take (m + 1)) = addN xs s k (rowN xs s k (tabTo xs s k) ((prefsAt xs k).take m)) (prefsAt xs k)[m] by
              unfold rowN; rw [zar hml, zcc]; rfl)
             obtain ⟨hpl, hpb, hpo⟩ := prefs_fine (prefsAt_chk xs k)
             have hsr := row_find (xs := xs) (s := s) (n := k) ((prefsAt xs k).take m) _ (sorted_tab xs s k) (hpo.sublist (List.take_sublist _ _))
             have hgr := good_row (xs := xs) hs hlt ((prefsAt xs k).take m) (tabTo xs s k) (fun q hq => hpb q (zbh hq)) (good_tab (xs := xs) hs k (by omega))
             have hlr := len_row (xs := xs) (s := s) (n := k) ((prefsAt xs k).take m) (tabTo xs s k)
             have hlt6 := len_tab xs s k
             have HSR := zaa hsr.1
             have HGR := zaa hgr
             have HLR := zaa (show (rowN xs s k (tabTo xs s k) ((prefsAt xs k).take m)).length <= 1000 by rw [zaq] at hlr; omega)
             have HPB := zaa (hpb _ (zas hml))
             clear hpl hpb hpo hsr hgr hlr hlt6
             obtain ⟨p, hp⟩ : ∃ p, p = (prefsAt xs k)[m] := ⟨_, rfl⟩
             rw [<- hp] at q1 q2 q3 q4 HRW HPB
             clear hp
             obtain ⟨L, hL⟩ : ∃ L, L = rowN xs s k (tabTo xs s k) ((prefsAt xs k).take m) := ⟨_, rfl⟩
             rw [<- hL] at HO HRW HSR HGR HLR
             clear hL
             have hal := (zad wr.heap.size wr).alloc (zab _) (.cells #[.int .i64 p.addr, .int .i64 p.bits] 32)
             have HAL := zaa hal
             have HO1 := zaa (HO.out.keep hal)
             have HX1 := zaa (HX.out.below hal)
             have HB1 := zaa (HB.out.trans (hal.mono HB.out.size))
             obtain ⟨A5, n5, c5, rfl⟩ := owR5_form HO.out
             by_cases hks : k = s
             · have hkb : ((k : Int) == (s : Int)) = true := by rw [beq_iff_eq]; omega
               have HAD := zaa (show addN xs s k L p = addR L ⟨p, true, 0, []⟩ by unfold addN routeOfN; rw [if_pos hks])
               have HGD := zaa (show GoodR ⟨p, true, 0, []⟩ from ⟨HPB.out, zbS _, (by show (0 : Int) <= 1048576; omega), canon_nil, .inl ⟨rfl, rfl, rfl⟩⟩)
               have HCA := zaa (add_any _ L ⟨p, true, 0, []⟩ (.slice none 0 0) w3.heap.size _ HO1.out HSR.out HGR.out HGD.out ⟨none, 0, rfl, zab _, zak _, fun i x h => by simp at h⟩ HLR.out)
               clear hal hks
               go_wp2_with (go_at_call 111; refine HCA.out.mono ?_; rintro e w6 ⟨v6, rfl, ho6, hg6⟩; have HO6 := zaa ho6; have HG6 := zaa hg6; clear ho6 hg6)
               go_roundw
               case rel => exact ⟨m + 1, by omega, by go_num, by rw [HRW.out, HAD.out]; exact HO6.out, fun e => by
                rcases HG6.out.own _ e with h1 | h1
                · exact HNE.out h1
                · have := HX1.out.lt; omega, HX1.out.keep (HG6.out.grown.block _ HX1.out.lt (fun e => HNE.out e.symm)), below_grow HB1.out HO1.out HG6.out⟩
               case measure => simp [intOf]; omega
             · have hkb : ((k : Int) == (s : Int)) = false := by rw [beq_eq_false_iff_ne]; omega
               clear hal
               have x0 := HX1.out.c0
               have x1 := HX1.out.c1
               by_cases hc0 : 0 <= (wayTo xs s k).cost
               · have HAD := zaa (show addN xs s k L p = addR L ⟨p, false, (wayTo xs s k).cost, (wayTo xs s k).hops⟩ by unfold addN routeOfN; rw [if_neg hks, if_pos hc0])
                 have HGD := zaa (show GoodR ⟨p, false, (wayTo xs s k).cost, (wayTo xs s k).hops⟩ from ⟨HPB.out, hc0, HWP.out.2, canon_way _ _ _, .inr ⟨rfl, way_hops hks hc0⟩⟩)
                 have hhl := HGD.out.len
                 have HCL := zaa (fun w' (hb : Below w3.heap.size w3 w') => cloneI_any (.slice Ah nh ch) (wayTo xs s k).hops w' (HF3.out.below hb) (by have h9 : (wayTo xs s k).hops.length <= 12 := hhl; omega))
                 clear hks hhl
                 generalize (wayTo xs s k).cost = cw at *
                 generalize (wayTo xs s k).hops = hw at *
                 go_wp2_with fail
                 have z0 : (wr.alloc (.cells #[.int .i64 p.addr, .int .i64 p.bits] 32)).cell? ⟨wr.heap.size, 0, none⟩ = some (.int .i64 p.addr) := by rw [zae _ _ _ _ rfl]; rfl
                 have z1 : (wr.alloc (.cells #[.int .i64 p.addr, .int .i64 p.bits] 32)).cell? ⟨wr.heap.size, 1, none⟩ = some (.int .i64 p.bits) := by rw [zae _ _ _ _ rfl]; rfl
                 obtain ⟨W5, hW5⟩ : ∃ x, x = wr.alloc (.cells #[.int .i64 p.addr, .int .i64 p.bits] 32) := ⟨_, rfl⟩
                 rw [<- hW5] at HO1 HX1 HB1 z0 z1 x0 x1
                 rw [<- hW5]
                 obtain ⟨P, hP⟩ : ∃ x, x = wr.heap.size := ⟨_, rfl⟩
                 rw [<- hP] at z0 z1
                 rw [<- hP]
                 have HCA := zaa (fun v6 w6 (hb : Below W5.heap.size W5 w6) (ho : OwR intR 3 W5.drew.heap.size w6 v6 hw) => add_any (.slice A5 n5 c5) L ⟨p, false, cw, hw⟩ v6 w3.heap.size w6 (HO1.out.keep hb) HSR.out HGR.out HGD.out (SlR.keep (S' := fun q => q < w6.heap.size /\ (Value.slice A5 n5 c5).ownBlock ≠ some q) ho.slF (fun _ _ => rfl) (fun q hq => ⟨hq.1, fun e => by have h1 := (HO1.out.base_le _ e).2; have h2 : W5.heap.size <= q := hq.2; omega⟩)) HLR.out)
                 unfold Route.agg at HCA
                 clear hW5 hP HAL HX HO HB
                 go_region_with (first
                  | (go_at_call 112; refine (HCL.out _ HB1.out.drew).mono ?_; rintro e w6 ⟨v6, rfl, ho6, hb6⟩; obtain ⟨A6, n6, c6, rfl⟩ := ow_form ho6 (by decide); have hb7 := Below.trans ((zad W5.heap.size W5).drew) hb6; have HB7 := zaa hb7; have HO6 := zaa ho6; have y0 := cell_keep hb7 z0; have y1 := cell_keep hb7 z1; have y2 := cell_keep hb7 x0; have y3 := cell_keep hb7 x1; clear hb6 hb7 ho6)
                  | (go_at_call 111; refine (HCA.out _ _ HB7.out HO6.out).mono ?_; rintro e w8 ⟨v8, rfl, ho8, hg8⟩; have HO8 := zaa ho8; have HG8 := zaa hg8; clear ho8 hg8))
                 all_goals
                  go_wp2_with fail
                  go_roundw
                  case rel => exact ⟨m + 1, by omega, by go_num, by rw [HRW.out, HAD.out]; exact HO8.out, fun e => by
                   rcases HG8.out.own _ e with h1 | h1
                   · exact HNE.out h1
                   · have h2 := HX1.out.lt; have h3 := HB7.out.size; omega, (HX1.out.below HB7.out).keep (HG8.out.grown.block _ (zan HX1.out.lt HB7.out.size) (fun e => HNE.out e.symm)), below_grow (HB1.out.trans (HB7.out.mono HB1.out.size)) (HO1.out.keep HB7.out) HG8.out⟩
                  case measure => simp [intOf]; omega
               · have HAD := zaa (show addN xs s k L p = L by unfold addN routeOfN; rw [if_neg hks, if_neg hc0])
                 clear hks
                 go_wp2_with fail
                 go_roundw
                 case rel => exact ⟨m + 1, by omega, by go_num, by rw [HRW.out, HAD.out]; exact HO1.out, HNE.out, HX1.out, HB1.out⟩
                 case measure => simp [intOf]; omega
           · obtain rfl : m = (prefsAt xs k).length := by omega
             have hmi : ¬ (((prefsAt xs k).length : Int) < ((prefsAt xs k).length : Int)) := by omega
             have HT := zaa (show rowN xs s k (tabTo xs s k) ((prefsAt xs k).take (prefsAt xs k).length) = tabTo xs s (k + 1) by rw [zaP]; rfl)
             go_wp2_with fail
             go_roundw
             case rel => exact ⟨k + 1, by omega, by go_num, by rw [<- HT.out]; exact HO.out, HB.out⟩
             case measure => simp [intOf]; omega
        · obtain rfl : k = 12 := by omega
          have hki : ¬ ((12 : Nat) : Int) < 12 := by omega
          go_wp2_with fail
          go_ret2
          exact tb_fin HW.out (HO.out.lower HB3.out.size) (HB3.out.trans (HB.out.mono HB3.out.size))
 · have hc0 : (checkS xs != 0) = true := by simp [hc]
   have HW := zaa (show tableS xs f = ([], checkS xs) by unfold tableS; rw [if_pos hc])
   clear hc
   go_enter Tryz.func67, Tryz.ntmps67
   go_wp2_with (go_at_call 63; refine HC.out.mono ?_; rintro e w1 ⟨rfl, hb1⟩)
   go_ret2
   exact tb_fin HW.out (OwR.nil _ _ hb1.size) hb1
theorem SlR.formD {α : Type} {r : Rep α} {w : World} {S : Nat -> Prop} {v : Value} {xs : List α} (h : SlR r w S v xs) : ∃ A c, v = .slice A xs.length c := by
 obtain ⟨A, c, e, _⟩ := h
 exact ⟨A, c, e⟩
theorem table_at {st : List Entry} {a : Nat} (h : OkS st) (ha : a < 12) : tableS st (a : Int) = (tabTo st a 12, 0) := by
 unfold tableS
 rw [if_neg (by rw [h.check]; simp), if_pos (by simp; omega)]
 rfl
theorem routes_sorted {xs : List Route} (h : chkRoutes xs = 0) : SortedR xs := zaF.2 fun i j hi hj hij => routes_ord h hij hj
theorem fine_good {r : Route} (h : GoodR r) : FineR r := ⟨h.pre, h.len, h.wf⟩
set_option maxRecDepth 50000 in
theorem ndecide_any {X : Nat -> Prop} (N a : Nat) (x : Net) (w : World) (h : NetM X w N x) (ha : a < 12) (hx : NetOk x) (hE : Env w) :
  Calls Tryz.prog 34 #[.pointer (some ⟨N, 0, none⟩), .int .i64 (a : Nat)] w (NPost X N (decideS x a) (.returned (.int .i64 0)) w) := by
 have HM := zaa h
 have ha0 : (0 : Int) <= (a : Int) := zaf a
 have ha1 : (a : Int) < 12 := by omega
 have HA12 := zaa ha
 obtain ⟨v, c0, s0⟩ := (h.nd a ha).st
 obtain ⟨vt, t0, q0⟩ := (h.nd a ha).tb
 have hok := (hx.nd a ha).st
 have htb := (hx.nd a ha).tb
 have hdec : decideS x a = x.setN a { x.nd a with tb := tabTo (x.nd a).st a 12 } := rfl
 obtain ⟨st, hst⟩ : ∃ st, st = (x.nd a).st := ⟨_, rfl⟩
 rw [<- hst] at s0 hok hdec
 obtain ⟨tb, htbe⟩ : ∃ tb, tb = (x.nd a).tb := ⟨_, rfl⟩
 rw [<- htbe] at q0 htb
 obtain ⟨A, c, rfl⟩ := s0.formD
 obtain ⟨At, ct, rfl⟩ := q0.formD
 have htab := table_any (.slice A st.length c) st (a : Int) w s0.sl (by unfold inR; omega) hE
 rw [table_at hok ha] at htab
 obtain ⟨T, hT⟩ : ∃ T, T = tabTo st a 12 := ⟨_, rfl⟩
 have htc : chkRoutes T = 0 := by rw [hT]; exact chk_tab ha
 have htl : T.length <= 72 := by rw [hT]; have := len_tab st a 12; omega
 have hset : ∀ r ∈ diffSet tb T, FineR r := fun r hr => fine_good (good_tab (xs := st) ha 12 (zab _) r (by rw [<- hT]; exact (zaY.1 hr).1))
 have hsl : (diffSet tb T).length <= 400 := zaz (zbP _ _) (by omega)
 have hpd : patchTo tb (diffSet tb T) (diffGone tb T) = T := patch_diff (routes_sorted htb) (routes_sorted htc)
 have hdf : diffS tb T = (diffSet tb T, diffGone tb T, 0) := diff_ok htb htc
 rw [<- hT] at htab hdec
 have HD := zaa hdec
 have HT := zaa htab
 have HQ := zaa (SlN.sl q0)
 have HTB := zaa htb
 have HSET := zaa hset
 have HSL := zaa hsl
 have HPD := zaa hpd
 have HDF := zaa hdf
 have HTC := zaa htc
 clear h hx hE s0 q0 hok htb hdec hst htbe htab hT htc htl hset hsl hpd hdf
 go_enter Tryz.func34, Tryz.ntmps34
 go_wp2_with fail
 refine HT.out.mono ?_
 rintro e w1 ⟨v1, rfl, ho1, hb1⟩
 obtain ⟨A1, n1, c1, rfl⟩ := ow_form ho1 (by decide)
 have HB1 := zaa hb1
 have HO1 := zaa ho1
 have t1 := cell_keep hb1 t0
 have HDI := zaa (diff_any (.slice At tb.length ct) (.slice A1 n1 c1) tb T w1 (HQ.out.below hb1) (ho1.sl (by decide)))
 unfold DiffPost at HDI
 rw [HDF.out] at HDI
 clear ho1 hb1
 go_wp2_with fail
 refine HDI.out.mono ?_
 rintro e w2 ⟨v2, u2, rfl, hs2, hp2, hb2⟩
 obtain ⟨A2, c2, hv2⟩ := hs2.form
 obtain ⟨A3, c3, hu2⟩ := hp2.form
 subst hv2 hu2
 have HB2 := zaa (HB1.out.trans (hb2.mono HB1.out.size))
 have t2 := cell_keep hb2 t1
 have HPA := zaa (patchZ_any (.slice At tb.length ct) (.slice A2 (diffSet tb T).length c2) (.slice A3 (diffGone tb T).length c3) tb (diffSet tb T) (diffGone tb T) w2 (HQ.out.below HB2.out) hs2 hp2 HTB.out HSET.out HSL.out)
 unfold PatZ patchL at HPA
 rw [HPD.out, HTC.out, if_pos rfl] at HPA
 have hz2 := HB2.out.size
 clear hs2 hp2 hb2
 go_wp2_with fail
 refine HPA.out.mono ?_
 rintro e w3 ⟨v3, rfl, ho3, hb3⟩
 obtain ⟨A4, c4, rfl⟩ := ho3.formD
 have HB3 := zaa (HB2.out.trans (hb3.mono HB2.out.size))
 have HS := zaa ((HM.out.below HB3.out).setTb HA12.out (ho3.toN (by have := HM.out.lt; omega) (fun k hk => HM.out.top k (by omega))))
 obtain ⟨vx, g1, _⟩ := ((HM.out.below HB3.out).nd a HA12.out).tb
 have g2 := (HM.out.below HB3.out).fz (a * 4 + 3)
 have HG := zaa ((below_grownN N HB3.out).trans (setCell_grown w3 N (a * 4 + 3) (.slice A4 T.length c4)))
 clear ho3 hb3 hz2
 go_wp2_with fail
 go_ret
 exact ⟨rfl, by rw [HD.out]; exact HS.out, HG.out⟩
end
section
open Go.RowKit Go.Sort
def LookPost (xs : List Route) (addr : Int) (w : World) (e : Ending) (w' : World) : Prop :=
 ∃ v', e = .returned (.tuple #[.agg #[.int .i64 (lookS xs addr).1.pre.addr, .int .i64 (lookS xs addr).1.pre.bits, .bool (lookS xs addr).1.here, .int .i64 (lookS xs addr).1.cost, v'], .int .i64 (lookS xs addr).2]) /\
   Sl intR w' v' (lookS xs addr).1.hops /\ Below w.heap.size w w'
theorem look_fin {xs : List Route} {addr : Int} {w w' : World} {v' : Value} {r : Route} {n : Int} (h : lookS xs addr = (r, n)) (hs : Sl intR w' v' r.hops) (hb : Below w.heap.size w w') :
  LookPost xs addr w (.returned (.tuple #[.agg #[.int .i64 r.pre.addr, .int .i64 r.pre.bits, .bool r.here, .int .i64 r.cost, v'], .int .i64 n])) w' := by
 refine ⟨v', ?_, ?_, hb⟩
 · rw [h]
 · rw [h]; exact hs
def bestN : Option Nat -> Int
 | none => -1
 | some j => (j : Int)
theorem b5 {w w1 : World} (h : Below w.heap.size w w1) (a b c d e : Value) :
  Below w.heap.size w (((((w1.setCell ⟨w.heap.size, 0, none⟩ a).setCell ⟨w.heap.size, 1, none⟩ b).setCell ⟨w.heap.size, 2, none⟩ c).setCell ⟨w.heap.size, 3, none⟩ d).setCell ⟨w.heap.size, 4, none⟩ e) :=
 ((((h.setCell (zab _) _).setCell (zab _) _).setCell (zab _) _).setCell (zab _) _).setCell (zab _) _
theorem Sl.five {w : World} {v : Value} {xs : List Int} {B : Nat} (h : SlR intR w (fun k => k < w.heap.size /\ k ≠ B) v xs) (a b c d e : Value) :
  Sl intR (((((w.setCell ⟨B, 0, none⟩ a).setCell ⟨B, 1, none⟩ b).setCell ⟨B, 2, none⟩ c).setCell ⟨B, 3, none⟩ d).setCell ⟨B, 4, none⟩ e) v xs := by
 refine SlR.keep h (fun k hk => ?_) (fun k hk => ?_)
 · iterate 5 rw [zai _ _ _ k hk.2]
 · simpa [World.setCell] using hk.1
theorem OwR.slB {E base : Nat} {w : World} {v : Value} {xs : List Int} (h : OwR intR E base w v xs) : SlR intR w (fun k => k < w.heap.size /\ base <= k) v xs := by
 obtain ⟨A, c, rfl, h1, h2, h3⟩ := h.sl (by decide)
 refine ⟨A, c, rfl, h1, h2, fun i x hx => ?_⟩
 obtain ⟨b, off, cs, rfl, hS, hb, hh, hc⟩ := h3 i x hx
 exact ⟨b, off, cs, rfl, ⟨hb, (h.base_le b rfl).1⟩, hb, hh, hc⟩
set_option maxRecDepth 100000 in
theorem lookup_any (v : Value) (xs : List Route) (addr : Int) (w : World) (h : Sl routeR w v xs) : Calls Tryz.prog 70 #[v, .int .i64 addr] w (LookPost xs addr w) := by
 have hB0 : Below w.heap.size w (w.alloc (.cells #[.int .i64 0, .int .i64 0, .bool false, .int .i64 0, .slice none 0 0] 130)) := (zad _ _).alloc (zab _) _
 have H0 := zaa (h.below hB0)
 have hlen := h.len_le
 obtain ⟨A, c, rfl⟩ := h.form
 have H := zaa h
 clear h hB0
 go_enter Tryz.func70, Tryz.ntmps70
 go_wp2_with fail
 refine (ribCheck_any _ xs _ H0.out).mono ?_
 rintro r w1 ⟨rfl, hb1⟩
 obtain ⟨hA, hN, hM, hS⟩ := pastAlloc hb1
 have HA := zaa hA
 clear hA hb1 H0
 by_cases hc : chkRoutes xs = 0
 · have t1 : (chkRoutes xs != 0) = false := by simp [hc]
   have hok := routes_ok hc
   have hl2 := hok.1
   have HOK := zaa hok.2
   have HC := zaa hc
   clear hok hc
   by_cases ha : addr < 0 ∨ 255 < addr
   · have HL := zaa (look_range HC.out ha)
     have hfin : ∀ {w'}, Below w.heap.size w w' -> LookPost xs addr w (.returned (.tuple #[.agg #[.int .i64 0, .int .i64 0, .bool false, .int .i64 0, .slice none 0 0], .int .i64 2])) w' := fun hb => look_fin HL.out (Sl.nil _ _) hb
     have HF := zaa (hfin (b5 HA.out (.int .i64 0) (.int .i64 0) (.bool false) (.int .i64 0) (.slice none 0 0)))
     clear hfin
     rcases ha with ha | ha
     · go_wp2_with fail
       exact bodyPost_ret (v := .tuple #[.agg #[.int .i64 0, .int .i64 0, .bool false, .int .i64 0, .slice none 0 0], .int .i64 2]) (by simp [results, Tryz.results70, go_sem, hN, hS]) rfl HF.out
     · go_wp2_with fail
       exact bodyPost_ret (v := .tuple #[.agg #[.int .i64 0, .int .i64 0, .bool false, .int .i64 0, .slice none 0 0], .int .i64 2]) (by simp [results, Tryz.results70, go_sem, hN, hS]) rfl HF.out
   · have a1 : 0 <= addr := by omega
     have a2 : addr <= 255 := by omega
     have a3 : ¬ addr < 0 := by omega
     have a4 : ¬ 255 < addr := by omega
     clear ha
     go_wp2_with fail
     go_loopw [7, 8, 9, 25] (fun s7 _ _ s25 wr => ∃ k : Nat, k <= xs.length /\ s25 = .int .i64 k /\ s7 = .int .i64 (bestN (bestTo xs addr k)) /\ Below w1.heap.size w1 wr) (fun _ _ _ s25 _ => xs.length - (intOf s25).toNat)
     case atStart => exact ⟨0, zak _, rfl, rfl, zad _ _⟩
     case round =>
      obtain ⟨k, hk, rfl, rfl, hB⟩ := hrel
      have hez := hB.size
      have HB := zaa hB
      have HBW := zaa (HA.out.trans (hB.mono HA.out.size))
      have hNr : ∀ i, wr.cell? ⟨w.heap.size, i, none⟩ = #[Value.int .i64 0, .int .i64 0, .bool false, .int .i64 0, .slice none 0 0][i]? := fun i => (bAt hB hS i).trans (hN i)
      have hMr : ∀ i, wr.frozen? ⟨w.heap.size, i, none⟩ = false := fun i => (bFz hB hS i).trans (hM i)
      have hSr : w.heap.size < wr.heap.size := zan hS hez
      clear hB hN hM
      obtain ⟨bt, hbt⟩ : ∃ bt, bestTo xs addr k = bt := ⟨_, rfl⟩
      have HBT := zaa hbt
      rw [hbt]
      clear hbt
      by_cases hlt : k < xs.length
      · obtain ⟨b, off, rfl, hb⟩ := H.out.at_ hlt
        obtain ⟨hv, f1, f2, f3, f4, f5, hsl, hwf⟩ := (H.out.below HBW.out).route hlt
        obtain ⟨A2, c2, rfl⟩ := hsl.form
        obtain ⟨o1, o2, o3, o4⟩ := prefBad_ok (routeBad_iff (HOK.out k hlt)).1
        have hand := andNot_span addr xs[k].pre.bits o1 o2 a1 a2
        have hgk : xs.getD k zeroR = xs[k] := by simp [List.getD, hlt]
        have hstep : bestTo xs addr (k + 1) = if matchR addr xs[k] && betterR xs k bt then some k else bt := by
         show (if matchR addr (xs.getD k zeroR) && betterR xs k (bestTo xs addr k) then some k else bestTo xs addr k) = _
         rw [hgk, HBT.out]
        have HST := zaa hstep
        have o1' : ¬ xs[k].pre.bits < 0 := by omega
        clear hsl hwf hstep
        have hbr : Below w1.heap.size w1 (wr.alloc (.cells #[.int .i64 xs[k].pre.addr, .int .i64 xs[k].pre.bits, .bool xs[k].here, .int .i64 xs[k].cost, .slice A2 xs[k].hops.length c2] 130)) := HB.out.alloc hez _
        have HBR := zaa hbr
        have q2 : 0 <= xs[k].pre.bits := o1
        clear hbr
        rcases hmm : matchR addr xs[k] with _ | _
        · have hm : (addr - addr % spanN xs[k].pre.bits == xs[k].pre.addr) = false := hmm
          have HMM := zaa hmm
          clear hmm
          go_wp2_with fail
          go_quiet (fail)
          go_wp2_with fail
          go_roundw
          case rel => exact ⟨k + 1, by omega, by go_num, by rw [HST.out, HMM.out]; rfl, bDrewN HBR.out _⟩
          case measure => simp [intOf]; omega
        · have hm : (addr - addr % spanN xs[k].pre.bits == xs[k].pre.addr) = true := hmm
          have HMM := zaa hmm
          clear hmm
          rcases bt with _ | j
          · have hbn : bestN none = -1 := rfl
            go_wp2_with fail
            go_quiet (fail)
            go_wp2_with fail
            go_roundw
            case rel => exact ⟨k + 1, by omega, by go_num, by rw [HST.out, HMM.out]; rfl, bDrewN HBR.out _⟩
            case measure => simp [intOf]; omega
          · have hbn : bestN (some j) = (j : Int) := rfl
            obtain ⟨hjk, _, _⟩ := best_some xs addr k j HBT.out
            have hjl : j < xs.length := by omega
            have hgj : xs.getD j zeroR = xs[j] := by simp [List.getD, hjl]
            have HGJ := zaa hgj
            have HGK := zaa hgk
            obtain ⟨_, g1, g2, z3, z4, z5, z6, z7⟩ := (H.out.below HBW.out).route hjl
            have r0 : (0 : Int) <= (j : Int) := zaf _
            have r1 : (j : Int) < (xs.length : Int) := by omega
            have r2 : decide ((j : Int) < 0) = false := by rw [decide_eq_false_iff_not]; omega
            have hbwj : b < wr.heap.size := by have := HBW.out.size; omega
            clear z3 z4 z5 z6 z7 hgj hgk
            by_cases hlb : xs[j].pre.bits < xs[k].pre.bits
            · have r3 : decide (xs[j].pre.bits < xs[k].pre.bits) = true := by rw [decide_eq_true_iff]; exact hlb
              have hbb : betterR xs k (some j) = decide (xs[j].pre.bits < xs[k].pre.bits) := by
               show decide ((xs.getD j zeroR).pre.bits < (xs.getD k zeroR).pre.bits) = _
               rw [HGJ.out, HGK.out]
              rw [r3] at hbb
              have HBB := zaa hbb
              clear hbb
              go_wp2_with fail
              go_quiet (fail)
              go_wp2_with fail
              go_roundw
              case rel => exact ⟨k + 1, by omega, by go_num, by rw [HST.out, HMM.out, HBB.out]; rfl, bDrewN HBR.out _⟩
              case measure => simp [intOf]; omega
            · have r3 : decide (xs[j].pre.bits < xs[k].pre.bits) = false := by rw [decide_eq_false_iff_not]; exact hlb
              have hbb : betterR xs k (some j) = decide (xs[j].pre.bits < xs[k].pre.bits) := by
               show decide ((xs.getD j zeroR).pre.bits < (xs.getD k zeroR).pre.bits) = _
               rw [HGJ.out, HGK.out]
              rw [r3] at hbb
              have HBB := zaa hbb
              clear hbb
              go_wp2_with fail
              go_quiet (fail)
              go_wp2_with fail
              go_roundw
              case rel => exact ⟨k + 1, by omega, by go_num, by rw [HST.out, HMM.out, HBB.out]; rfl, bDrewN HBR.out _⟩
              case measure => simp [intOf]; omega
      · have hkk : k = xs.length := by omega
        rcases bt with _ | j
        · have hbn : bestN none < 0 := by decide
          have HL := zaa (look_none HC.out ⟨a1, a2⟩ (by rw [<- hkk]; exact HBT.out))
          have hfin : ∀ {w'}, Below w.heap.size w w' -> LookPost xs addr w (.returned (.tuple #[.agg #[.int .i64 0, .int .i64 0, .bool false, .int .i64 0, .slice none 0 0], .int .i64 6])) w' := fun hb => look_fin HL.out (Sl.nil _ _) hb
          have HF := zaa (hfin (b5 HBW.out (.int .i64 0) (.int .i64 0) (.bool false) (.int .i64 0) (.slice none 0 0)))
          clear hfin hkk
          go_wp2_with fail
          exact bodyPost_ret (v := .tuple #[.agg #[.int .i64 0, .int .i64 0, .bool false, .int .i64 0, .slice none 0 0], .int .i64 6]) (by simp [results, Tryz.results70, go_sem, hNr, hSr]) rfl HF.out
        · have hbn : bestN (some j) = (j : Int) := rfl
          obtain ⟨hjk, _, _⟩ := best_some xs addr k j HBT.out
          have hjl : j < xs.length := by omega
          have HL := zaa (look_some HC.out ⟨a1, a2⟩ (by rw [<- hkk]; exact HBT.out) hjl)
          obtain ⟨b, off, rfl, hb⟩ := H.out.at_ hjl
          obtain ⟨hv, f1, f2, f3, f4, f5, hsl, hwf⟩ := (H.out.below HBW.out).route hjl
          have hcop := copied_any xs[j] hv wr hsl (by have := (routeBad_iff (HOK.out j hjl)).2; omega)
          obtain ⟨A2, c2, rfl⟩ := hsl.form
          have HCOP := zaa hcop
          have r0 : (0 : Int) <= (j : Int) := zaf _
          have r1 : (j : Int) < (xs.length : Int) := by omega
          have r2 : ¬ ((j : Int) < 0) := by omega
          clear hkk hsl hwf hcop
          go_wp2_with fail
          refine HCOP.out.mono ?_
          rintro e w2 ⟨v1, rfl, ho1, hb2⟩
          obtain ⟨A3, c3, rfl⟩ := ho1.form
          have hN2 : ∀ i, w2.cell? ⟨w.heap.size, i, none⟩ = #[Value.int .i64 0, .int .i64 0, .bool false, .int .i64 0, .slice none 0 0][i]? := fun i => (bAt hb2 hSr i).trans (hNr i)
          have hM2 : ∀ i, w2.frozen? ⟨w.heap.size, i, none⟩ = false := fun i => (bFz hb2 hSr i).trans (hMr i)
          have hS2 : w.heap.size < w2.heap.size := zan hSr hb2.size
          have hfin := look_fin HL.out (Sl.five (B := w.heap.size) (SlR.keep ho1.slB (fun _ _ => rfl) (fun k hk => ⟨hk.1, by have := hk.2; omega⟩)) (.int .i64 xs[j].pre.addr) (.int .i64 xs[j].pre.bits) (.bool xs[j].here) (.int .i64 xs[j].cost) (.slice A3 xs[j].hops.length c3)) (b5 (HBW.out.trans (hb2.mono HBW.out.size)) _ _ _ _ _)
          have HF := zaa hfin
          clear hb2 ho1 hNr hMr hfin
          go_wp2_with fail
          exact bodyPost_ret (v := .tuple #[.agg #[.int .i64 xs[j].pre.addr, .int .i64 xs[j].pre.bits, .bool xs[j].here, .int .i64 xs[j].cost, .slice A3 xs[j].hops.length c3], .int .i64 0]) (by simp [results, Tryz.results70, go_sem, hN2, hS2]) rfl HF.out
 · have t1 : (chkRoutes xs != 0) = true := by simp [hc]
   have HL := zaa (look_bad (addr := addr) hc)
   have hfin : ∀ {w'}, Below w.heap.size w w' -> LookPost xs addr w (.returned (.tuple #[.agg #[.int .i64 0, .int .i64 0, .bool false, .int .i64 0, .slice none 0 0], .int .i64 (chkRoutes xs)])) w' := fun hb => look_fin HL.out (Sl.nil _ _) hb
   have HF := zaa (hfin (b5 HA.out (.int .i64 0) (.int .i64 0) (.bool false) (.int .i64 0) (.slice none 0 0)))
   clear hc hfin
   go_wp2_with fail
   exact bodyPost_ret (v := .tuple #[.agg #[.int .i64 0, .int .i64 0, .bool false, .int .i64 0, .slice none 0 0], .int .i64 (chkRoutes xs)]) (by simp [results, Tryz.results70, go_sem, hN, hS]) rfl HF.out
end
section
open Go
theorem look_mem {xs : List Route} {addr : Int} {r : Route} (h : chkRoutes xs = 0) (hl : lookS xs addr = (r, 0)) : r ∈ xs := by
 unfold lookS at hl
 rw [if_neg (by simp [h])] at hl
 split at hl
 · injection hl with _ e; cases e
 · split at hl
   · injection hl with _ e; cases e
   · rename_i j hb
     obtain ⟨h1, _⟩ := best_some xs addr xs.length j hb
     injection hl with e _
     rw [<- e, zal, zac h1]
     exact zas h1
theorem hopsAt_in {l : List Int} : ∀ (n k : Nat), k + n = l.length -> hopsAt l n k = true -> ∀ i, (h : i < l.length) -> k <= i -> 0 <= l[i] /\ l[i] <= 11
 | 0, k, hk, _, i, hi, hki => by omega
 | n + 1, k, hk, h, i, hi, hki => by
   unfold hopsAt at h
   have hkl : k < l.length := by omega
   rw [zac hkl] at h
   simp only [Bool.and_eq_true, decide_eq_true_eq] at h
   by_cases e : i = k
   · subst e; exact ⟨h.1.1.1, h.1.1.2⟩
   · exact hopsAt_in n (k + 1) (by omega) h.2 i hi (by omega)
theorem route_hops {r : Route} (h : routeBad r = 0) (hh : r.here = false) : 0 < r.hops.length /\ r.hops.length <= 12 /\ ∀ i, (h : i < r.hops.length) -> 0 <= r.hops[i] /\ r.hops[i] <= 11 := by
 have hl := (routeBad_iff h).2
 unfold routeBad at h
 split at h
 · rename_i hc
   rw [Bool.and_eq_true] at hc
   obtain ⟨h1, h2⟩ := hc
   unfold routeForm at h1
   rw [hh] at h1
   simp only [Bool.and_eq_true, decide_eq_true_eq, Bool.false_eq_true, if_false, Bool.not_eq_true', List.isEmpty_eq_false_iff] at h1
   refine ⟨List.length_pos_iff.2 h1.2, hl, fun i hi => hopsAt_in (l := r.hops) r.hops.length 0 (by omega) (by unfold hopsOk at h2; simpa using h2) i hi (zak _)⟩
 · cases h
theorem look_hops {xs : List Route} {addr : Int} {r : Route} (h : chkRoutes xs = 0) (hl : lookS xs addr = (r, 0)) (hh : r.here = false) : 0 < r.hops.length /\ r.hops.length <= 12 /\ ∀ i, (h : i < r.hops.length) -> 0 <= r.hops[i] /\ r.hops[i] <= 11 := by
 obtain ⟨i, hi, rfl⟩ := zaj (look_mem h hl)
 exact route_hops ((routes_ok h).2 i hi) hh
end
section
open Go Go.RowKit Go.Deep
def slN (v : Value) : Nat := match v with
 | .slice _ n _ => n
 | _ => 0
def WalkN (X : Nat -> Prop) (N : Nat) (x : Net) (r : List Int × Int × Int) (w : World) (e : Ending) (w' : World) : Prop :=
 ∃ vp, e = .returned (.tuple #[vp, .int .i64 r.2.1, .int .i64 r.2.2]) /\ SlF intR w.heap.size w' vp r.1 /\ NetM X w' N x /\ Below w.heap.size w w'
theorem wn_fin {X : Nat -> Prop} {N : Nat} {x : Net} {r : List Int × Int × Int} {p : List Int} {c n : Int} (hr : r = (p, c, n)) {w w' : World} {vp : Value} (h1 : SlF intR w.heap.size w' vp p) (h2 : NetM X w' N x) (h3 : Below w.heap.size w w') :
 WalkN X N x r w (.returned (.tuple #[vp, .int .i64 c, .int .i64 n])) w' := ⟨vp, by rw [hr], by rw [hr]; exact h1, h2, h3⟩
theorem int_lit {w : World} {base B : Nat} {k : Int} (hk : inR k) (hb : base <= w.heap.size) (hB : B = w.heap.size) : OwR intR 3 base (w.alloc (.cells #[.int .i64 k] 3)) (.slice (some ⟨B, 0, none⟩) 1 1) [k] := by
 subst hB
 have h1 : [k].length <= maxLen := Nat.le_of_ble_eq_true rfl
 exact OwR.lit1 (f := Value.int .i64) (xs := [k]) rfl (fun y hy S => ⟨rfl, by simp at hy; subst hy; exact hk⟩) hb h1
theorem walk_step {x : Net} {addr : Int} {pick f a : Nat} {path : List Int} {cost : Int} {r : Route} (hl : lookS (x.nd a).tb addr = (r, 0)) (hh : r.here = false) (hp : ¬ 12 < path.length) {i y : Nat} (hi : i = pick % r.hops.length) (hil : i < r.hops.length) (hy : r.hops[i] = (y : Int)) (hc : x.co a y ≠ 0) :
  walkGo x addr pick (f + 1) path cost a = walkGo x addr pick f (path ++ [(y : Int)]) (cost + x.co a y) y := by
 have hg : r.hops.getD (pick % r.hops.length) 0 = (y : Int) := by rw [<- hi, zal, zac hil]; exact hy
 rw [walkGo]
 rw [hl, if_neg (by simp), if_neg (by simp [hh]), if_neg hp]
 simp only [hg, zaL]
 rw [if_neg hc]
theorem walk_cut {x : Net} {addr : Int} {pick f a : Nat} {path : List Int} {cost : Int} {r : Route} (hl : lookS (x.nd a).tb addr = (r, 0)) (hh : r.here = false) (hp : ¬ 12 < path.length) {i y : Nat} (hi : i = pick % r.hops.length) (hil : i < r.hops.length) (hy : r.hops[i] = (y : Int)) (hc : x.co a y = 0) :
  walkGo x addr pick (f + 1) path cost a = ([], 0, 6) := by
 have hg : r.hops.getD (pick % r.hops.length) 0 = (y : Int) := by rw [<- hi, zal, zac hil]; exact hy
 rw [walkGo]
 rw [hl, if_neg (by simp), if_neg (by simp [hh]), if_neg hp]
 simp only [hg, zaL]
 rw [if_pos hc]
theorem walk_loop {x : Net} {addr : Int} {pick f a : Nat} {path : List Int} {cost : Int} {r : Route} (hl : lookS (x.nd a).tb addr = (r, 0)) (hh : r.here = false) (hp : 12 < path.length) :
  walkGo x addr pick (f + 1) path cost a = ([], 0, 10) := by
 rw [walkGo]
 rw [hl, if_neg (by simp), if_neg (by simp [hh]), if_pos hp]
theorem walk_here {x : Net} {addr : Int} {pick f a : Nat} {path : List Int} {cost : Int} {r : Route} (hl : lookS (x.nd a).tb addr = (r, 0)) (hh : r.here = true) :
  walkGo x addr pick (f + 1) path cost a = (path, cost, 0) := by
 rw [walkGo]
 rw [hl, if_neg (by simp), if_pos (by simp [hh])]
theorem walk_no {x : Net} {addr : Int} {pick f a : Nat} {path : List Int} {cost : Int} {r : Route} {n : Int} (hl : lookS (x.nd a).tb addr = (r, n)) (hn : n ≠ 0) :
  walkGo x addr pick (f + 1) path cost a = ([], 0, n) := by
 rw [walkGo]
 rw [hl, if_pos (by simpa using hn)]
set_option maxRecDepth 50000 in
theorem nwalk_any {X : Nat -> Prop} (N a : Nat) (addr pick : Int) (x : Net) (w : World) (h : NetM X w N x) (ha : a < 12) (hx : NetOk x) (hadd : inR addr) (hpk : inR pick) :
  Calls Tryz.prog 35 #[.pointer (some ⟨N, 0, none⟩), .int .i64 (a : Nat), .int .i64 addr, .int .i64 pick] w (WalkN X N x (walkS x a addr pick) w) := by
 have HM := zaa h
 have HX := zaa hx
 have ha0 : (0 : Int) <= (a : Int) := zaf a
 have ha1 : (a : Int) < 12 := by omega
 have HA12 := zaa ha
 by_cases hp : pick < 0
 · have HL := zaa (show walkS x a addr pick = ([], 0, 2) by unfold walkS; rw [if_pos hp])
   clear h hx
   go_enter Tryz.func35, Tryz.ntmps35
   go_wp2_with fail
   go_ret3
   exact wn_fin HL.out (SlF.nil _ _ _) HM.out (zad _ _)
 · obtain ⟨p, rfl⟩ : ∃ p : Nat, pick = p := ⟨pick.toNat, by omega⟩
   have HL := zaa (show walkS x a addr p = walkGo x addr p 13 [(a : Int)] 0 a by unfold walkS; rw [if_neg hp]; rfl)
   have hp0 : (0 : Int) <= (p : Int) := zaf p
   unfold inR at hpk
   clear h hx
   go_enter Tryz.func35, Tryz.ntmps35
   go_wp2_with fail
   obtain ⟨W, hW⟩ : ∃ x, x = w.alloc (.cells #[.int .i64 (a : Int)] 3) := ⟨_, rfl⟩
   have HOW := zaa (show OwR intR 3 w.heap.size W (.slice (some ⟨w.heap.size, 0, none⟩) 1 1) [(a : Int)] by rw [hW]; exact int_lit (by unfold inR; omega) (zab _) rfl)
   have HBW := zaa (show Below w.heap.size w W by rw [hW]; exact (zad _ _).alloc (zab _) _)
   rw [<- hW]
   clear hW
   go_loopw [1, 11, 12, 13, 14, 15] (fun s1 s11 s12 _ _ _ wr => ∃ (b f : Nat) (path : List Int) (cost : Int), s1 = .int .i64 b /\ b < 12 /\ s12 = .int .i64 cost /\ 0 <= cost /\ cost <= 1000 * (path.length : Int) /\ path.length + f = 13 /\ 1 <= path.length /\ OwR intR 3 w.heap.size wr s11 path /\ Below w.heap.size w wr /\
    walkS x a addr p = walkGo x addr p (f + 1) path cost b) (fun _ s11 _ _ _ _ _ => 14 - slN s11)
   case atStart => exact ⟨a, 12, [(a : Int)], 0, rfl, HA12.out, rfl, zbS _, by simp, rfl, by simp, HOW.out, HBW.out, HL.out⟩
   case round =>
    obtain ⟨b, f, path, cost, rfl, hb12, rfl, hc0, hc1, hpf, hp1, ho, hb, hw⟩ := hrel
    obtain ⟨A1, n1, c1, rfl⟩ := ow_form ho (by decide)
    have hn1 : n1 = path.length := by obtain ⟨A, c, e⟩ := (ho.sl (by decide)).form; injection e
    subst hn1
    have HO := zaa ho
    have HB := zaa hb
    have HW := zaa hw
    have HB12 := zaa hb12
    have hb0 : (0 : Int) <= (b : Int) := zaf b
    have hb1 : (b : Int) < 12 := by omega
    obtain ⟨vt, t0, q0⟩ := (HM.out.nd b hb12).tb
    have htb := (HX.out.nd b hb12).tb
    have t1 := cell_keep hb t0
    have HTB := zaa htb
    have HLK := zaa (lookup_any vt (x.nd b).tb addr wr (SlN.sl (q0.below hb)))
    obtain ⟨At, nt, ct, rfl⟩ : ∃ A n c, vt = .slice A n c := by obtain ⟨A, c, e, _⟩ := q0; exact ⟨A, _, c, e⟩
    obtain ⟨r, n, hr⟩ : ∃ r n, lookS (x.nd b).tb addr = (r, n) := ⟨_, _, rfl⟩
    have HR := zaa hr
    unfold LookPost at HLK
    rw [hr] at HLK
    clear ho hb hw q0 htb t0 hr
    go_wp2_with fail
    refine HLK.out.mono ?_
    rintro e w1 ⟨vh, rfl, hs1, hbl⟩
    have HB1 := zaa (HB.out.trans (hbl.mono HB.out.size))
    have HO1 := zaa (HO.out.keep hbl)
    obtain ⟨Ah, ch, rfl⟩ := hs1.form
    have HS1 := zaa hs1
    clear hbl hs1 t1
    by_cases hn : n = 0
    · subst hn
      cases hh : r.here with
      | true =>
        have HE := zaa (HW.out.trans (walk_here HR.out hh))
        go_wp2_with fail
        go_ret3
        exact wn_fin HE.out ((HO1.out.slG (by decide) (fun _ _ _ _ h => h)).below ((zad _ _).alloc (zab _) _)) (HM.out.below (HB1.out.alloc HB1.out.size _)) (HB1.out.alloc HB1.out.size _)
      | false =>
        by_cases hl13 : 12 < path.length
        · have HE := zaa (HW.out.trans (walk_loop HR.out hh hl13))
          go_wp2_with fail
          go_ret3
          exact wn_fin HE.out (SlF.nil _ _ _) (HM.out.below (HB1.out.alloc HB1.out.size _)) (HB1.out.alloc HB1.out.size _)
        · obtain ⟨hp2, hp3, hp4⟩ := look_hops HTB.out HR.out hh
          obtain ⟨i, hi, hil⟩ : ∃ i : Nat, i = p % r.hops.length /\ i < r.hops.length := ⟨_, rfl, Nat.mod_lt _ hp2⟩
          obtain ⟨y, hy, hy12⟩ : ∃ y : Nat, r.hops[i] = (y : Int) /\ y < 12 := ⟨r.hops[i].toNat, by have := hp4 i hil; omega, by have := hp4 i hil; omega⟩
          obtain ⟨bh, oh, hAh, hbh⟩ := HS1.out.at_ hil
          subst hAh
          have fh := (HS1.out.int hil).1
          rw [hy] at fh
          have hrem : (p : Int).tmod (r.hops.length : Int) = (i : Int) := by
           rw [hi, Int.tmod_eq_emod_of_nonneg hp0, Int.natCast_emod]
          have hlz : ¬ (r.hops.length : Int) = 0 := by omega
          have hii : (i : Int) < (r.hops.length : Int) := by omega
          have hi0 : (0 : Int) <= (i : Int) := zaf i
          have hy0 : (0 : Int) <= (y : Int) := zaf y
          have hy1 : (y : Int) < 12 := by omega
          have hl14 : ¬ (12 : Int) < (path.length : Int) := by omega
          have co1 := cell_keep HB1.out (HM.out.co b y HB12.out hy12)
          have cb := HX.out.co b y
          have hal := (zad w1.heap.size w1).alloc (zab _) (.cells #[.int .i64 r.pre.addr, .int .i64 r.pre.bits, .bool false, .int .i64 r.cost, .slice (some ⟨bh, oh, none⟩) r.hops.length ch] 130)
          have b4 : (w1.alloc (.cells #[.int .i64 r.pre.addr, .int .i64 r.pre.bits, .bool false, .int .i64 r.cost, .slice (some ⟨bh, oh, none⟩) r.hops.length ch] 130)).cell? ⟨w1.heap.size, 4, none⟩ = some (.slice (some ⟨bh, oh, none⟩) r.hops.length ch) := by rw [zae _ _ _ _ rfl]; rfl
          have fh2 := cell_keep hal fh
          have HAL := zaa hal
          have HO2 := zaa (HO1.out.keep hal)
          have HB2 := zaa (HB1.out.trans (hal.mono HB1.out.size))
          by_cases hc : x.co b y = 0
          · have HE := zaa (HW.out.trans (walk_cut HR.out hh hl13 hi hil hy hc))
            rw [hc] at co1
            have co2 := cell_keep hal co1
            clear hal hi hil hp4 hc hp2 hp3 hy fh cb
            go_wp2_with fail
            go_quiet (fail)
            obtain ⟨q1, rfl⟩ : ∃ m, m = nq := ⟨nq, rfl⟩
            go_wp2_with fail
            go_ret3
            exact wn_fin HE.out (SlF.nil _ _ _) (HM.out.below (bDrewN HB2.out q1)) (bDrewN HB2.out q1)
          · have HE := zaa (HW.out.trans (walk_step (f := f) HR.out hh hl13 hi hil hy hc))
            have hcb : (x.co b y == 0) = false := by rw [beq_eq_false_iff_ne]; exact hc
            have co2 := cell_keep hal co1
            obtain ⟨z, hz⟩ : ∃ z, x.co b y = z := ⟨_, rfl⟩
            rw [hz] at co1 co2 cb hcb HE
            have hz0 := cb.1
            have hz1 := cb.2
            have HIY := zaa (show inR (y : Int) by unfold inR; omega)
            have HPL := zaa (show path.length <= 1000000 by omega)
            clear hal hi hil hp4 hc hp2 hp3 hy fh cb hz
            go_wp2_with fail
            go_quiet (fail)
            obtain ⟨q1, rfl⟩ : ∃ m, m = nq := ⟨nq, rfl⟩
            go_wp2_with (at_builtin; refine wpList_oneR (base := w.heap.size) (y := (y : Int)) (cs := [.int .i64 (y : Int)]) (S := fun _ => False) elt_int rfl (.tmp 74) (.tmp 76) rfl (HO2.out.keep (bDrewN (zad _ _) q1)) ⟨rfl, HIY.out⟩ (fun _ h => h.elim) rfl rfl (by first | rfl | simp) HPL.out (by decide) ?_; intro v5 w5 ho5 hg5; obtain ⟨A5, c5, e5⟩ := Sl.form (ho5.sl (by decide)); subst e5)
            go_roundw
            case rel =>
             refine ⟨y, f - 1, path ++ [(y : Int)], cost + z, by go_num, by omega, by go_num, by omega, by simp; omega, by simp; omega, by simp, (by have h9 := ho5; rw [zah] at h9; exact h9), ?_, ?_⟩
             · exact (ow_alloc (HO2.out.keep (bDrewN (zad _ _) q1)) _).below_grown ((bDrewN HB2.out q1).alloc (bDrewN HB2.out q1).size _) hg5.grown
             · rw [HE.out]; congr 1; omega
            case measure => simp only [slN, zah, zaw, zbF]; omega
    · have hnb : (n != 0) = true := by simpa using hn
      have HE := zaa (HW.out.trans (walk_no HR.out hn))
      go_wp2_with fail
      go_ret3
      exact wn_fin HE.out (SlF.nil _ _ _) (HM.out.below (HB1.out.alloc HB1.out.size _)) (HB1.out.alloc HB1.out.size _)
theorem SlR.formA {α : Type} {r : Rep α} {w : World} {S : Nat -> Prop} {v : Value} {xs : List α} (h : SlR r w S v xs) : ∃ A c, v = .slice A xs.length c := by
 obtain ⟨A, c, e, _⟩ := h
 exact ⟨A, c, e⟩
def Key1 (v : Value) (ks : List ByteArray) : Prop := (v = .slice none 0 0 /\ ks = []) ∨ ∃ g k, v = .slice (some ⟨g, 0, none⟩) 1 1 /\ ks = [k]
def PutN (X : Nat -> Prop) (N a : Nat) (x : Net) (r : List Entry × List ByteArray × Int) (w : World) (e : Ending) (w' : World) : Prop :=
 ∃ vk, e = .returned (.tuple #[vk, .int .i64 r.2.2]) /\ OwR strR 9 w.heap.size w' vk r.2.1 /\ Key1 vk r.2.1 /\ NetM X w' N (x.setN a { x.nd a with st := r.1 }) /\ w.grownBy w' (some N)
theorem pn_fin {X : Nat -> Prop} {N a : Nat} {x : Net} {r : List Entry × List ByteArray × Int} {st : List Entry} {ks : List ByteArray} {n : Int} (hr : r = (st, ks, n)) {w w' : World} {vk : Value} (h1 : OwR strR 9 w.heap.size w' vk ks) (h0 : Key1 vk ks)
 (h2 : NetM X w' N (x.setN a { x.nd a with st := st })) (h3 : w.grownBy w' (some N)) : PutN X N a x r w (.returned (.tuple #[vk, .int .i64 n])) w' := ⟨vk, by rw [hr], by rw [hr]; exact h1, by rw [hr]; exact h0, by rw [hr]; exact h2, h3⟩
theorem str_lit {w : World} {base B : Nat} {k : ByteArray} (hk : k.size <= maxLen) (hb : base <= w.heap.size) (hB : B = w.heap.size) : OwR strR 9 base (w.alloc (.cells #[.string k] 9)) (.slice (some ⟨B, 0, none⟩) 1 1) [k] := by
 subst hB
 have h1 : [k].length <= maxLen := Nat.le_of_ble_eq_true rfl
 exact OwR.lit1 (f := Value.string) (xs := [k]) rfl (fun y hy S => ⟨rfl, by simp at hy; subst hy; exact hk⟩) hb h1
theorem flatEnt {S S' : Nat -> Prop} {w : World} {cs : List Value} {x : Entry} (h : entR.holds w S cs x) : entR.holds w S' cs x := h
theorem setN_st (x : Net) (a : Nat) : x.setN a { x.nd a with st := (x.nd a).st } = x := setN_id x a _ rfl
set_option maxRecDepth 50000 in
theorem nput_any {X : Nat -> Prop} (N a : Nat) (key value : ByteArray) (x : Net) (w : World) (h : NetM X w N x) (ha : a < 12) (hk : key.size <= maxLen) (hv : value.size <= maxLen) :
  Calls Tryz.prog 58 #[.pointer (some ⟨N, 0, none⟩), .int .i64 (a : Nat), .string key, .string value] w (PutN X N a x (putO (x.nd a).st a key value) w) := by
 have HM := zaa h
 have ha0 : (0 : Int) <= (a : Int) := zaf a
 have ha1 : (a : Int) < 12 := by omega
 have HA12 := zaa ha
 have HA := zaa (show inR (a : Int) by unfold inR; omega)
 have HK := zaa hk
 have HV := zaa hv
 obtain ⟨v, c0, s0⟩ := (h.nd a ha).st
 obtain ⟨st, hst⟩ : ∃ st, st = (x.nd a).st := ⟨_, rfl⟩
 rw [<- hst] at s0 ⊢
 have HST := zaa hst
 obtain ⟨A, c, rfl⟩ := s0.formA
 have HSL := zaa s0.sl
 have hget := get_any (.slice A st.length c) st key w s0.sl
 obtain ⟨g, n, hgn⟩ : ∃ g n, getS st key = (g, n) := ⟨_, _, rfl⟩
 simp only [hgn] at hget
 unfold Entry.val at hget
 have HG := zaa hget
 have hpo : putO st a key value = if n = 0 /\ g.value = value /\ g.origin = a then (st, [], 0) else if (putS st a key value).2 ≠ 0 then (st, [], (putS st a key value).2) else ((putS st a key value).1, [key], 0) := by
  unfold putO; rw [hgn]
 clear h hst s0 hget hgn hk hv ha
 by_cases hn : n = 0
 · subst hn
   by_cases hgv : g.value = value
   · have hgb := key_eq hgv
     by_cases hgo : g.origin = a
     · have hob : (g.origin == (a : Int)) = true := by rw [beq_iff_eq]; exact hgo
       have HPO := zaa (hpo.trans (if_pos ⟨rfl, hgv, hgo⟩))
       clear hpo hgv hgo
       go_enter Tryz.func58, Tryz.ntmps58
       go_wp2_with fail
       refine HG.out.mono ?_
       rintro e w1 ⟨rfl, hb1⟩
       have HB1 := zaa hb1
       clear hb1
       go_wp2_with fail
       go_ret2
       exact pn_fin HPO.out (OwR.nil _ _ (by have := HB1.out.size; simp; omega)) (.inl ⟨rfl, rfl⟩) (by rw [HST.out, setN_st]; exact HM.out.below (HB1.out.alloc HB1.out.size _)) (below_grownN N (HB1.out.alloc HB1.out.size _))
     · have hob : (g.origin == (a : Int)) = false := by rw [beq_eq_false_iff_ne]; exact hgo
       have HPO := zaa (hpo.trans (if_neg (fun h => hgo h.2.2)))
       clear hpo hgv hgo
       have HCB := zaa c0
       obtain ⟨s2, n2, hs2⟩ : ∃ s2 n2, putS st (a : Int) key value = (s2, n2) := ⟨_, _, rfl⟩
       rw [hs2] at HPO
       by_cases hp : n2 = 0
       · subst hp
         have HPO2 := zaa (HPO.out.trans (if_neg (by simp)))
         go_enter Tryz.func58, Tryz.ntmps58
         go_wp2_with fail
         refine HG.out.mono ?_
         rintro e w1 ⟨rfl, hb1⟩
         have c1 := cell_keep hb1 HCB.out
         have c3 : (w1.alloc (.cells #[.string g.key, .int .i64 g.version, .int .i64 g.origin, .string g.value] 44)).cell? ⟨N, a * 4, none⟩ = some (.slice A st.length c) := cell_keep ((zad _ _).alloc (zab _) _) c1
         have hn1 : ¬ N = w1.heap.size := by have := hb1.size; have := HM.out.lt; omega
         have hn2 : ¬ w1.heap.size = N := fun e => hn1 e.symm
         have HB1 := zaa hb1
         have HPT := zaa (fun w' (hb : Below w.heap.size w w') => put_any (.slice A st.length c) st (a : Int) key value w' (HSL.out.below hb) HA.out HK.out HV.out)
         clear hb1
         go_wp2_with fail
         refine (HPT.out _ (HB1.out.alloc HB1.out.size _)).mono ?_
         rintro e w2 ⟨v2, rfl, ho2, hb2⟩
         rw [hs2] at ho2
         have HB2 := zaa ((HB1.out.alloc HB1.out.size _).trans (hb2.mono (by have := HB1.out.size; simp; omega)))
         obtain ⟨A2, n3, c2, rfl⟩ := ow_form ho2 (by decide)
         have hm2 := (HM.out.below HB2.out).setSt HA12.out ((ho2.slG (by decide) (fun _ _ _ _ h => flatEnt h)).toN (by have := HM.out.lt; have := HB1.out.size; simp; omega) (fun k hk => HM.out.top k (by have := HB1.out.size; simp at hk; omega)))
         obtain ⟨vx, g1, _⟩ := ((HM.out.below HB2.out).nd a HA12.out).st
         have g2 := (HM.out.below HB2.out).fz (a * 4)
         have HM2 := zaa hm2
         have HSZ := zaa HB2.out.size
         rw [hs2]
         clear ho2 hb2 hm2
         go_wp2_with fail
         go_ret2
         exact pn_fin HPO2.out (str_lit (w := w2.setCell ⟨N, a * 4, none⟩ (.slice A2 n3 c2)) (B := w2.heap.size) HK.out (by simpa [World.setCell] using HSZ.out) (by simp [World.setCell])) (.inr ⟨_, _, rfl, rfl⟩) (HM2.out.below ((zad _ _).alloc (zab _) _)) (((below_grownN N HB2.out).trans (setCell_grown _ _ _ _)).trans (below_grownN N ((zad _ _).alloc (zab _) _)))
       · have HPO2 := zaa (HPO.out.trans (if_pos (by simpa using hp)))
         have hnb : (n2 != 0) = true := by simpa using hp
         go_enter Tryz.func58, Tryz.ntmps58
         go_wp2_with fail
         refine HG.out.mono ?_
         rintro e w1 ⟨rfl, hb1⟩
         have c1 := cell_keep hb1 HCB.out
         have c3 : (w1.alloc (.cells #[.string g.key, .int .i64 g.version, .int .i64 g.origin, .string g.value] 44)).cell? ⟨N, a * 4, none⟩ = some (.slice A st.length c) := cell_keep ((zad _ _).alloc (zab _) _) c1
         have hn1 : ¬ N = w1.heap.size := by have := hb1.size; have := HM.out.lt; omega
         have hn2 : ¬ w1.heap.size = N := fun e => hn1 e.symm
         have HB1 := zaa hb1
         have HPT := zaa (fun w' (hb : Below w.heap.size w w') => put_any (.slice A st.length c) st (a : Int) key value w' (HSL.out.below hb) HA.out HK.out HV.out)
         clear hb1
         go_wp2_with fail
         refine (HPT.out _ (HB1.out.alloc HB1.out.size _)).mono ?_
         rintro e w2 ⟨v2, rfl, ho2, hb2⟩
         have HB2 := zaa ((HB1.out.alloc HB1.out.size _).trans (hb2.mono (by have := HB1.out.size; simp; omega)))
         rw [hs2]
         clear ho2 hb2
         go_wp2_with fail
         go_ret2
         exact pn_fin HPO2.out (OwR.nil _ _ HB2.out.size) (.inl ⟨rfl, rfl⟩) (by rw [HST.out, setN_st]; exact HM.out.below HB2.out) (below_grownN N HB2.out)
   · have hgb := key_ne hgv
     have HPO := zaa (hpo.trans (if_neg (fun h => hgv h.2.1)))
     clear hpo hgv
     have HCB := zaa c0
     obtain ⟨s2, n2, hs2⟩ : ∃ s2 n2, putS st (a : Int) key value = (s2, n2) := ⟨_, _, rfl⟩
     rw [hs2] at HPO
     by_cases hp : n2 = 0
     · subst hp
       have HPO2 := zaa (HPO.out.trans (if_neg (by simp)))
       go_enter Tryz.func58, Tryz.ntmps58
       go_wp2_with fail
       refine HG.out.mono ?_
       rintro e w1 ⟨rfl, hb1⟩
       have c1 := cell_keep hb1 HCB.out
       have c3 : (w1.alloc (.cells #[.string g.key, .int .i64 g.version, .int .i64 g.origin, .string g.value] 44)).cell? ⟨N, a * 4, none⟩ = some (.slice A st.length c) := cell_keep ((zad _ _).alloc (zab _) _) c1
       have hn1 : ¬ N = w1.heap.size := by have := hb1.size; have := HM.out.lt; omega
       have hn2 : ¬ w1.heap.size = N := fun e => hn1 e.symm
       have HB1 := zaa hb1
       have HPT := zaa (fun w' (hb : Below w.heap.size w w') => put_any (.slice A st.length c) st (a : Int) key value w' (HSL.out.below hb) HA.out HK.out HV.out)
       clear hb1
       go_wp2_with fail
       refine (HPT.out _ (HB1.out.alloc HB1.out.size _)).mono ?_
       rintro e w2 ⟨v2, rfl, ho2, hb2⟩
       rw [hs2] at ho2
       have HB2 := zaa ((HB1.out.alloc HB1.out.size _).trans (hb2.mono (by have := HB1.out.size; simp; omega)))
       obtain ⟨A2, n3, c2, rfl⟩ := ow_form ho2 (by decide)
       have hm2 := (HM.out.below HB2.out).setSt HA12.out ((ho2.slG (by decide) (fun _ _ _ _ h => flatEnt h)).toN (by have := HM.out.lt; have := HB1.out.size; simp; omega) (fun k hk => HM.out.top k (by have := HB1.out.size; simp at hk; omega)))
       obtain ⟨vx, g1, _⟩ := ((HM.out.below HB2.out).nd a HA12.out).st
       have g2 := (HM.out.below HB2.out).fz (a * 4)
       have HM2 := zaa hm2
       have HSZ := zaa HB2.out.size
       rw [hs2]
       clear ho2 hb2 hm2
       go_wp2_with fail
       go_ret2
       exact pn_fin HPO2.out (str_lit (w := w2.setCell ⟨N, a * 4, none⟩ (.slice A2 n3 c2)) (B := w2.heap.size) HK.out (by simpa [World.setCell] using HSZ.out) (by simp [World.setCell])) (.inr ⟨_, _, rfl, rfl⟩) (HM2.out.below ((zad _ _).alloc (zab _) _)) (((below_grownN N HB2.out).trans (setCell_grown _ _ _ _)).trans (below_grownN N ((zad _ _).alloc (zab _) _)))
     · have HPO2 := zaa (HPO.out.trans (if_pos (by simpa using hp)))
       have hnb : (n2 != 0) = true := by simpa using hp
       go_enter Tryz.func58, Tryz.ntmps58
       go_wp2_with fail
       refine HG.out.mono ?_
       rintro e w1 ⟨rfl, hb1⟩
       have c1 := cell_keep hb1 HCB.out
       have c3 : (w1.alloc (.cells #[.string g.key, .int .i64 g.version, .int .i64 g.origin, .string g.value] 44)).cell? ⟨N, a * 4, none⟩ = some (.slice A st.length c) := cell_keep ((zad _ _).alloc (zab _) _) c1
       have hn1 : ¬ N = w1.heap.size := by have := hb1.size; have := HM.out.lt; omega
       have hn2 : ¬ w1.heap.size = N := fun e => hn1 e.symm
       have HB1 := zaa hb1
       have HPT := zaa (fun w' (hb : Below w.heap.size w w') => put_any (.slice A st.length c) st (a : Int) key value w' (HSL.out.below hb) HA.out HK.out HV.out)
       clear hb1
       go_wp2_with fail
       refine (HPT.out _ (HB1.out.alloc HB1.out.size _)).mono ?_
       rintro e w2 ⟨v2, rfl, ho2, hb2⟩
       have HB2 := zaa ((HB1.out.alloc HB1.out.size _).trans (hb2.mono (by have := HB1.out.size; simp; omega)))
       rw [hs2]
       clear ho2 hb2
       go_wp2_with fail
       go_ret2
       exact pn_fin HPO2.out (OwR.nil _ _ HB2.out.size) (.inl ⟨rfl, rfl⟩) (by rw [HST.out, setN_st]; exact HM.out.below HB2.out) (below_grownN N HB2.out)
 · have hnb0 : (n == 0) = false := by rw [beq_eq_false_iff_ne]; exact hn
   have HPO := zaa (hpo.trans (if_neg (fun h => hn h.1)))
   clear hpo hn
   have HCB := zaa c0
   obtain ⟨s2, n2, hs2⟩ : ∃ s2 n2, putS st (a : Int) key value = (s2, n2) := ⟨_, _, rfl⟩
   rw [hs2] at HPO
   by_cases hp : n2 = 0
   · subst hp
     have HPO2 := zaa (HPO.out.trans (if_neg (by simp)))
     go_enter Tryz.func58, Tryz.ntmps58
     go_wp2_with fail
     refine HG.out.mono ?_
     rintro e w1 ⟨rfl, hb1⟩
     have c1 := cell_keep hb1 HCB.out
     have c3 : (w1.alloc (.cells #[.string g.key, .int .i64 g.version, .int .i64 g.origin, .string g.value] 44)).cell? ⟨N, a * 4, none⟩ = some (.slice A st.length c) := cell_keep ((zad _ _).alloc (zab _) _) c1
     have hn1 : ¬ N = w1.heap.size := by have := hb1.size; have := HM.out.lt; omega
     have hn2 : ¬ w1.heap.size = N := fun e => hn1 e.symm
     have HB1 := zaa hb1
     have HPT := zaa (fun w' (hb : Below w.heap.size w w') => put_any (.slice A st.length c) st (a : Int) key value w' (HSL.out.below hb) HA.out HK.out HV.out)
     clear hb1
     go_wp2_with fail
     refine (HPT.out _ (HB1.out.alloc HB1.out.size _)).mono ?_
     rintro e w2 ⟨v2, rfl, ho2, hb2⟩
     rw [hs2] at ho2
     have HB2 := zaa ((HB1.out.alloc HB1.out.size _).trans (hb2.mono (by have := HB1.out.size; simp; omega)))
     obtain ⟨A2, n3, c2, rfl⟩ := ow_form ho2 (by decide)
     have hm2 := (HM.out.below HB2.out).setSt HA12.out ((ho2.slG (by decide) (fun _ _ _ _ h => flatEnt h)).toN (by have := HM.out.lt; have := HB1.out.size; simp; omega) (fun k hk => HM.out.top k (by have := HB1.out.size; simp at hk; omega)))
     obtain ⟨vx, g1, _⟩ := ((HM.out.below HB2.out).nd a HA12.out).st
     have g2 := (HM.out.below HB2.out).fz (a * 4)
     have HM2 := zaa hm2
     have HSZ := zaa HB2.out.size
     rw [hs2]
     clear ho2 hb2 hm2
     go_wp2_with fail
     go_ret2
     exact pn_fin HPO2.out (str_lit (w := w2.setCell ⟨N, a * 4, none⟩ (.slice A2 n3 c2)) (B := w2.heap.size) HK.out (by simpa [World.setCell] using HSZ.out) (by simp [World.setCell])) (.inr ⟨_, _, rfl, rfl⟩) (HM2.out.below ((zad _ _).alloc (zab _) _)) (((below_grownN N HB2.out).trans (setCell_grown _ _ _ _)).trans (below_grownN N ((zad _ _).alloc (zab _) _)))
   · have HPO2 := zaa (HPO.out.trans (if_pos (by simpa using hp)))
     have hnb : (n2 != 0) = true := by simpa using hp
     go_enter Tryz.func58, Tryz.ntmps58
     go_wp2_with fail
     refine HG.out.mono ?_
     rintro e w1 ⟨rfl, hb1⟩
     have c1 := cell_keep hb1 HCB.out
     have c3 : (w1.alloc (.cells #[.string g.key, .int .i64 g.version, .int .i64 g.origin, .string g.value] 44)).cell? ⟨N, a * 4, none⟩ = some (.slice A st.length c) := cell_keep ((zad _ _).alloc (zab _) _) c1
     have hn1 : ¬ N = w1.heap.size := by have := hb1.size; have := HM.out.lt; omega
     have hn2 : ¬ w1.heap.size = N := fun e => hn1 e.symm
     have HB1 := zaa hb1
     have HPT := zaa (fun w' (hb : Below w.heap.size w w') => put_any (.slice A st.length c) st (a : Int) key value w' (HSL.out.below hb) HA.out HK.out HV.out)
     clear hb1
     go_wp2_with fail
     refine (HPT.out _ (HB1.out.alloc HB1.out.size _)).mono ?_
     rintro e w2 ⟨v2, rfl, ho2, hb2⟩
     have HB2 := zaa ((HB1.out.alloc HB1.out.size _).trans (hb2.mono (by have := HB1.out.size; simp; omega)))
     rw [hs2]
     clear ho2 hb2
     go_wp2_with fail
     go_ret2
     exact pn_fin HPO2.out (OwR.nil _ _ HB2.out.size) (.inl ⟨rfl, rfl⟩) (by rw [HST.out, setN_st]; exact HM.out.below HB2.out) (below_grownN N HB2.out)
end
section
open Go.RowKit Go.Deep
theorem equalE_eq (v1 v2 : Value) (xs : List Entry) (w : World) (h1 : Sl entR w v1 xs) (h2 : Sl entR w v2 xs) :
  Calls Tryz.prog 11 #[v1, v2] w fun e w' => e = .returned (.bool true) /\ Below w.heap.size w w' := by
 have hl := h1.len_le
 have q1 := fun (x y : Entry) (w' : World) => neq_ent x y w'
 have q2 := fun a b => guard_ent .neq a b
 obtain ⟨A1, c1, rfl⟩ := h1.form
 obtain ⟨A2, c2, rfl⟩ := h2.form
 have H1 := zaa h1
 have H2 := zaa h2
 clear h1 h2
 go_enter Tryz.func11, Tryz.ntmps11
 go_wp2_with fail
 go_loopw [5, 13] (fun _ s13 wr => ∃ k : Nat, k <= xs.length /\ s13 = .int .i64 k /\ Below w.heap.size w wr) (fun _ s13 _ => xs.length - (intOf s13).toNat)
 case atStart => exact ⟨0, zak _, rfl, zad _ _⟩
 case round =>
  obtain ⟨k, hk, rfl, hB⟩ := hrel
  have HB := zaa hB
  by_cases hlt : k < xs.length
  · obtain ⟨b1, o1, rfl, hb1⟩ := H1.out.at_ hlt
    obtain ⟨b2, o2, rfl, hb2⟩ := H2.out.at_ hlt
    obtain ⟨f1, f2, f3, f4, _⟩ := (H1.out.below hB).ent hlt
    obtain ⟨g1, g2, g3, g4, _⟩ := (H2.out.below hB).ent hlt
    have r0 : (0 : Int) <= (k : Int) := zaf _
    have r1 : (k : Int) < (xs.length : Int) := by omega
    have q3 := q1 xs[k] xs[k]
    rw [sameE_refl] at q3
    clear hB q1
    go_wp2_with fail
    go_quiet (fail)
    go_wp2_with fail
    go_roundw
    case rel => exact ⟨k + 1, by omega, by go_num, bDrewN HB.out _⟩
    case measure => simp [intOf]; omega
  · clear hB
    go_wp2_with fail
    go_ret
    exact ⟨rfl, HB.out⟩
theorem OwR.setB {base : Nat} {w : World} {g n cap : Nat} {xs : List UInt8} (h : OwR byteR 5 base w (.slice (some ⟨g, 0, none⟩) n cap) xs) (hn : n = xs.length) (i : Nat) (c : UInt8) :
  OwR byteR 5 base (w.setCell ⟨g, i, none⟩ (.int .u8 c.toNat)) (.slice (some ⟨g, 0, none⟩) n cap) (xs.set i c) := by
 obtain ⟨h1, h2⟩ := OwR.to_bytes h
 subst hn
 obtain ⟨s1, k1⟩ := h1.stored i (.int .u8 c.toNat)
 refine OwR.of_bytes ?_ (zaz h2 k1.size)
 rw [zbx, List.map_set]
 exact s1
theorem OwR.atB {base : Nat} {w : World} {v : Value} {xs : List UInt8} (h : OwR byteR 5 base w v xs) (h0 : 0 < xs.length) : ∃ g cap, v = .slice (some ⟨g, 0, none⟩) xs.length cap /\ base <= g /\ g < w.heap.size /\ (∀ j, w.frozen? ⟨g, j, none⟩ = false) := by
 obtain ⟨h1, _⟩ := OwR.to_bytes h
 rcases h1.2 with ⟨_, h2⟩ | ⟨g, cap, cur, rfl, hb, hg, _⟩
 · omega
 · exact ⟨g, cap, rfl, hb, (h1.lt g rfl).2, fun j => h1.frozenAt j⟩
theorem Sl.wfs {w : World} {v : Value} {xs : List Entry} (h : Sl entR w v xs) : ∀ e ∈ xs, e.wf := by
 intro e he
 obtain ⟨j, hj, rfl⟩ := zaj he
 obtain ⟨A, c, rfl⟩ := h.form
 obtain ⟨b, off, rfl, _⟩ := h.at_ hj
 exact (h.ent hj).2.2.2.2
end
section
open Go Go.RowKit Go.Deep
def KeysN (X : Nat -> Prop) (N : Nat) (r : Net × List ByteArray × Int) (w : World) (e : Ending) (w' : World) : Prop :=
 ∃ vk, e = .returned (.tuple #[vk, .int .i64 r.2.2]) /\ SlF strR w.heap.size w' vk r.2.1 /\ NetM X w' N r.1 /\ w.grownBy w' (some N)
theorem kn_fin {X : Nat -> Prop} {N : Nat} {x : Net} {r : Net × List ByteArray × Int} {ks : List ByteArray} {n : Int} (hr : r = (x, ks, n)) {w w' : World} {vk : Value} (h1 : SlF strR w.heap.size w' vk ks)
 (h2 : NetM X w' N x) (h3 : w.grownBy w' (some N)) : KeysN X N r w (.returned (.tuple #[vk, .int .i64 n])) w' := ⟨vk, by rw [hr], by rw [hr]; exact h1, by rw [hr]; exact h2, h3⟩
theorem xor_one (c : UInt8) : bits BinOp.xor IntKind.u8 (c.toNat : Int) 1 = ((c ^^^ 1).toNat : Int) := by
 have h : ∀ n : Fin 256, bits BinOp.xor IntKind.u8 ((n.val : Nat) : Int) 1 = ((n.val ^^^ 1 : Nat) : Int) := by decide +kernel
 have := h ⟨c.toNat, c.toNat_lt⟩
 rw [UInt8.toNat_xor]
 exact this
set_option maxRecDepth 50000 in
theorem nsend_any {X : Nat -> Prop} (N a : Nat) (b n : Int) (x : Net) (w : World) (h : NetM X w N x) (ha : a < 12) (hx : NetOk x) (hn : inR n) :
  Calls Tryz.prog 32 #[.pointer (some ⟨N, 0, none⟩), .int .i64 (a : Nat), .int .i64 b, .int .i64 n] w (KeysN X N (sendS x a b n) w) := by
 have HM := zaa h
 have ha0 : (0 : Int) <= (a : Int) := zaf a
 have ha1 : (a : Int) < 12 := by omega
 have HA12 := zaa ha
 cases hb : isN b with
 | false =>
   have HL := zaa (show sendS x a b n = (x, [], 2) by unfold sendS; rw [if_pos hb])
   have HI := zaa (nis_any b w hb)
   clear h hb hx hn
   go_enter Tryz.func32, Tryz.ntmps32
   go_wp2_with (go_at_call 27; refine HI.out.mono ?_; rintro e w' ⟨rfl, rfl⟩)
   go_ret2
   exact kn_fin HL.out (SlF.nil _ _ _) HM.out (zaX _ _)
 | true =>
   have HI := zaa (nis_any b w hb)
   obtain ⟨hb0, hb1⟩ := (isN_iff b).1 hb
   obtain ⟨k, rfl⟩ : ∃ k : Nat, b = k := ⟨b.toNat, by omega⟩
   have hk : k < 12 := by omega
   have HB12 := zaa hk
   have hnb : ¬ isN (k : Int) = false := by rw [hb]; simp
   have f1 := h.co a k ha hk
   by_cases hc : x.co a k = 0
   · have HL := zaa (show sendS x a k n = (x, [], 6) by unfold sendS; rw [if_neg hnb, if_pos (by simpa using hc)])
     rw [hc] at f1
     clear h hb hx hn hnb hc
     go_enter Tryz.func32, Tryz.ntmps32
     go_wp2_with (go_at_call 27; refine HI.out.mono ?_; rintro e w' ⟨rfl, rfl⟩)
     go_ret2
     exact kn_fin HL.out (SlF.nil _ _ _) HM.out (zaX _ _)
   · have hsend : sendS x a k n = if (decS (wireB (x.nd a).st n)).2 ≠ 0 then (x, [], (decS (wireB (x.nd a).st n)).2) else
       (x.setN k { x.nd k with st := (mergeS aboveE (x.nd k).st (decS (wireB (x.nd a).st n)).1).1 }, (mergeS aboveE (x.nd k).st (decS (wireB (x.nd a).st n)).1).2.1, 0) := by
      unfold sendS; rw [if_neg hnb, if_neg (by simpa using hc)]; rfl
     have HSE := zaa (fun h => hsend.trans (if_pos h))
     have HSN := zaa (fun (h : (decS (wireB (x.nd a).st n)).2 = 0) => hsend.trans (if_neg (by rw [h]; simp)))
     have hcb : (x.co a k == 0) = false := by rw [beq_eq_false_iff_ne]; exact hc
     obtain ⟨y, hy⟩ : ∃ y, x.co a k = y := ⟨_, rfl⟩
     rw [hy] at f1 hcb
     obtain ⟨v, c0, s0⟩ := (h.nd a ha).st
     obtain ⟨st, hst⟩ : ∃ st, st = (x.nd a).st := ⟨_, rfl⟩
     rw [<- hst] at s0
     have HST := zaa hst
     obtain ⟨A, c, rfl⟩ := s0.formA
     have HOK := zaa (show OkS st by rw [hst]; exact (hx.nd a ha).st)
     have HNB := zaa (hx.nd k hk).st
     have henc := encode_any (.slice A st.length c) st w s0.sl
     unfold EncPost encR at henc
     rw [HOK.out.check, if_pos rfl] at henc
     have HEN := zaa henc
     have HLEN := zaa (encS_len st HOK.out)
     obtain ⟨dl, dn, hdc⟩ : ∃ dl dn, decS (wireB st n) = (dl, dn) := ⟨_, _, rfl⟩
     have HDC := zaa hdc
     obtain ⟨es, hes⟩ : ∃ es, es = encS st := ⟨_, rfl⟩
     rw [<- hes] at HEN HLEN
     have HES := zaa hes
     clear h hb hx hnb hc hsend hst s0 henc hdc hes hy
     by_cases h0 : 0 <= n
     · obtain ⟨i, hi, hil⟩ : ∃ i : Nat, i = n.toNat % es.length /\ i < es.length := ⟨_, rfl, Nat.mod_lt _ (by have := HLEN.out.1; omega)⟩
       have HWI := zaa (show wireB st n = es.set i (es[i] ^^^ 1) by
        unfold wireB; rw [if_pos h0, <- HES.out, <- hi, zal, zac hil]; rfl)
       have hrem : n.tmod (es.length : Int) = (i : Int) := by
        rw [hi, Int.tmod_eq_emod_of_nonneg h0, Int.natCast_emod, Int.toNat_of_nonneg h0]
       have hlz : ¬ (es.length : Int) = 0 := by omega
       clear hi
       go_enter Tryz.func32, Tryz.ntmps32
       go_wp2_with (go_at_call 27; refine HI.out.mono ?_; rintro e w' ⟨rfl, rfl⟩)
       refine HEN.out.mono ?_
       rintro e w2 ⟨v2, rfl, ho2, hb2⟩
       obtain ⟨g, c2, rfl, hgb, hgw, hgf⟩ := ho2.atB (by omega)
       have fb := (ho2.sl (by decide)).byte hil
       simp only [zaM] at fb
       have HO2 := zaa ho2
       have HB2 := zaa hb2
       have hgf0 := hgf i
       have hii : (i : Int) < (es.length : Int) := by omega
       have hi0 : (0 : Int) <= (i : Int) := zaf i
       clear ho2 hb2 hgf
       go_wp2_with fail
       rw [xor_one]
       have HO2 := zaa (HO2.out.setB rfl i (es[i] ^^^ 1))
       have HB2 := zaa (HB2.out.setCell (p := ⟨g, i, none⟩) hgb (.int .u8 (es[i] ^^^ 1).toNat))
       clear fb hgf0
       have HDE := zaa (decode_any _ _ _ (HO2.out.sl (by decide)))
       unfold DecPost at HDE
       rw [<- HWI.out, HDC.out] at HDE
       refine HDE.out.mono ?_
       rintro e w3 ⟨v3, rfl, ho3, hb3⟩
       obtain ⟨A3, n3, c3, rfl⟩ := ow_form ho3 (by decide)
       have HB3 := zaa (HB2.out.trans (hb3.mono HB2.out.size))
       have HO3 := zaa ho3
       clear ho3 hb3
       by_cases hd : dn = 0
       · subst hd
         have HOKD := zaa (okS_of (decS_ok (b := wireB st n) (xs := dl) (by rw [HDC.out])).1)
         obtain ⟨vb, cb0, sb0⟩ := (HM.out.nd k HB12.out).st
         obtain ⟨sb, hsb⟩ : ∃ sb, sb = (x.nd k).st := ⟨_, rfl⟩
         rw [<- hsb] at sb0
         have HSB := zaa hsb
         obtain ⟨Ab, cb, rfl⟩ := sb0.formA
         have HSLB := zaa sb0.sl
         have cb1 := cell_keep HB3.out cb0
         have HOKB := zaa (show OkS sb by rw [hsb]; exact HNB.out)
         have HMG := zaa (merge_any (.slice Ab sb.length cb) (.slice A3 n3 c3) sb dl _ (HSLB.out.below HB3.out) (HO3.out.sl (by decide)) (Sl.wfs (v := .slice A3 n3 c3) (HO3.out.sl (by decide))) (Sl.wfs HSLB.out))
         obtain ⟨ms, mk, hmm⟩ : ∃ ms mk, mergeS aboveE sb dl = (ms, mk, 0) := ⟨_, _, by rw [merge_ok HOKB.out.check HOKD.out.check]⟩
         rw [hmm] at HMG
         have HSD := zaa (show sendS x a k n = (x.setN k { x.nd k with st := ms }, mk, 0) by
          have h9 := HSN.out (by rw [<- HST.out, HDC.out])
          rw [<- HST.out, HDC.out, <- HSB.out] at h9
          rw [h9, hmm])
         clear sb0 hsb cb0
         go_wp2_with fail
         refine HMG.out.mono ?_
         rintro e w4 ⟨v4, u4, rfl, htw, hb4⟩
         obtain ⟨A4, n4, c4, rfl⟩ := ow_form htw.out (by decide)
         obtain ⟨A5, n5, c5, rfl⟩ := ow_form htw.keys (by decide)
         have HB4 := zaa (HB3.out.trans (hb4.mono HB3.out.size))
         have hbs := HB3.out.size
         have hm4 := (HM.out.below HB4.out).setSt HB12.out ((htw.out.slG (by decide) (fun _ _ _ _ h => flatEnt h)).toN (by have := HM.out.lt; omega) (fun k hk => HM.out.top k (by omega)))
         have hk4 := (htw.keys.slG (by decide) (fun _ _ _ _ h => h)).mono hbs
         obtain ⟨vx, g1, _⟩ := ((HM.out.below HB4.out).nd k HB12.out).st
         have g2 := (HM.out.below HB4.out).fz (k * 4)
         have HM4 := zaa hm4
         have hNw := HM.out.lt
         have HK4 := zaa (SlR.keep (w' := w4.setCell ⟨N, k * 4, none⟩ (.slice A4 n4 c4)) (S' := fun q => q < (w4.setCell ⟨N, k * 4, none⟩ (.slice A4 n4 c4)).heap.size /\ w.heap.size <= q) hk4 (fun q hq => zai _ _ _ _ (show q ≠ N by have := hq.2; omega)) (fun q hq => ⟨by simpa [World.setCell] using hq.1, hq.2⟩))
         have HG4 := zaa ((below_grownN N HB4.out).trans (setCell_grown w4 N (k * 4) (.slice A4 n4 c4)))
         clear htw hb4 hm4 hk4 hbs hNw
         go_wp2_with fail
         go_ret2
         exact kn_fin HSD.out HK4.out HM4.out HG4.out
       · have hdb : (dn != 0) = true := by simpa using hd
         have HSD := zaa (HSE.out (by rw [<- HST.out, HDC.out]; exact hd))
         go_wp2_with fail
         go_ret2
         exact kn_fin (HSD.out.trans (by rw [<- HST.out, HDC.out])) (SlF.nil _ _ _) (HM.out.below HB3.out) (below_grownN N HB3.out)
     · have HWI := zaa (show wireB st n = es by unfold wireB; rw [if_neg h0]; exact HES.out.symm)
       have hneg : ¬ (0 : Int) <= n := h0
       go_enter Tryz.func32, Tryz.ntmps32
       go_wp2_with (go_at_call 27; refine HI.out.mono ?_; rintro e w' ⟨rfl, rfl⟩)
       refine HEN.out.mono ?_
       rintro e w2 ⟨v2, rfl, ho2, hb2⟩
       obtain ⟨A2, n2, c2, rfl⟩ := ow_form ho2 (by decide)
       have HO2 := zaa ho2
       have HB2 := zaa hb2
       clear ho2 hb2
       go_wp2_with fail
       have HDE := zaa (decode_any _ _ _ (HO2.out.sl (by decide)))
       unfold DecPost at HDE
       rw [<- HWI.out, HDC.out] at HDE
       refine HDE.out.mono ?_
       rintro e w3 ⟨v3, rfl, ho3, hb3⟩
       obtain ⟨A3, n3, c3, rfl⟩ := ow_form ho3 (by decide)
       have HB3 := zaa (HB2.out.trans (hb3.mono HB2.out.size))
       have HO3 := zaa ho3
       clear ho3 hb3
       by_cases hd : dn = 0
       · subst hd
         have HOKD := zaa (okS_of (decS_ok (b := wireB st n) (xs := dl) (by rw [HDC.out])).1)
         obtain ⟨vb, cb0, sb0⟩ := (HM.out.nd k HB12.out).st
         obtain ⟨sb, hsb⟩ : ∃ sb, sb = (x.nd k).st := ⟨_, rfl⟩
         rw [<- hsb] at sb0
         have HSB := zaa hsb
         obtain ⟨Ab, cb, rfl⟩ := sb0.formA
         have HSLB := zaa sb0.sl
         have cb1 := cell_keep HB3.out cb0
         have HOKB := zaa (show OkS sb by rw [hsb]; exact HNB.out)
         have HMG := zaa (merge_any (.slice Ab sb.length cb) (.slice A3 n3 c3) sb dl _ (HSLB.out.below HB3.out) (HO3.out.sl (by decide)) (Sl.wfs (v := .slice A3 n3 c3) (HO3.out.sl (by decide))) (Sl.wfs HSLB.out))
         obtain ⟨ms, mk, hmm⟩ : ∃ ms mk, mergeS aboveE sb dl = (ms, mk, 0) := ⟨_, _, by rw [merge_ok HOKB.out.check HOKD.out.check]⟩
         rw [hmm] at HMG
         have HSD := zaa (show sendS x a k n = (x.setN k { x.nd k with st := ms }, mk, 0) by
          have h9 := HSN.out (by rw [<- HST.out, HDC.out])
          rw [<- HST.out, HDC.out, <- HSB.out] at h9
          rw [h9, hmm])
         clear sb0 hsb cb0
         go_wp2_with fail
         refine HMG.out.mono ?_
         rintro e w4 ⟨v4, u4, rfl, htw, hb4⟩
         obtain ⟨A4, n4, c4, rfl⟩ := ow_form htw.out (by decide)
         obtain ⟨A5, n5, c5, rfl⟩ := ow_form htw.keys (by decide)
         have HB4 := zaa (HB3.out.trans (hb4.mono HB3.out.size))
         have hbs := HB3.out.size
         have hm4 := (HM.out.below HB4.out).setSt HB12.out ((htw.out.slG (by decide) (fun _ _ _ _ h => flatEnt h)).toN (by have := HM.out.lt; omega) (fun k hk => HM.out.top k (by omega)))
         have hk4 := (htw.keys.slG (by decide) (fun _ _ _ _ h => h)).mono hbs
         obtain ⟨vx, g1, _⟩ := ((HM.out.below HB4.out).nd k HB12.out).st
         have g2 := (HM.out.below HB4.out).fz (k * 4)
         have HM4 := zaa hm4
         have hNw := HM.out.lt
         have HK4 := zaa (SlR.keep (w' := w4.setCell ⟨N, k * 4, none⟩ (.slice A4 n4 c4)) (S' := fun q => q < (w4.setCell ⟨N, k * 4, none⟩ (.slice A4 n4 c4)).heap.size /\ w.heap.size <= q) hk4 (fun q hq => zai _ _ _ _ (show q ≠ N by have := hq.2; omega)) (fun q hq => ⟨by simpa [World.setCell] using hq.1, hq.2⟩))
         have HG4 := zaa ((below_grownN N HB4.out).trans (setCell_grown w4 N (k * 4) (.slice A4 n4 c4)))
         clear htw hb4 hm4 hk4 hbs hNw
         go_wp2_with fail
         go_ret2
         exact kn_fin HSD.out HK4.out HM4.out HG4.out
       · have hdb : (dn != 0) = true := by simpa using hd
         have HSD := zaa (HSE.out (by rw [<- HST.out, HDC.out]; exact hd))
         go_wp2_with fail
         go_ret2
         exact kn_fin (HSD.out.trans (by rw [<- HST.out, HDC.out])) (SlF.nil _ _ _) (HM.out.below HB3.out) (below_grownN N HB3.out)
end
section
open Go.RowKit Go.Deep
structure Raw where
 kind : Int
 a : Int
 b : Int
 c : Int
def rawR : Rep Raw := flatR 4 (fun s => [.int .i64 s.kind, .int .i64 s.a, .int .i64 s.b, .int .i64 s.c]) (fun s => inR s.kind /\ inR s.a /\ inR s.b /\ inR s.c) (fun _ => rfl) (fun x u h => by simp at h; rcases h with rfl | rfl | rfl | rfl <;> rfl)
theorem Sl.raw {w : World} {b off c n : Nat} {xs : List Raw} (h : Sl rawR w (.slice (some ⟨b, off, none⟩) n c) xs) {k : Nat} (hk : k < xs.length) :
  w.cell? ⟨b, off + k * 4, none⟩ = some (.int .i64 xs[k].kind) /\ w.cell? ⟨b, off + k * 4 + 1, none⟩ = some (.int .i64 xs[k].a) /\ w.cell? ⟨b, off + k * 4 + 2, none⟩ = some (.int .i64 xs[k].b) /\ w.cell? ⟨b, off + k * 4 + 3, none⟩ = some (.int .i64 xs[k].c) /\
   inR xs[k].kind /\ inR xs[k].a /\ inR xs[k].b /\ inR xs[k].c := by
 obtain ⟨cs, ⟨rfl, hw⟩, hc⟩ := h.cell hk
 exact ⟨hc 0 _ rfl, hc 1 _ rfl, hc 2 _ rfl, hc 3 _ rfl, hw⟩
def pickN (n : Int) (many : Nat) : Nat := ((if n < 0 then -(n + 1) else n) % (many : Int)).toNat
theorem pickN_lt (n : Int) (many : Nat) (h : 0 < many) : pickN n many < many := by
 unfold pickN
 have h1 : (0 : Int) < (many : Int) := by omega
 have h2 := Int.emod_lt_of_pos (if n < 0 then -(n + 1) else n) h1
 have h3 := Int.emod_nonneg (if n < 0 then -(n + 1) else n) (show (many : Int) ≠ 0 by omega)
 omega
theorem pickN_val (n : Int) (many : Nat) (h : 0 < many) : ((pickN n many : Nat) : Int) = (if n < 0 then -(n + 1) else n) % (many : Int) := by
 unfold pickN
 have h3 := Int.emod_nonneg (if n < 0 then -(n + 1) else n) (show (many : Int) ≠ 0 by omega)
 omega
theorem picked_any (n : Int) (many : Nat) (w : World) (hn : inR n) (h0 : 0 < many) (h1 : many <= 1000000) :
  Calls Tryz.prog 24 #[.int .i64 n, .int .i64 (many : Nat)] w fun e w' => e = .returned (.int .i64 (pickN n many : Nat)) /\ w = w' := by
 obtain ⟨hn1, hn2⟩ := hn
 have hv := pickN_val n many h0
 have hm0 : ¬ ((many : Int) = 0) := by omega
 have hm1 : (0 : Int) < (many : Int) := by omega
 by_cases hneg : n < 0
 · rw [if_pos hneg] at hv
   have HV := zaa hv
   have hx : (0 : Int) <= -(n + 1) := by omega
   have HE := zaa (show (-(n + 1)).tmod (many : Int) = -(n + 1) % (many : Int) from Int.tmod_eq_emod_of_nonneg hx)
   have HL := zaa (Int.emod_lt_of_pos (-(n + 1)) hm1)
   have HG := zaa (Int.emod_nonneg (-(n + 1)) (show (many : Int) ≠ 0 by omega))
   clear hv
   go_enter Tryz.func24, Tryz.ntmps24
   go_wp2_with fail
   go_ret
   exact ⟨ei (by rw [HV.out, <- HE.out, Int.neg_tmod]), rfl⟩
 · rw [if_neg hneg] at hv
   have HV := zaa hv
   clear hv
   go_enter Tryz.func24, Tryz.ntmps24
   go_wp2_with fail
   go_ret
   exact ⟨ei HV.out.symm, rfl⟩
theorem picked_q (n : Int) (many : Nat) (w : World) (hn : inR n) (h0 : 0 < many) (h1 : many <= 1000000) :
 Calls Tryz.prog 24 #[.int .i64 n, .int .i64 (many : Nat)] w fun e w' => e = .returned (.int .i64 (pickN n many : Nat)) /\ w' = w := (picked_any n many w hn h0 h1).mono fun _ _ h => ⟨h.1, h.2.symm⟩
def keyL : List ByteArray := [⟨#[97, 58, 49]⟩, ⟨#[97, 58, 50]⟩, ⟨#[112, 58, 49]⟩, ⟨#[120]⟩, ⟨#[121, 58, 122]⟩, ⟨#[107, 57]⟩]
def valL : List ByteArray := [⟨#[]⟩, ⟨#[118]⟩, ⟨#[119]⟩, ⟨#[49, 61, 53]⟩, ⟨#[49, 50, 56, 47, 49]⟩]
def keyN (k : Nat) : ByteArray := keyL.getD k ⟨#[]⟩
def valN (k : Nat) : ByteArray := valL.getD k ⟨#[]⟩
def rawE (r : Raw) : Entry := ⟨keyN (pickN r.kind 6), 1 + (pickN r.a 4 : Nat), (pickN r.b 3 : Nat), valN (pickN r.c 5)⟩
theorem rawE_ok (r : Raw) : entryOk (rawE r) = true := by
 have h1 := pickN_lt r.kind 6 (by omega)
 have h2 := pickN_lt r.a 4 (by omega)
 have h3 := pickN_lt r.b 3 (by omega)
 have h4 := pickN_lt r.c 5 (by omega)
 have k1 : ∀ k, k < 6 -> keyOk (keyN k) = true := by decide
 have k2 : ∀ k, k < 5 -> (valN k).size <= 120 := by decide
 unfold entryOk rawE
 simp only [k1 _ h1, Bool.true_and, Bool.and_eq_true, decide_eq_true_eq]
 have := k2 _ h4
 omega
theorem rawE_wf (r : Raw) : (rawE r).wf := by
 have h2 := pickN_lt r.a 4 (by omega)
 have h3 := pickN_lt r.b 3 (by omega)
 obtain ⟨k1, k2, _, _, _, _, k7⟩ := entryOk_bounds (rawE_ok r)
 refine ⟨by unfold maxLen; omega, ?_, ?_, by unfold maxLen; omega⟩
 · show inR (1 + (pickN r.a 4 : Nat)); unfold inR; omega
 · show inR (pickN r.b 3 : Nat); unfold inR; omega
end
section
open Go Go.RowKit Go.Deep
def bitsL : List Int := [0, 1, 2, 3, 4, 8, 8, 5]
theorem bitsL_in : ∀ q, q < 8 -> 0 <= bitsL.getD q 0 /\ bitsL.getD q 0 <= 8 := by decide
def rawP (n : Int) : Prefix := ⟨(pickN (n.tdiv 8) 256 : Nat) - ((pickN (n.tdiv 8) 256 : Nat) : Int) % spanN (bitsL.getD (pickN n 8) 0), bitsL.getD (pickN n 8) 0⟩
theorem rawP_in (n : Int) : inR (rawP n).addr /\ inR (rawP n).bits := by
 have h1 := pickN_lt n 8 (by omega)
 have h2 := pickN_lt (n.tdiv 8) 256 (by omega)
 have h3 := bitsL_in _ h1
 constructor
 · show inR ((pickN (n.tdiv 8) 256 : Nat) - ((pickN (n.tdiv 8) 256 : Nat) : Int) % spanN (bitsL.getD (pickN n 8) 0))
   have h0 : (0 : Int) <= (pickN (n.tdiv 8) 256 : Nat) := zaf _
   have h4 : 0 <= spanN (bitsL.getD (pickN n 8) 0) := by unfold spanN; exact zaf _
   have h5 := Int.emod_nonneg ((pickN (n.tdiv 8) 256 : Nat) : Int) (b := spanN (bitsL.getD (pickN n 8) 0))
   have h6 : ((pickN (n.tdiv 8) 256 : Nat) : Int) % spanN (bitsL.getD (pickN n 8) 0) <= ((pickN (n.tdiv 8) 256 : Nat) : Int) := by
    unfold spanN
    show ((pickN (n.tdiv 8) 256 % (256 / 2 ^ (bitsL.getD (pickN n 8) 0).toNat) : Nat) : Int) <= _
    have := Nat.mod_le (pickN (n.tdiv 8) 256) (256 / 2 ^ (bitsL.getD (pickN n 8) 0).toNat)
    omega
   by_cases e : spanN (bitsL.getD (pickN n 8) 0) = 0
   · rw [e, Int.emod_zero]; unfold inR; omega
   · have := h5 e
     unfold inR; omega
 · show inR (bitsL.getD (pickN n 8) 0)
   unfold inR; omega
set_option maxRecDepth 50000 in
theorem prefixK_any (n : Int) (w : World) (hn : inR n) :
  Calls Tryz.prog 25 #[.int .i64 n] w fun e w' => e = .returned (.agg #[.int .i64 (rawP n).addr, .int .i64 (rawP n).bits]) /\ Below w.heap.size w w' := by
 have hq := pickN_lt n 8 (by omega)
 have hd : inR (n.tdiv 8) := by
  obtain ⟨h1, h2⟩ := hn
  unfold inR
  have e1 : n.tdiv 8 = if 0 <= n then n / 8 else -((-n) / 8) := by
   split
   · exact Int.tdiv_eq_ediv_of_nonneg (by omega)
   · have : n = -(-n) := by omega
     rw [this, Int.neg_tdiv, Int.tdiv_eq_ediv_of_nonneg (by omega)]
     simp
  rw [e1]
  split <;> omega
 have ha := pickN_lt (n.tdiv 8) 256 (by omega)
 have P1 := zaa (fun w => picked_any n 8 w hn (by omega) (by omega))
 have P2 := zaa (fun w => picked_any (n.tdiv 8) 256 w hd (by omega) (by omega))
 have hb := bitsL_in _ hq
 have hand := andNot_span (pickN (n.tdiv 8) 256 : Nat) (bitsL.getD (pickN n 8) 0) hb.1 hb.2 (zaf _) (by omega)
 have HR := zaa (show rawP n = ⟨(pickN (n.tdiv 8) 256 : Nat) - ((pickN (n.tdiv 8) 256 : Nat) : Int) % spanN (bitsL.getD (pickN n 8) 0), bitsL.getD (pickN n 8) 0⟩ from rfl)
 have hwd : wrap64 (n.tdiv 8) = n.tdiv 8 := by unfold inR at hd; unfold wrap64; omega
 have HWD := zaa hwd
 have hcell : ∀ W : World, ∀ B, B = W.heap.size -> (W.alloc (.cells #[.int .i64 0, .int .i64 1, .int .i64 2, .int .i64 3, .int .i64 4, .int .i64 8, .int .i64 8, .int .i64 5] 3)).cell? ⟨B, pickN n 8, none⟩ = some (.int .i64 (bitsL.getD (pickN n 8) 0)) := by
  intro W B hB
  rw [zae _ _ _ _ hB]
  generalize pickN n 8 = q at hq ⊢
  have : q = 0 ∨ q = 1 ∨ q = 2 ∨ q = 3 ∨ q = 4 ∨ q = 5 ∨ q = 6 ∨ q = 7 := by omega
  rcases this with rfl | rfl | rfl | rfl | rfl | rfl | rfl | rfl <;> rfl
 have HC := zaa hcell
 obtain ⟨R, hR⟩ : ∃ R, R = rawP n := ⟨_, rfl⟩
 rw [<- hR] at HR
 rw [<- hR]
 have hb1 := hb.1
 have hb2 := hb.2
 clear hcell hb hR hd hn hwd
 generalize bitsL.getD (pickN n 8) 0 = b at *
 generalize pickN n 8 = q at *
 generalize pickN (n.tdiv 8) 256 = a at *
 have hqi : (q : Int) < 8 := by omega
 have hq0 : (0 : Int) <= (q : Int) := zaf q
 have hbn : ¬ b < 0 := by omega
 have c1 := HC.out (w.alloc (.cells #[.int .i64 0, .int .i64 0] 32)) _ rfl
 simp only [zbp] at c1
 have HAL := zaa (((zad w.heap.size w).alloc (zab _) (.cells #[.int .i64 0, .int .i64 0] 32)).alloc (by simp) (.cells #[.int .i64 0, .int .i64 1, .int .i64 2, .int .i64 3, .int .i64 4, .int .i64 8, .int .i64 8, .int .i64 5] 3))
 clear ha hq
 go_enter Tryz.func25, Tryz.ntmps25
 go_wp2_with fail
 refine (P1.out _).mono ?_
 rintro e w' ⟨rfl, rfl⟩
 go_wp2_with fail
 rw [HWD.out]
 refine (P2.out _).mono ?_
 rintro e w' ⟨rfl, rfl⟩
 go_wp2_with fail
 refine bodyPost_ret (v := .agg #[.int .i64 (a - a % spanN b), .int .i64 b]) (by simp [results, Tryz.results25, go_sem, *]) rfl ⟨by rw [HR.out], ((zad w.heap.size w).alloc (zab _) _).alloc (by simp) _⟩
end
section
open Go Go.RowKit
def TAdj (d : Bool) (xs : List Side) (e : Ending) : Prop := e = .returned (.tuple #[.string (if chkSides xs = 0 then bOf (adjT d xs) else ⟨#[]⟩), .int .i64 (chkSides xs)])
theorem ta_good {d : Bool} {xs : List Side} {t : List UInt8} (h : chkSides xs = 0) (ht : t = adjT d xs) : TAdj d xs (.returned (.tuple #[.string (bOf t), .int .i64 0])) := by unfold TAdj; rw [if_pos h, h, ht]
theorem ta_bad {d : Bool} {xs : List Side} (h : chkSides xs ≠ 0) : TAdj d xs (.returned (.tuple #[.string ⟨#[]⟩, .int .i64 (chkSides xs)])) := by unfold TAdj; rw [if_neg h]
theorem add_bang (T : List UInt8) (h : 1 + T.length <= 9223372036854775807) (w : World) : (Op.stringOp .add ⟨#[33]⟩ (bOf T)).run Tryz.prog w = .ok (.string (bOf (33 :: T))) w := add_run [33] T h w
set_option maxRecDepth 50000 in
theorem showAdj_any (d : Bool) (v : Value) (xs : List Side) (w : World) (h : Sl sideR w v xs) (hE : EnvT w) :
  Calls Tryz.prog 56 #[.agg #[.bool d, v]] w fun e w' => TAdj d xs e /\ Below w.heap.size w w' := by
 have hl := h.len_le
 obtain ⟨A, c, rfl⟩ := h.form
 have hb0 := (zad w.heap.size w).alloc (zab _) (.cells #[.bool d, .slice A xs.length c] 97)
 have HBW := zaa hb0
 have H := zaa h
 have HE := zaa hE
 have HCK := zaa (checkAdj_any d _ xs _ (h.below hb0))
 clear h hE hb0
 by_cases hc : chkSides xs = 0
 · have HC := zaa hc
   have hn6 := sides_len hc
   have HALL := zaa (sides_all hc)
   rw [hc] at HCK
   clear hc
   have HPL0 := zaa (fun x (hx : x ∈ xs.map sideT) => (by
    obtain ⟨p, hp, rfl⟩ := zbm.1 hx
    obtain ⟨i, hi, rfl⟩ := zaj hp
    obtain ⟨a1, a2, a3, a4⟩ := HALL.out i hi
    exact pair_len 61 _ _ a1 (by omega) (by omega) (by omega) : x.length <= 20))
   go_enter Tryz.func56, Tryz.ntmps56
   go_wp2_with (go_at_call 91; refine HCK.out.mono ?_; rintro e w1 ⟨rfl, hb1⟩; obtain ⟨hA, hN, _, hS⟩ := pastAlloc hb1; have n0 : w1.cell? ⟨w.heap.size, 0, none⟩ = some (.bool d) := hN 0; have n1 : w1.cell? ⟨w.heap.size, 1, none⟩ = some (.slice A xs.length c) := hN 1; have HB1 := zaa hA; clear hb1 hA hN)
   have HV1 := zaa (H.out.below HB1.out)
   have N0 := zaa n0
   clear n0 n1
   go_loopw [5, 17] (fun o i wr => ∃ k : Nat, k <= xs.length /\ i = .int .i64 k /\ OwR strR 9 w1.heap.size wr o (((xs.take k).map sideT).map bOf) /\ Below w1.heap.size w1 wr) (fun _ i _ => xs.length - (intOf i).toNat)
   case atStart => exact ⟨0, zak _, rfl, OwR.nil _ _ (zab _), zad _ _⟩
   case round =>
    obtain ⟨k, hk, rfl, ho, hB⟩ := hrel
    have HO := zaa ho
    have HB := zaa hB
    clear ho hB
    by_cases hlt : k < xs.length
    · obtain ⟨b, off, rfl, hb⟩ := HV1.out.at_ hlt
      obtain ⟨f1, f2, i1, i2⟩ := (HV1.out.below HB.out).side hlt
      obtain ⟨a1, a2, a3, a4⟩ := HALL.out k hlt
      have HT := zaa (show sideT xs[k] = pairT 61 xs[k].node xs[k].cost from rfl)
      have hsuc : ((xs.take (k + 1)).map sideT).map bOf = ((xs.take k).map sideT).map bOf ++ [bOf (sideT xs[k])] := by
       rw [zar hlt, zbf, zbf]; rfl
      rw [HT.out] at hsuc
      have HSUC := zaa hsuc
      have hn1 : (((xs.take k).map sideT).map bOf).length + 1 <= 1000000000000 := by rw [zaV, zaV, zaq]; omega
      have HN1 := zaa hn1
      have hpl := pair_len 61 xs[k].node xs[k].cost a1 (by omega) (by omega) (by omega)
      have ea := itoa_pos a1
      have eb := itoa_pos (show 0 <= xs[k].cost by omega)
      have la := dec_len 4 xs[k].node.toNat (by omega)
      have lb := dec_len 4 xs[k].cost.toNat (by omega)
      generalize xs[k].node = p at *
      generalize xs[k].cost = q at *
      have hpc := pair_cat 61 p q
      have HIA := zaa (fun w h => itoa_any p w i1 h)
      have HIB := zaa (fun w h => itoa_any q w i2 h)
      rw [ea] at HIA
      rw [eb] at HIB
      have HPL := zaa hpl
      have za : (bOf (Lib.decDigits p.toNat)).size <= 5 := by rw [bOf_size]; exact la
      have zb : (bOf (Lib.decDigits q.toNat)).size <= 5 := by rw [bOf_size]; exact lb
      have r1 : ∀ w, (Op.stringOp .add (bOf (Lib.decDigits p.toNat)) ⟨#[61]⟩).run Tryz.prog w = .ok (.string (bOf (Lib.decDigits p.toNat) ++ ⟨#[61]⟩)) w := fun w => run_string_add_sum w _ _ (by show _ + 1 <= _; omega)
      have r2 : ∀ w, (Op.stringOp .add (bOf (Lib.decDigits p.toNat) ++ ⟨#[61]⟩) (bOf (Lib.decDigits q.toNat))).run Tryz.prog w = .ok (.string (bOf (pairT 61 p q))) w := fun w => by
       rw [run_string_add_sum w _ _ (by rw [ByteArray.size_append]; show _ + 1 + _ <= _; omega), hpc]
      have hz1 : w1.heap.size <= wr.heap.size := HB.out.size
      have hwf : (bOf (pairT 61 p q)).size <= maxLen := by rw [bOf_size]; unfold maxLen; omega
      have HWF := zaa hwf
      have HOWN := zaa (fun k (h : Value.ownBlock u5 = some k) => (HO.out.base_le k h).2)
      clear ea eb la lb hpc hpl hsuc hn1 a1 a2 a3 a4 i1 i2 hwf
      have hcl : ∀ w', Below (wr.heap.size + 1) (wr.alloc (.cells #[.int .i64 p, .int .i64 q] 99)) w' -> w'.cell? ⟨wr.heap.size, 0, none⟩ = some (.int .i64 p) /\ w'.cell? ⟨wr.heap.size, 1, none⟩ = some (.int .i64 q) /\ EnvT w' /\ Below w1.heap.size w1 w' /\ OwR strR 9 w1.heap.size w' u5 (((xs.take k).map sideT).map bOf) /\ wr.heap.size < w'.heap.size := by
       intro w' hb'
       have hq : Below wr.heap.size wr w' := ((zad _ _).alloc (zab _) _).trans (hb'.mono (by omega))
       refine ⟨?_, ?_, (HE.out.below HB1.out).below (HB.out.trans (hq.mono hz1)), HB.out.trans (hq.mono hz1), HO.out.keep hq, by have := hb'.size; simp at this; omega⟩
       · rw [hb'.cell (p := ⟨wr.heap.size, 0, none⟩) (by simp), zae _ _ _ _ rfl]; rfl
       · rw [hb'.cell (p := ⟨wr.heap.size, 1, none⟩) (by simp), zae _ _ _ _ rfl]; rfl
      have HCL := zaa hcl
      have HB0 := zaa (zad (wr.heap.size + 1) (wr.alloc (.cells #[.int .i64 p, .int .i64 q] 99))).drew
      clear hcl
      go_wp2_with fail
      go_region_held3 (fun w' => w'.cell? ⟨wr.heap.size, 0, none⟩ = some (.int .i64 p) /\ w'.cell? ⟨wr.heap.size, 1, none⟩ = some (.int .i64 q)) (first | go_keep | exact ⟨k1, k2⟩)
       (first
        | (go_at_call 59; refine (HIA.out _ (HCL.out _ (by first | exact HBB.out | exact HB0.out)).2.2.1).mono ?_; rintro e w2 ⟨rfl, hb2⟩; have HBB := zaa (Below.trans (by first | exact HBB.out | exact HB0.out) (hb2.mono (HCL.out _ (by first | exact HBB.out | exact HB0.out)).2.2.2.2.2)); clear hb2; obtain ⟨k1, k2, _⟩ := HCL.out _ HBB.out)
        | (go_at_call 59; refine (HIB.out _ (HCL.out _ (by first | exact HBB.out | exact HB0.out)).2.2.1).mono ?_; rintro e w2 ⟨rfl, hb2⟩; have HBB := zaa (Below.trans (by first | exact HBB.out | exact HB0.out) (hb2.mono (HCL.out _ (by first | exact HBB.out | exact HB0.out)).2.2.2.2.2)); clear hb2; obtain ⟨k1, k2, _⟩ := HCL.out _ HBB.out)
        | (refine step_gen (base := w1.heap.size) elt_strA (by rfl) (.tmp 21) (.tmp 30) (by rfl) (ow_alloc (HCL.out _ HBB.out).2.2.2.2.1 _) (one_flat (r := strR) (cs := [.string (bOf (pairT 61 p q))]) (x := bOf (pairT 61 p q)) rfl ⟨rfl, HWF.out⟩) (fun _ _ h => h) (by rfl) (by rfl) HN1.out (by decide) ?_; intro v2 w4 ho2 hg2; have HG2 := zaa hg2; have k1 := (after_app2 (HCL.out _ HBB.out).2.2.2.2.2 hg2 HOWN.out 0).trans (HCL.out _ HBB.out).1; have k2 := (after_app2 (HCL.out _ HBB.out).2.2.2.2.2 hg2 HOWN.out 1).trans (HCL.out _ HBB.out).2.1; clear hg2))
      all_goals
       have hb4 := (ow_alloc (HCL.out _ HBB.out).2.2.2.2.1 (.cells #[.string (bOf (pairT 61 p q))] 9)).below_grown ((HCL.out _ HBB.out).2.2.2.1.alloc (HCL.out _ HBB.out).2.2.2.1.size (.cells #[.string (bOf (pairT 61 p q))] 9)) HG2.out.grown
       have HB4 := zaa hb4
       have HO2 := zaa ho2
       clear hb4 ho2 k1 k2
       go_wp2_with fail
       go_roundw
       case rel => exact ⟨k + 1, by omega, by go_num, by rw [HSUC.out]; exact HO2.out, HB4.out⟩
       case measure => simp [intOf]; omega
    · have hte : xs.take k = xs := zaG (by omega)
      rw [hte] at HO
      have hj := fun w h => join_any u5 (xs.map sideT) w h (by rw [zaV]; omega) HPL0.out
      have HJ := zaa hj
      have hjl := join_len 20 (xs.map sideT) HPL0.out
      rw [zaV] at hjl
      have hbx := (cell_keep (HB.out.mono (zab _)) N0.out)
      have RB := add_bang (Lib.join (xs.map sideT) [44]) (by omega)
      have hjs : (bOf (Lib.join (xs.map sideT) [44])).size <= 300 := by rw [bOf_size]; omega
      clear hj hte hjl
      cases d with
      | true =>
        go_wp2_with (go_at_call 92; refine (HJ.out _ (HO.out.sl (by decide))).mono ?_; rintro e w3 ⟨rfl, hb3⟩; have hby := cell_keep hb3 hbx)
        go_ret2
        exact ⟨ta_good HC.out rfl, HB1.out.trans ((HB.out.trans (hb3.mono HB.out.size)).mono HB1.out.size)⟩
      | false =>
        go_wp2_with (go_at_call 92; refine (HJ.out _ (HO.out.sl (by decide))).mono ?_; rintro e w3 ⟨rfl, hb3⟩; have hby := cell_keep hb3 hbx)
        go_ret2
        exact ⟨ta_good HC.out rfl, HB1.out.trans ((HB.out.trans (hb3.mono HB.out.size)).mono HB1.out.size)⟩
 · have hcb : (chkSides xs == 0) = false := by rw [beq_eq_false_iff_ne]; exact hc
   have HC := zaa hc
   clear hc
   go_enter Tryz.func56, Tryz.ntmps56
   go_wp2_with (go_at_call 91; refine HCK.out.mono ?_; rintro e w1 ⟨rfl, hb1⟩)
   go_ret2
   exact ⟨ta_bad HC.out, HBW.out.trans (hb1.mono HBW.out.size)⟩
end
section
open Go Go.RowKit Go.Deep
theorem key_runP (n : Nat) (h : (Lib.decDigits n).length <= 20) (w : World) : (Op.stringOp .add ⟨#[112, 58]⟩ (bOf (Lib.decDigits n))).run Tryz.prog w = .ok (.string (keyP n)) w := add_run [112, 58] (Lib.decDigits n) (by show 2 + _ <= _; omega) w
end
section
open Go Go.RowKit Go.Deep
end
section
open Go Go.RowKit Go.Deep
def EnvN (N : Nat) (w : World) : Prop := ∃ w0, Env w0 /\ w0.heap.size <= N /\ Below w0.heap.size w0 w
theorem EnvN.env {N : Nat} {w : World} (h : EnvN N w) : Env w := by
 obtain ⟨w0, h1, _, h3⟩ := h
 exact h1.below h3
theorem EnvN.grown {N : Nat} {w w' : World} (h : EnvN N w) (hg : w.grownBy w' (some N)) (hN : N <= w.heap.size) : EnvN N w' := by
 obtain ⟨w0, h1, h2, h3⟩ := h
 exact ⟨w0, h1, h2, h3.trans ((grown_below hg hN).mono h2)⟩
theorem EnvN.below {N : Nat} {w w' : World} (h : EnvN N w) (hb : Below w.heap.size w w') (hN : N <= w.heap.size) : EnvN N w' := h.grown (below_grownN N hb) hN
theorem OwR.grownN {α : Type} {r : Rep α} {E base N : Nat} {w w' : World} {v : Value} {xs : List α} (h : OwR r E base w v xs) (hg : w.grownBy w' (some N)) (hb : N < base)
  (hf : ∀ (S S' : Nat -> Prop) (cs : List Value) (y : α), r.holds w S cs y -> r.holds w S' cs y) : OwR r E base w' v xs :=
 h.kept hg (by
  rcases e : v.ownBlock with _ | q
  · exact .inl rfl
  · right; intro e2; injection e2 with e2; have := (h.base_le q e).1; omega) (fun cs y hy => hf _ _ cs y hy)
theorem putO_code {st : List Entry} {a : Nat} {key value : ByteArray} (h : (putO st a key value).2.2 ≠ 0) : putO st a key value = (st, [], (putO st a key value).2.2) := by
 unfold putO at h ⊢
 split at h
 · exact absurd rfl h
 · rename_i h1
   rw [if_neg h1]
   split at h
   · rename_i h2; rw [if_pos h2]
   · exact absurd rfl h
structure Lq (W w : World) (B : Nat) (d : Bool) (o : Value) (L : List Side) : Prop where
 gr : W.grownBy w (some B)
 c0 : w.cell? ⟨B, 0, none⟩ = some (.bool d)
 c1 : w.cell? ⟨B, 1, none⟩ = some o
 fz : ∀ j, w.frozen? ⟨B, j, none⟩ = false
 ow : OwR sideR 99 W.heap.size w o L
theorem Lq.grow {W w w4 : World} {B : Nat} {d : Bool} {o v : Value} {L : List Side} {ob : Obj} (h : Lq W w B d o L) (hB : B < W.heap.size) (hg : GrowTo (w.alloc ob) o w4 v) :
  W.grownBy w4 (some B) /\ w4.heap[B]? = w.heap[B]? /\ w4.cell? ⟨B, 1, none⟩ = some o /\ w4.frozen? ⟨B, 1, none⟩ = false := by
 have hob := h.ow.base_le
 have hsz := h.gr.size
 have hbl : ∀ q, q < W.heap.size -> w4.heap[q]? = w.heap[q]? := fun q hq => by
  rw [hg.grown.block q (by simp; omega) (fun e => by have := (hob q e.symm).1; omega)]
  exact zbj _ _ _ (by omega)
 have h4 := hg.grown.size
 simp at h4
 refine ⟨⟨hg.grown.os.trans h.gr.os, hg.grown.tape.trans h.gr.tape, hg.grown.output.trans h.gr.output, by omega, fun q hq hne => (hbl q hq).trans (h.gr.block q hq hne)⟩, hbl _ hB, ?_, ?_⟩
 · exact (zav (w := w) (hbl B hB)).trans h.c1
 · exact (zaO (w := w) (hbl B hB)).trans (h.fz _)
theorem Lq.next {W w w4 : World} {B : Nat} {d : Bool} {o v : Value} {L L' : List Side} {ob : Obj} (h : Lq W w B d o L) (hB : B < W.heap.size) (hg : GrowTo (w.alloc ob) o w4 v) (ho : OwR sideR 99 W.heap.size w4 v L') :
  Lq W (w4.setCell ⟨B, 1, none⟩ v) B d v L' := by
 obtain ⟨g1, g2, g3, g4⟩ := h.grow hB hg
 have hc : ∀ o', w4.cell? ⟨B, o', none⟩ = w.cell? ⟨B, o', none⟩ := fun o' => zav g2
 refine ⟨⟨g1.os, g1.tape, g1.output, by simp [World.setCell]; exact g1.size, fun q hq hne => ?_⟩, ?_, ?_, fun j => ?_, ?_⟩
 · rw [zai _ _ _ _ (by show q ≠ B; exact fun e => hne (by rw [e]))]; exact g1.block q hq hne
 · rw [zag _ _ _ _ (by intro e2; injection e2 with _ e3 _; omega), hc]; exact h.c0
 · exact zay _ _ _ (by rw [g3]; rfl)
 · rw [zau]; exact (zaO (w := w) g2).trans (h.fz j)
 · exact ow_set ho (p := ⟨B, 1, none⟩) hB _ (fun _ _ h => h)
theorem Lq.start (w : World) (d : Bool) (T : TypeId) : Lq (w.alloc (.cells #[.bool d, .slice none 0 0] T)) (w.alloc (.cells #[.bool d, .slice none 0 0] T)) w.heap.size d (.slice none 0 0) [] :=
 ⟨zaX _ _, by rw [zae _ _ _ _ rfl]; rfl, by rw [zae _ _ _ _ rfl]; rfl, fun j => zaD _ _ _ _ rfl, OwR.nil _ _ (zab _)⟩
theorem NetM.row {X : Nat -> Prop} {w : World} {N : Nat} {x : Net} (h : NetM X w N x) {a : Nat} (ha : a < 12) : ∃ vs : List Value, (∀ k, k < 12 -> vs.toArray[k]? = some (.int .i64 (x.co a k))) /\
  w.rangeAt N (48 + a * 12) vs /\ (Tryz.prog.info? 48).map (·.size) = some vs.length := by
 refine ⟨((List.range 12).map fun k => Value.int .i64 (x.co a k)), fun k hk => ?_, ?_, by kernel_rfl⟩
 · rw [zao, zbt, zbJ hk]; rfl
 · intro j v hv
   have hj : j < 12 := by
    have := (zax.1 hv).1
    simpa using this
   rw [zbt, zbJ hj] at hv
   injection hv with hv
   subst hv
   exact h.co a j ha hj
theorem sidesTo_len (f : Nat -> Int) : ∀ j, (sidesTo f j).length <= j
 | 0 => zab _
 | j + 1 => by
   have := sidesTo_len f j
   unfold sidesTo
   split
   · simp; omega
   · omega
theorem below_none {w w' : World} (h : w.grownBy w' none) : Below w.heap.size w w' := ⟨h.os, h.tape, h.output, h.size, fun k hk => h.block k hk (by simp)⟩
theorem Sl.str1 {w : World} {b off c n : Nat} {xs : List ByteArray} (h : Sl strR w (.slice (some ⟨b, off, none⟩) n c) xs) {k : Nat} (hk : k < xs.length) : w.cell? ⟨b, off + k, none⟩ = some (.string xs[k]) /\ xs[k].size <= maxLen := by
 obtain ⟨cs, ⟨rfl, hw⟩, hc⟩ := h.cell hk
 have := hc 0 _ rfl
 exact ⟨by simpa [strR, flatR] using this, hw⟩
theorem app_keys {w : World} {base ty : Nat} {v1 v2 : Value} {k1 k2 : List ByteArray} (h1 : OwR strR 9 base w v1 k1) (f1 : Key1 v1 k1) (h2 : Sl strR w v2 k2) (f2 : Key1 v2 k2) :
  ∃ v' w', (Builtin.append_ #[55, 55] ty #[v1, v2]).run Tryz.prog w = .ok v' w' /\ OwR strR 9 base w' v' (k1 ++ k2) /\ Below w.heap.size w w' := by
 have hbase := h1.choose_spec.2.2.2
 rcases f1 with ⟨rfl, rfl⟩ | ⟨g1, x1, rfl, rfl⟩
 · obtain ⟨v', w', r1, r2, r3⟩ := app_str (ty := ty) h1 h2 (by rcases f2 with ⟨_, rfl⟩ | ⟨_, _, _, rfl⟩ <;> simp)
   exact ⟨v', w', r1, r2, below_none r3.grown⟩
 · obtain ⟨i, z, q1, q2, q3, q4, q5⟩ := elt_str.info
   rcases f2 with ⟨rfl, rfl⟩ | ⟨g2, x2, rfl, rfl⟩
   · refine ⟨.slice (some ⟨g1, 0, none⟩) 1 1, w, ?_, by rw [zbq]; exact h1, zad _ _⟩
     simp [Builtin.append_, run_underlying elt_str.ht, sizeOf, typeInfo, q1, Builtin.lenOf, Builtin.firstCells, storeCells]
   · have hw2 := Sl.str1 h2 (k := 0) (by simp)
     have hw1 := Sl.str1 (h1.sl (by decide)) (k := 0) (by simp)
     simp only [zbE, zbX] at hw1 hw2
     obtain ⟨v', w', r1, r2, r3⟩ := run_append_arg_grows (P := Tryz.prog) w 55 ty 9 i z 1 16 elt_str.ht q1 q2 q3 q4 q5 (by decide) ⟨g1, 0, none⟩ 1 1 [.string x1] rfl (fun j u hu => by
      rcases j with _ | j
      · simp at hu; subst hu; exact hw1.1
      · simp at hu) ⟨g2, 0, none⟩ 1 1 [.string x2] rfl (fun j u hu => by
      rcases j with _ | j
      · simp at hu; subst hu; exact hw2.1
      · simp at hu) (by decide) (by unfold maxLen; decide) (by decide)
     refine ⟨v', w', r1, ⟨[[.string x1], [.string x2]], rfl, fun n cs x hc hx => ?_, ?_, zaz hbase r3.size⟩, below_none r3⟩
     · match n, hc, hx with
       | 0, hc, hx => simp at hc hx; subst hc hx; exact ⟨rfl, hw1.2⟩
       | 1, hc, hx => simp at hc hx; subst hc hx; exact ⟨rfl, hw2.2⟩
       | n + 2, hc, hx => simp at hc
     · exact ⟨r2.1, r2.2.imp id (fun ⟨g, cap, cur, a1, a2, a3⟩ => ⟨g, cap, cur, a1, zaz hbase a2, a3⟩)⟩
theorem wpList_keys {ops : Array Oper} {rest : List Oper} {o : Oper} {a : Act} {Q : Exit -> Act -> World -> Prop} {w : World} {base : Nat} (hgd : o.guard = none) (s x : Operand)
  (ho : o.op = .call { callee := .builtin .append, args := #[s, x], argTypes := #[55, 55] }) {v1 v2 : Value} {k1 k2 : List ByteArray}
  (h1 : OwR strR 9 base w v1 k1) (f1 : Key1 v1 k1) (h2 : Sl strR w v2 k2) (f2 : Key1 v2 k2) (hs : a.eval s = v1) (hx : a.eval x = v2)
  (h : ∀ v' w', OwR strR 9 base w' v' (k1 ++ k2) -> Below w.heap.size w w' -> wpList Tryz.prog ops Q rest (a.put o.dst v') w') : wpList Tryz.prog ops Q (o :: rest) a w :=
 wpList_plain hgd fun _ hK => by
  obtain ⟨v', w', hrun, h2, h3⟩ := app_keys (ty := o.type) h1 f1 h2 f2
  unfold Oper.wp execOp
  simp only [ho, resolve, invoke, builtin, zbA, zbz, Result.andThen_ok, zbk, zaH, zbv, hs, hx, hrun]
  exact hK _ _ (h v' w' h2 h3)
theorem setN_setN (x : Net) (a : Nat) (y z : Nd) : (x.setN a y).setN a z = x.setN a z := by
 unfold Net.setN
 congr 1
 funext i
 by_cases e : i = a <;> simp [e]
theorem dec_le9 {n : Nat} (h : n < 12) : (Lib.decDigits n).length <= 20 := zaz (dec_len 1 n (by show _ < 100; omega)) (by omega)
theorem key_sizes9 {n : Nat} (h : n < 12) : (keyA n).size <= 100 /\ (keyP n).size <= 100 := by
 have := dec_le9 h
 unfold keyA keyP
 rw [bOf_size, bOf_size, zah, zaw, zaw]
 simp; omega
set_option maxRecDepth 50000 in
theorem ntell_any {X : Nat -> Prop} (N a : Nat) (x : Net) (w : World) (h : NetM X w N x) (ha : a < 12) (hx : NetOk x) (hE : EnvN N w) :
  Calls Tryz.prog 31 #[.pointer (some ⟨N, 0, none⟩), .int .i64 (a : Nat)] w (KeysN X N (tellS x a) w) := by
 have HM := zaa h
 have HX := zaa hx
 have HE := zaa hE
 have ha0 : (0 : Int) <= (a : Int) := zaf a
 have ha1 : (a : Int) < 12 := by omega
 have HA12 := zaa ha
 have f1 := (h.nd a ha).dr
 obtain ⟨d, hd⟩ : ∃ d, (x.nd a).dr = d := ⟨_, rfl⟩
 rw [hd] at f1
 have HD := zaa hd
 have HLQ := zaa (Lq.start w d 97)
 have hal := (zad w.heap.size w).alloc (zab _) (.cells #[.bool d, .slice none 0 0] 97)
 have HAL := zaa hal
 obtain ⟨vs, hvs, hrow, hinf⟩ := (h.below hal).row ha
 have HLD := zaa hrow
 have HVS := zaa hvs
 have HIF := zaa hinf
 have hNw := h.lt
 clear h hx hE hd hvs hrow hinf hal
 go_enter Tryz.func31, Tryz.ntmps31
 go_wp2_with (refine wpList_load_mid rfl 48 (.tmp 27) rfl N (48 + a * 12) rfl vs _ HLD.out Tryz.underlying48 rfl HIF.out ?_)
 obtain ⟨AB, hAB⟩ : ∃ B, B = w.heap.size := ⟨_, rfl⟩
 obtain ⟨W, hW⟩ : ∃ x, x = w.alloc (.cells #[.bool d, .slice none 0 0] 97) := ⟨_, rfl⟩
 rw [<- hAB, <- hW] at HLQ
 rw [<- hW] at HAL
 rw [<- hAB, <- hW]
 have HWS := zaa (show AB < W.heap.size by rw [hW, hAB]; simp)
 have HNA := zaa (show N < AB by omega)
 have HAW := zaa (show w.heap.size <= AB by omega)
 clear hW hAB HLD HIF f1
 go_loopw [29] (fun u wr => ∃ (j : Nat) (o : Value), j <= 12 /\ u = .int .i64 j /\ Lq W wr AB d o (sidesTo (x.co a) j)) (fun u _ => 12 - (intOf u).toNat)
 case atStart => exact ⟨0, _, zak _, rfl, HLQ.out⟩
 case round =>
  obtain ⟨j, o, hj, rfl, hlp⟩ := hrel
  have HL3 := zaa hlp
  obtain ⟨Ao, no, co, rfl⟩ := ow_form hlp.ow (by decide)
  have y1 := hlp.c1
  have y0 := hlp.c0
  clear hlp HLQ
  by_cases hlj : j < 12
  · have hji : (j : Int) < 12 := by omega
    have hj0 : (0 : Int) <= (j : Int) := zaf j
    have hix : ∀ w', (Instr.index 48 (.agg vs.toArray) (.int .i64 (j : Int))).run Tryz.prog w' = .ok (.int .i64 (x.co a j)) w' := fun w' => row_idx vs.toArray (x.co a) HVS.out hlj w'
    obtain ⟨cb1, cb2⟩ := HX.out.co a j
    have hsl : (sidesTo (x.co a) j).length <= j := sidesTo_len _ _
    have HST := zaa (show sidesTo (x.co a) (j + 1) = if 0 < x.co a j then sidesTo (x.co a) j ++ [⟨j, x.co a j⟩] else sidesTo (x.co a) j from rfl)
    obtain ⟨L, hL⟩ : ∃ L, L = sidesTo (x.co a) j := ⟨_, rfl⟩
    rw [<- hL] at HL3 hsl HST
    obtain ⟨cj, hcj⟩ : ∃ c, c = x.co a j := ⟨_, rfl⟩
    rw [<- hcj] at HST cb1 cb2
    simp only [<- hcj] at hix
    clear hL hcj
    by_cases hc0 : 0 < cj
    · have HS1 := zaa (HST.out.trans (if_pos hc0))
      have HOA := zaa (ow_alloc HL3.out.ow (.cells #[.int .i64 (j : Int), .int .i64 cj] 99))
      have HONE := zaa (one_flat (r := sideR) (w := wr) (B := wr.heap.size) (cs := [.int .i64 (j : Int), .int .i64 cj]) (x := ⟨j, cj⟩) (E := 99) rfl ⟨rfl, (by show inR (j : Int); unfold inR; omega), (by show inR cj; unfold inR; omega)⟩)
      have y4 : (wr.alloc (.cells #[.int .i64 (j : Int), .int .i64 cj] 99)).cell? ⟨AB, 1, none⟩ = some (.slice Ao no co) := cell_keep ((zad _ _).alloc (zab _) _) y1
      clear y0
      go_wp2_with (at_builtin; refine wpList_gen (base := W.heap.size) elt_sideA rfl (.tmp 36) (.tmp 40) rfl HOA.out HONE.out (fun _ _ h => h) rfl rfl (by simp; omega) (by decide) ?_; intro v2 w4 ho2 hg2; obtain ⟨A9, n9, c9, rfl⟩ := ow_form ho2 (by decide); obtain ⟨_, _, z1, z2⟩ := HL3.out.grow HWS.out hg2; have HN4 := zaa (HL3.out.next HWS.out hg2 ho2); clear ho2 hg2 y1 y4)
      go_roundw
      case rel => exact ⟨j + 1, _, by omega, by go_num, by rw [HS1.out]; exact HN4.out⟩
      case measure => simp [intOf]; omega
    · have HS1 := zaa (HST.out.trans (if_neg hc0))
      clear y0 y1
      go_wp2_with fail
      go_roundw
      case rel => exact ⟨j + 1, _, by omega, by go_num, by rw [HS1.out]; exact HL3.out⟩
      case measure => simp [intOf]; omega
  · obtain rfl : j = 12 := by omega
    have HB4 := zaa ((HAL.out.grown HL3.out.gr HAL.out.size (fun q e => by injection e with e; have := HAW.out; omega)))
    have hsa := showAdj_any d (.slice Ao no co) (sidesTo (x.co a) 12) wr (HL3.out.ow.sl (by decide)) (HE.out.env.below HB4.out).tab
    unfold TAdj at hsa
    rw [sidesTo_chk (HX.out.co a), if_pos rfl, <- HD.out] at hsa
    have HSA := zaa (show Calls Tryz.prog 56 #[.agg #[.bool d, .slice Ao no co]] wr fun e w' => e = .returned (.tuple #[.string (tellA x a), .int .i64 0]) /\ Below wr.heap.size wr w' by rw [<- HD.out]; exact hsa)
    clear hsa HVS HL3
    go_wp2_with fail
    refine HSA.out.mono ?_
    rintro e w5 ⟨rfl, hb5⟩
    have HB5 := zaa (HB4.out.trans (hb5.mono HB4.out.size))
    clear hb5 y0 y1 HSA HB4 HAL
    have HM5 := zaa (HM.out.below HB5.out)
    obtain ⟨vp, o1, o2⟩ := (HM5.out.nd a HA12.out).pf
    have hsp := showPrefs_any vp (x.nd a).pf w5 o2.sl (HE.out.env.below HB5.out).tab
    unfold TPref at hsp
    rw [(HX.out.nd a HA12.out).pf, if_pos rfl] at hsp
    have HSP := zaa (show Calls Tryz.prog 57 #[vp] w5 fun e w' => e = .returned (.tuple #[.string (tellP x a), .int .i64 0]) /\ Below w5.heap.size w5 w' from hsp)
    obtain ⟨Ap, cp, hvp⟩ := o2.sl.form
    subst hvp
    have HTA := zaa (show (tellA x a).size <= maxLen by have := tellA_size HX.out a; unfold maxLen; omega)
    have HTP := zaa (show (tellP x a).size <= maxLen by have := tellP_size HX.out HA12.out; unfold maxLen; omega)
    have HKA := zaa (show (keyA a).size <= maxLen by have := (key_sizes9 HA12.out).1; unfold maxLen; omega)
    have HKP := zaa (show (keyP a).size <= maxLen by have := (key_sizes9 HA12.out).2; unfold maxLen; omega)
    have HTS := zaa (show tellS x a = if (putO (x.nd a).st a (keyA a) (tellA x a)).2.2 ≠ 0 then (x, [], (putO (x.nd a).st a (keyA a) (tellA x a)).2.2) else
     if (putO (putO (x.nd a).st a (keyA a) (tellA x a)).1 a (keyP a) (tellP x a)).2.2 ≠ 0 then (x, [], (putO (putO (x.nd a).st a (keyA a) (tellA x a)).1 a (keyP a) (tellP x a)).2.2) else
     (x.setN a { x.nd a with st := (putO (putO (x.nd a).st a (keyA a) (tellA x a)).1 a (keyP a) (tellP x a)).1 },
      (putO (x.nd a).st a (keyA a) (tellA x a)).2.1 ++ (putO (putO (x.nd a).st a (keyA a) (tellA x a)).1 a (keyP a) (tellP x a)).2.1, 0) from rfl)
    generalize tellA x a = sA at *
    generalize tellP x a = sP at *
    have hr1 := fun w => key_run a (dec_le9 HA12.out) w
    have hr2 := fun w => key_runP a (dec_le9 HA12.out) w
    have HIT := zaa (fun w' (hE : Env w') => ((itoa_any (a : Int) w' (by unfold inR; omega) hE.tab).mono (fun e w'' ⟨he, hb'⟩ => ⟨(by rw [he, itoa_nat]), hb'⟩) : Calls Tryz.prog 59 #[.int .i64 (a : Int)] w' fun e w'' => e = .returned (.string (bOf (Lib.decDigits a))) /\ Below w'.heap.size w' w''))
    clear hsp o2
    go_wp2_with fail
    refine HSP.out.mono ?_
    rintro e w6 ⟨rfl, hb6⟩
    have HB6 := zaa (HB5.out.trans (hb6.mono HB5.out.size))
    have HM6 := zaa (HM.out.below HB6.out)
    obtain ⟨vo, o3, o4⟩ := (HM6.out.nd a HA12.out).st
    have HO4 := zaa o4
    obtain ⟨Ao2, co2, hvo⟩ := o4.formA
    subst hvo
    clear hb6 o1 HSP HM5 HB5 o4
    go_wp2_with fail
    refine (HIT.out _ (HE.out.env.below HB6.out)).mono ?_
    rintro e w7 ⟨rfl, hb7⟩
    have HB7 := zaa (HB6.out.trans (hb7.mono HB6.out.size))
    have HM7 := zaa (HM.out.below HB7.out)
    have HO5 := zaa (HO4.out.below hb7)
    obtain ⟨stx, hstx⟩ : ∃ s, s = (x.nd a).st := ⟨_, rfl⟩
    have HPU := zaa (nput_any N a (keyA a) sA x w7 HM7.out HA12.out HKA.out HTA.out)
    rw [<- hstx] at HPU HTS HO5
    have HSTX := zaa hstx
    obtain ⟨s1, k1, n1, hp1⟩ : ∃ s1 k1 n1, putO stx a (keyA a) sA = (s1, k1, n1) := ⟨_, _, _, rfl⟩
    have HP1 := zaa hp1
    rw [hp1] at HPU HTS
    clear hb7 o3 HB6 HM6 HO4 hp1
    go_wp2_with fail
    refine HPU.out.mono ?_
    rintro e w8 ⟨vk1, rfl, hk1, hf1, hm8, hg8⟩
    have HF1 := zaa hf1
    obtain ⟨Ak1, nk1, ck1, rfl⟩ := ow_form hk1 (by decide)
    have hz7 := HB7.out.size
    have HK1 := zaa (hk1.lower hz7)
    have HG8 := zaa ((below_grownN N HB7.out).trans hg8)
    have HM8 := zaa hm8
    have HO6 := zaa (HO5.out.grownN hg8)
    clear hk1 hg8 hm8 hz7 hf1 HPU HO5
    by_cases hn1 : n1 = 0
    · subst hn1
      have HE8 := zaa (HE.out.grown HG8.out (by omega))
      have HTS2 := zaa (HTS.out.trans (if_neg (by simp)))
      go_wp2_with fail
      refine (HIT.out _ HE8.out.env).mono ?_
      rintro e w9 ⟨rfl, hb9⟩
      have HM9 := zaa (HM8.out.below hb9)
      have HG9 := zaa (HG8.out.trans (below_grownN N hb9))
      have HK9 := zaa (HK1.out.keep hb9)
      have HO9 := zaa (HO6.out.below hb9)
      have hpu := nput_any N a (keyP a) sP (x.setN a { x.nd a with st := s1 }) w9 HM9.out HA12.out HKP.out HTP.out
      rw [setN_same] at hpu
      have HPU := zaa hpu
      obtain ⟨s2, k2, n2, hp2⟩ : ∃ s2 k2 n2, putO s1 a (keyP a) sP = (s2, k2, n2) := ⟨_, _, _, rfl⟩
      have HP2 := zaa hp2
      simp only [hp2] at HPU HTS2
      clear hb9 hpu hp2 HG8 HM8 HO6 HK1 HE8 HTS
      go_wp2_with fail
      refine HPU.out.mono ?_
      rintro e w10 ⟨vk2, rfl, hk2, hf2, hm10, hg10⟩
      have HF2 := zaa hf2
      obtain ⟨Ak2, nk2, ck2, rfl⟩ := ow_form hk2 (by decide)
      have HG10 := zaa (HG9.out.trans hg10)
      have HM10 := zaa hm10
      have HK10 := zaa (HK9.out.grownN hg10 hNw (fun _ _ _ _ h => h))
      have HO10 := zaa (HO9.out.grownN hg10)
      have HK2 := zaa hk2
      clear hk2 hm10 hg10 hf2 HPU HG9 HM9 HK9 HO9
      by_cases hn2 : n2 = 0
      · subst hn2
        have HTS3 := zaa (HTS2.out.trans (if_neg (by simp)))
        have hm := HM10.out
        simp only [setN_same, setN_setN] at hm
        have HM11 := zaa hm
        clear hm HTS2
        go_wp2_with (at_builtin; refine wpList_keys (base := w.heap.size) rfl (.tmp 106) (.tmp 107) rfl HK10.out HF1.out (HK2.out.sl (by decide)) HF2.out rfl rfl ?_; intro v11 w11 ho11 hb11)
        go_ret2
        exact kn_fin HTS3.out (ho11.slG (by decide) (fun _ _ _ _ h => h)) (HM11.out.below hb11) (HG10.out.trans (below_grownN N hb11))
      · have hnb2 : (n2 != 0) = true := by simpa using hn2
        have HTS3 := zaa (HTS2.out.trans (if_pos hn2))
        have HRS := zaa ((HM10.out.setSt HA12.out HO10.out))
        obtain ⟨vx, g1, _⟩ := (HM10.out.nd a HA12.out).st
        have g2 := HM10.out.fz (a * 4)
        have HMX := zaa (show NetM X (w10.setCell ⟨N, a * 4, none⟩ (.slice Ao2 stx.length co2)) N x by
         have h9 := HRS.out
         simp only [setN_same, setN_setN] at h9
         rw [HSTX.out, setN_st] at h9
         rw [HSTX.out]
         exact h9)
        have HGX := zaa (HG10.out.trans (setCell_grown w10 N (a * 4) (.slice Ao2 stx.length co2)))
        rw [hstx] at HMX HGX
        clear HRS hn2 HTS2
        go_wp2_with fail
        go_ret2
        exact kn_fin HTS3.out (SlF.nil _ _ _) HMX.out HGX.out
    · have hnb : (n1 != 0) = true := by simpa using hn1
      have HTS2 := zaa (HTS.out.trans (if_pos hn1))
      have hs1 : s1 = stx := by
       have h9 := putO_code (st := stx) (a := a) (key := keyA a) (value := sA) (by rw [HP1.out]; exact hn1)
       rw [HP1.out] at h9
       injection h9
      have HM9 := zaa (show NetM X w8 N x by
       have h9 := HM8.out
       rw [hs1, HSTX.out, setN_st] at h9
       exact h9)
      clear hs1 hn1
      go_wp2_with fail
      go_ret2
      exact kn_fin HTS2.out (SlF.nil _ _ _) HM9.out HG8.out
set_option maxRecDepth 50000 in
theorem ntake_any {X : Nat -> Prop} (N a : Nat) (p : Prefix) (x : Net) (w : World) (h : NetM X w N x) (ha : a < 12) (hx : NetOk x) :
  Calls Tryz.prog 30 #[.pointer (some ⟨N, 0, none⟩), .int .i64 (a : Nat), .agg #[.int .i64 p.addr, .int .i64 p.bits]] w (NPost X N (takeS x a p).1 (.returned (.int .i64 (takeS x a p).2)) w) := by
 have HM := zaa h
 have ha0 : (0 : Int) <= (a : Int) := zaf a
 have ha1 : (a : Int) < 12 := by omega
 have HA12 := zaa ha
 have hpf := (hx.nd a ha).pf
 obtain ⟨hpl, _, hpo⟩ := prefs_fine hpf
 have hal := (zad w.heap.size w).alloc (zab _) (.cells #[.int .i64 p.addr, .int .i64 p.bits] 32)
 obtain ⟨v, c0, s0⟩ := (h.nd a ha).pf
 obtain ⟨xs, hxs⟩ : ∃ l, l = (x.nd a).pf := ⟨_, rfl⟩
 rw [<- hxs] at s0 hpl hpo
 have HXS := zaa hxs
 obtain ⟨A, c, rfl⟩ := s0.sl.form
 have c1 := cell_keep hal c0
 have b0 : (w.alloc (.cells #[.int .i64 p.addr, .int .i64 p.bits] 32)).cell? ⟨w.heap.size, 0, none⟩ = some (.int .i64 p.addr) := by rw [zae _ _ _ _ rfl]; rfl
 have b1 : (w.alloc (.cells #[.int .i64 p.addr, .int .i64 p.bits] 32)).cell? ⟨w.heap.size, 1, none⟩ = some (.int .i64 p.bits) := by rw [zae _ _ _ _ rfl]; rfl
 have HAL := zaa hal
 have HSL := zaa s0.sl
 obtain ⟨W, hW⟩ : ∃ x, x = w.alloc (.cells #[.int .i64 p.addr, .int .i64 p.bits] 32) := ⟨_, rfl⟩
 rw [<- hW] at c1 b0 b1 HAL
 have HIX := zaa (fun w' (hb : Below w.heap.size w w') => idxPref_any (.slice A xs.length c) xs p w' (HSL.out.below hb))
 have HPL := zaa hpl
 obtain ⟨i, hi⟩ : ∃ i, i = idxP xs p := ⟨_, rfl⟩
 rw [<- hi] at HIX
 have HT := zaa (show takeS x a p = if inP xs p = true then (x.setN a { x.nd a with pf := xs.filter fun q => !sameP q p }, 0) else (x, 6) by rw [hxs]; rfl)
 rcases idxP_cases xs p with ⟨h1, h2, _⟩ | ⟨k, hk, h1, h2, h3⟩
 · rw [<- hi] at h1
   subst h1
   have HT2 := zaa (HT.out.trans (if_neg (by rw [h2]; simp)))
   clear h hx hpf hpl hpo hal c0 s0 hxs hi h2 HT
   go_enter Tryz.func30, Tryz.ntmps30
   go_wp2_with fail
   rw [<- hW]
   clear hW
   obtain ⟨B, hB⟩ : ∃ B, B = w.heap.size := ⟨_, rfl⟩
   have HBZ := zaa hB
   have HBS := zaa (show ∀ w', Below B w w' -> B <= w'.heap.size from fun w' hb => by rw [hB]; exact hb.size)
   rw [<- hB] at b0 b1 HAL HIX ⊢
   clear hB
   go_region_with (go_at_call 54; refine (HIX.out _ HAL.out.drew).mono ?_; rintro e w2 ⟨rfl, hb2⟩; have HB2 := zaa (HAL.out.drew.trans (hb2.mono (HBS.out _ HAL.out.drew))); clear hb2)
   all_goals
    go_wp2_with fail
    go_ret
    have h9 := HB2.out
    rw [HBZ.out] at h9
    exact ⟨by rw [HT2.out]; rfl, by rw [HT2.out]; exact HM.out.below h9, below_grownN N h9⟩
 · rw [<- hi] at h1
   subst h1
   have HT2 := zaa (HT.out.trans ((if_pos h2).trans (by rw [filter_erase p xs k hk hpo h3])))
   have HK := zaa hk
   have hk0 : (0 : Int) <= (k : Int) := zaf k
   have hkn : ¬ (k : Int) < 0 := by omega
   have hk6 : (k : Int) < 6 := by omega
   have HWR := zaa (show IntKind.i64.wrap ((k : Int) + 1) = (k : Int) + 1 by rw [IntKind.wrap_i64]; omega)
   have HCL := zaa (fun w' (hb : Below w.heap.size w w') => cloneP_any (.slice A xs.length c) xs w' (HSL.out.below hb) (by have := HPL.out; omega))
   have hNw := h.lt
   have HDE := zaa (show ∀ v3 w3 base, OwR prefR 32 base w3 v3 xs -> Calls Tryz.prog 55 #[v3, .int .i64 (k : Int), .int .i64 ((k : Int) + 1)] w3 fun e w' => ∃ v', e = .returned v' /\ SlF prefR base w' v' (xs.eraseIdx k) /\ Below base w3 w' from fun v3 w3 base ho => by
    have h9 := delPref_any v3 xs k (k + 1) base rfl w3 ho hk (by omega)
    have e9 : ((k + 1 : Nat) : Int) = (k : Int) + 1 := by omega
    rw [e9] at h9
    exact h9)
   clear h hx hpf hpl hpo hal c0 s0 hxs hi h2 h3 hk HT
   go_enter Tryz.func30, Tryz.ntmps30
   go_wp2_with fail
   rw [<- hW]
   clear hW
   obtain ⟨B, hB⟩ : ∃ B, B = w.heap.size := ⟨_, rfl⟩
   have HBZ := zaa hB
   have HBS := zaa (show ∀ w', Below B w w' -> B <= w'.heap.size from fun w' hb => by rw [hB]; exact hb.size)
   rw [<- hB] at b0 b1 HAL HIX HCL hNw ⊢
   clear hB
   have HC1 := zaa c1
   have HNB := zaa hNw
   have HMB := zaa (fun w' (hb : Below B w w') => HM.out.below (by rw [HBZ.out] at hb; exact hb))
   go_region_with (go_at_call 54; refine (HIX.out _ HAL.out.drew).mono ?_; rintro e w2 ⟨rfl, hb2⟩; have HB2 := zaa (HAL.out.drew.trans (hb2.mono (HBS.out _ HAL.out.drew))); clear hb2)
   all_goals
    obtain ⟨vz, hz1, hz2⟩ := ((HMB.out _ HB2.out).nd a HA12.out).pf
    have c2 : w2.cell? ⟨N, a * 4 + 2, none⟩ = some (.slice A xs.length c) := by rw [HB2.out.cell (p := ⟨N, a * 4 + 2, none⟩) HNB.out, <- HAL.out.cell (p := ⟨N, a * 4 + 2, none⟩) HNB.out]; exact HC1.out
    clear hz1 hz2
    go_wp2_with fail
    go_region_with (first
     | (go_at_call 50; refine (HCL.out _ HB2.out.drew).mono ?_; rintro e w3 ⟨v3, rfl, ho3, hb3⟩; obtain ⟨A3, c3, e3⟩ := Sl.form (ho3.sl (by decide)); subst e3; have HB3 := zaa (HB2.out.drew.trans (hb3.mono (HBS.out _ HB2.out.drew))); have HO3 := zaa ho3; clear ho3 hb3)
     | (go_at_call 55; rw [HWR.out]; refine (HDE.out _ _ _ HO3.out).mono ?_; rintro e w4 ⟨v4, rfl, hs4, hb4⟩; obtain ⟨A4, c4, e4⟩ := Sl.form hs4.sl; subst e4; have HB4 := zaa (HB3.out.trans (hb4.mono (HBS.out _ HB2.out.drew))); obtain ⟨vz, z1, _⟩ := ((HMB.out _ HB4.out).nd a HA12.out).pf; have z2 := (HMB.out _ HB4.out).fz (a * 4 + 2); have HS4 := zaa (hs4.mono (HBS.out _ HB2.out.drew)); clear hs4 hb4))
    all_goals
     have hm := (HMB.out _ HB4.out).setPf HA12.out (HS4.out.toN HNB.out (fun k hk => HM.out.top k (by rw [<- HBZ.out]; exact hk)))
     have h9 := HB4.out
     rw [HBZ.out] at h9
     have HG := zaa ((below_grownN N h9).trans (setCell_grown w4 N (a * 4 + 2) (.slice A4 (xs.eraseIdx k).length c4)))
     have HS := zaa hm
     clear hm h9 z1 z2
     go_wp2_with fail
     go_ret
     exact ⟨by rw [HT2.out]; rfl, by rw [HT2.out]; exact HS.out, HG.out⟩
end
section
open Go
theorem insP_at : ∀ (l : List Prefix) (p : Prefix) (j : Nat), j <= l.length -> (∀ i, (h : i < l.length) -> i < j -> prefOrd p l[i] = false) -> (∀ i, (h : i < l.length) -> i = j -> prefOrd p l[i] = true) -> insP l p = l.take j ++ p :: l.drop j
 | [], p, j, hj, _, _ => by
   simp at hj; subst hj; rfl
 | q :: l, p, 0, hj, h1, h2 => by
   have := h2 0 (by simp) rfl
   simp only [zbX] at this
   unfold insP
   rw [if_pos this]; rfl
 | q :: l, p, j + 1, hj, h1, h2 => by
   have := h1 0 (by simp) (by omega)
   simp only [zbX] at this
   unfold insP
   rw [if_neg (by rw [this]; simp)]
   rw [insP_at l p j (by simpa using hj) (fun i hi hij => by
    have := h1 (i + 1) (by simpa using hi) (by omega)
    simpa using this) (fun i hi hij => by
    have := h2 (i + 1) (by simpa using hi) (by omega)
    simpa using this)]
   rfl
theorem prefOrd_trans {a b c : Prefix} (h1 : prefOrd a b = true) (h2 : prefOrd b c = true) : prefOrd a c = true := by
 unfold prefOrd at h1 h2 ⊢
 simp only [Bool.or_eq_true, Bool.and_eq_true, decide_eq_true_eq, beq_iff_eq] at h1 h2 ⊢
 omega
theorem insP_down {l : List Prefix} (hl : l.Pairwise fun a b => prefOrd a b = true) {p : Prefix} {j : Nat} (hj : j <= l.length) (h1 : ∀ i, (h : i < l.length) -> j <= i -> prefOrd p l[i] = true) (h2 : ∀ i, (h : i < l.length) -> i + 1 = j -> prefOrd p l[i] = false) :
  insP l p = l.take j ++ p :: l.drop j := by
 refine insP_at l p j hj (fun i hi hij => ?_) (fun i hi hij => h1 i hi (by omega))
 by_cases e : i + 1 = j
 · exact h2 i hi e
 · have hk : j - 1 < l.length := by omega
   have h3 := h2 (j - 1) hk (by omega)
   have h4 := zaF.1 hl i (j - 1) hi hk (by omega)
   cases hx : prefOrd p l[i] with
   | false => rfl
   | true =>
     have := prefOrd_trans hx h4
     rw [h3] at this; cases this
theorem step_down {α : Type} {l : List α} {p : α} {j : Nat} (hj : j + 1 <= l.length) : ((l.take (j + 1) ++ p :: l.drop (j + 1)).set (j + 1) (l[j]'(by omega))).set j p = l.take j ++ p :: l.drop j := by
 have h1 : (l.take (j + 1)).length = j + 1 := by simp; omega
 have h2 : (l.take j).length = j := by simp; omega
 rw [zca _ _ (by omega), h1, Nat.sub_self, List.set_cons_zero, zar (by omega : j < l.length), zaS, zca _ _ (by omega), h2, Nat.sub_self, List.drop_eq_getElem_cons (by omega : j < l.length)]
 rfl
end
section
open Go
open Go Go.RowKit Go.Deep
end
section
open Go Go.RowKit Go.Deep
theorem OwR.setFlat {α : Type} {k : Nat} {enc : α -> List Value} {ok : α -> Prop} {h1 : ∀ x, (enc x).length = k} {h2 : ∀ x, ∀ u ∈ enc x, u.oneCell' = true} {E base : Nat} {w : World} {g n cap : Nat} {xs : List α}
  (h : OwR (flatR k enc ok h1 h2) E base w (.slice (some ⟨g, 0, none⟩) n cap) xs) {i j : Nat} (hi : i < xs.length) (hj : j < k) {u : Value} (hu : u.oneCell' = true) {y : α} (hy : enc y = (enc xs[i]).set j u) (hok : ok y) :
  OwR (flatR k enc ok h1 h2) E base (w.setCell ⟨g, i * k + j, none⟩ u) (.slice (some ⟨g, 0, none⟩) n cap) (xs.set i y) := by
 obtain ⟨css, c1, c2, c3⟩ := h.css
 have hi' : i < css.length := by omega
 have s : OwR (cellR k) E base (w.setCell ⟨g, i * k + j, none⟩ u) (.slice (some ⟨g, 0, none⟩) n cap) (css.set i (css[i].set j u)) := OwR.setRaw (k := k) c3 hi' hj hu
 refine OwR.of_css (css := css.set i (css[i].set j u)) (by simp [c1]) (fun m cs x hcs hx => ?_) s
 by_cases e : m = i
 · subst e
   rw [zbw (by omega)] at hcs hx
   injection hcs with hcs; injection hx with hx
   subst hcs hx
   have := c2 m css[m] xs[m] (zac hi') (zac hi)
   exact ⟨by rw [this.1, hy], hok⟩
 · rw [zbD (fun x => e x.symm)] at hcs hx
   exact c2 m cs x hcs hx
theorem giveC_any (a b : Prefix) (w : World) :
  Calls Tryz.prog 52 #[.agg #[.int .i64 a.addr, .int .i64 a.bits], .agg #[.int .i64 b.addr, .int .i64 b.bits]] w fun e w' => e = .returned (.int .i64 (cmpP a b)) /\ Below w.heap.size w w' := by
 have hB : Below w.heap.size w ((w.alloc (.cells #[.int .i64 a.addr, .int .i64 a.bits] 32)).alloc (.cells #[.int .i64 b.addr, .int .i64 b.bits] 32)) := ((zad _ _).alloc (zab _) _).alloc (by simp) _
 have HB := zaa hB
 clear hB
 go_enter Tryz.func52, Tryz.ntmps52
 go_wp2
 · go_ret
   exact ⟨ei (by unfold cmpP; rw [if_pos (by simpa using ‹(a.addr != b.addr) = true›)]), HB.out⟩
 · go_ret
   exact ⟨ei (by unfold cmpP; rw [if_neg (by simpa using ‹(a.addr != b.addr) = false›)]), HB.out⟩
theorem OwR.setPref {base : Nat} {w : World} {g n cap : Nat} {xs : List Prefix} (h : OwR prefR 32 base w (.slice (some ⟨g, 0, none⟩) n cap) xs) {i : Nat} (hi : i < xs.length) {y : Prefix} (hy : inR y.addr /\ inR y.bits) :
  OwR prefR 32 base ((w.setCell ⟨g, i * 2, none⟩ (.int .i64 y.addr)).setCell ⟨g, i * 2 + 1, none⟩ (.int .i64 y.bits)) (.slice (some ⟨g, 0, none⟩) n cap) (xs.set i y) := by
 have hok : inR xs[i].addr /\ inR xs[i].bits := by
  obtain ⟨css, c1, c2, _⟩ := h.css
  exact (c2 i (css[i]'(by omega)) xs[i] (zac (by omega)) (zac hi)).2
 have s1 := OwR.setFlat h hi (j := 0) (by decide) (u := .int .i64 y.addr) rfl (y := ⟨y.addr, xs[i].bits⟩) rfl ⟨hy.1, hok.2⟩
 have s2 := OwR.setFlat s1 (i := i) (by simpa using hi) (j := 1) (by decide) (u := .int .i64 y.bits) rfl (y := y) (by simp) hy
 rw [List.set_set] at s2
 exact s2
structure InsAt (l : List Prefix) (p : Prefix) (L : List Prefix) (j : Nat) : Prop where
 le : j <= l.length
 eq : L = l.take j ++ p :: l.drop j
 up : ∀ i, (h : i < l.length) -> j <= i -> cmpP p l[i] < 0
theorem InsAt.start (l : List Prefix) (p : Prefix) : InsAt l p (l ++ [p]) l.length := ⟨zab _, by simp, fun i h hi => by omega⟩
theorem InsAt.down {l : List Prefix} {p : Prefix} {L : List Prefix} {j : Nat} (h : InsAt l p L (j + 1)) (hj : j < l.length) (hc : cmpP p l[j] < 0) : InsAt l p ((L.set (j + 1) l[j]).set j p) j := by
 refine ⟨by omega, ?_, fun i hi hij => ?_⟩
 · rw [h.eq]; exact step_down (by omega)
 · by_cases e : i = j
   · subst e; exact hc
   · exact h.up i hi (by omega)
theorem InsAt.get {l : List Prefix} {p : Prefix} {L : List Prefix} {j : Nat} (h : InsAt l p L (j + 1)) (hj : j < l.length) : L[j]? = some l[j] /\ L[j + 1]? = some p /\ L.length = l.length + 1 := by
 have hl := h.le
 rw [h.eq]
 have h1 : (l.take (j + 1)).length = j + 1 := by simp; omega
 refine ⟨?_, ?_, by simp; omega⟩
 · rw [zba (by omega), zbb, if_pos (by omega), zac hj]
 · rw [zaR (by omega), h1, Nat.sub_self]; rfl
def InsDone (base : Nat) (l : List Prefix) (p : Prefix) (v : Value) (w : World) (e : Ending) (w' : World) : Prop :=
 e = .returned (.tuple #[]) /\ (∃ L j, OwR prefR 32 base w' v L /\ InsAt l p L j /\ ∀ i, (h : i < l.length) -> i + 1 = j -> 0 <= cmpP p l[i]) /\ Below base w w'
theorem InsAt.len {l : List Prefix} {p : Prefix} {L : List Prefix} {j : Nat} (h : InsAt l p L j) : L.length = l.length + 1 := by
 have := h.le
 rw [h.eq]; simp; omega
set_option maxRecDepth 100000 in
theorem insSort_any (v : Value) (l : List Prefix) (p : Prefix) (base : Nat) (w : World) (h : OwR prefR 32 base w v (l ++ [p])) (hl : l.length <= 11) (hs : ∀ i, (h : i + 1 < l.length) -> 0 <= cmpP (l[i + 1]) (l[i]'(by omega))) (hp : inR p.addr /\ inR p.bits) (hli : ∀ q ∈ l, inR q.addr /\ inR q.bits) :
  Calls Tryz.prog 127 #[v, .int .i64 0, .int .i64 ((l.length : Int) + 1), .func (.func 52) #[] #[]] w (InsDone base l p v w) := by
 obtain ⟨A, c, hv⟩ := (h.sl (by decide)).form
 subst hv
 obtain ⟨g, rfl, hgb, hgw, hgf⟩ := h.atN (by simp)
 have HGB := zaa hgb
 have hbw := h.choose_spec.2.2.2
 have HO := zaa h
 have HS := zaa hs
 have HP := zaa hp
 have HLI := zaa hli
 have HFZ := zaa (show ∀ w' L, OwR prefR 32 base w' (.slice (some ⟨g, 0, none⟩) (l ++ [p]).length c) L -> L.length = l.length + 1 -> ∀ j, w'.frozen? ⟨g, j, none⟩ = false from fun w' L ho hL => by
  have h9 := ho
  rw [show (l ++ [p]).length = L.length by rw [hL]; simp] at h9
  obtain ⟨g', e, _, _, h10⟩ := h9.atN (by omega)
  injection e with e
  injection e with e _ _
  subst e; exact h10)
 obtain ⟨m, hm⟩ : ∃ m, m = l.length := ⟨_, rfl⟩
 have HM := zaa hm
 have hLE : (l ++ [p]).length = m + 1 := by rw [hm]; simp
 obtain ⟨n, hn⟩ : ∃ n, n = (l ++ [p]).length := ⟨_, rfl⟩
 have hnm : n = m + 1 := by omega
 rw [<- hn] at HO HFZ
 rw [<- hn, <- hm]
 have e1 : ((m : Int) + 1) = (n : Int) := by omega
 rw [e1]
 have hn12 : n <= 12 := by omega
 have HNM := zaa hnm
 clear h hs hp hli hgf hm hLE hn e1 hnm hl
 go_enter Tryz.func127, Tryz.ntmps127
 go_wp2_with fail
 go_loopw [8, 9] (fun s8 _ wr => ∃ (k : Nat) (L : List Prefix), s8 = .int .i64 k /\ 1 <= k /\ k <= n /\ OwR prefR 32 base wr (.slice (some ⟨g, 0, none⟩) n c) L /\ Below base w wr /\ L.length = n /\ (k < n -> L = l ++ [p]) /\ (k = n -> ∃ j, InsAt l p L j /\ ∀ i, (h : i < l.length) -> i + 1 = j -> 0 <= cmpP p l[i])) (fun s8 _ _ => n - (intOf s8).toNat)
 case atStart =>
  refine ⟨1, l ++ [p], by first | rfl | go_num, zab _, by have := HNM.out; omega, HO.out, zad _ _, by rw [HNM.out, HM.out]; simp, fun _ => rfl, fun e => ⟨l.length, InsAt.start l p, fun i hi => ?_⟩⟩
  have := HNM.out; have := HM.out; omega
 case round =>
  obtain ⟨k, L, rfl, hk1, hkn, ho, hb, hLl, hA, hZ⟩ := hrel
  have HO1 := zaa ho
  have HB1 := zaa hb
  have HLL := zaa hLl
  have HZ := zaa hZ
  have HA := zaa hA
  clear ho hb hZ hA hLl HO
  have hk0 : (0 : Int) < (k : Int) := by omega
  have hkN : 0 < k := by omega
  by_cases hlt : k < n
  · have hki : (k : Int) < (n : Int) := by omega
    have hEq := HA.out hlt
    subst hEq
    by_cases hlast : k = m
    · have HKM := zaa hlast
      have hst := InsAt.start l p
      rw [<- HM.out] at hst
      obtain ⟨L0, hL0⟩ : ∃ L0, L0 = l ++ [p] := ⟨_, rfl⟩
      rw [<- hL0] at hst HO1
      have HST := zaa hst
      clear hst hL0 HZ HA HLL hlast
      go_wp2_with fail
      go_loopw [9] (fun s9 wq => ∃ (j : Nat) (L : List Prefix), s9 = .int .i64 j /\ j <= m /\ OwR prefR 32 base wq (.slice (some ⟨g, 0, none⟩) n c) L /\ InsAt l p L j /\ Below base w wq) (fun s9 _ => (intOf s9).toNat)
      case atStart => exact ⟨m, L0, by rw [HKM.out], zab _, HO1.out, HST.out, HB1.out⟩
      case round =>
       obtain ⟨j, L, rfl, hjm, ho, hin, hb⟩ := hrel
       have HO2 := zaa ho
       have HI2 := zaa hin
       have HB2 := zaa hb
       clear ho hin hb HO1 HST
       by_cases hj : j = 0
       · have HIZ := zaa (show ∃ j, InsAt l p L j /\ ∀ i, (h : i < l.length) -> i + 1 = j -> 0 <= cmpP p l[i] from ⟨j, HI2.out, fun i _ h => by omega⟩)
         have hj0 : (0 < j) = False := by simp; omega
         have hjd : decide (0 < j) = false := by simp; omega
         clear hj
         go_wp2_with fail
         go_quiet (fail)
         have HB5 := zaa (bDrewN HB2.out nq)
         have HO5 := zaa (HO2.out.keep (bDrewN (zad _ _) nq))
         go_wp2_with fail
         go_roundw
         case rel => exact ⟨k + 1, L, by go_num, by omega, by have := HNM.out; have := HKM.out; omega, HO5.out, HB5.out, by have := HI2.out.len; have := HNM.out; have := HM.out; omega, fun h => by have := HNM.out; have := HKM.out; omega, fun _ => HIZ.out⟩
         case measure => simp [intOf]; omega
       · obtain ⟨jp, hjp⟩ : ∃ jp, j = jp + 1 := ⟨j - 1, by omega⟩
         have hj0 : (0 : Int) < (j : Int) := by omega
         have hjN : 0 < j := by omega
         have hj1 : (j : Int) - 1 = (jp : Int) := by omega
         have hjp0 : (0 : Int) <= (jp : Int) := zaf jp
         have hnm' := HNM.out
         have hjn : (j : Int) < (n : Int) := by omega
         have hjpn : (jp : Int) < (n : Int) := by omega
         have hwp : IntKind.i64.wrap (jp : Int) = (jp : Int) := by rw [IntKind.wrap_i64]; omega
         have hml := HM.out
         have hjl : jp < l.length := by omega
         obtain ⟨g1, g2, g3⟩ := (show InsAt l p L (jp + 1) by rw [<- hjp]; exact HI2.out).get hjl
         have hLn : L.length = n := by omega
         obtain ⟨q, hq⟩ : ∃ q, q = l[jp] := ⟨_, rfl⟩
         rw [<- hq] at g1
         have HQ := zaa hq
         have HQI := zaa (show inR q.addr /\ inR q.bits by rw [hq]; exact HLI.out _ (zas hjl))
         have ho2 := HO2.out
         rw [<- hLn] at ho2
         obtain ⟨f1, f2, x1, x2⟩ := (Sl.pref (ho2.sl (by decide)) (k := jp) (by omega))
         obtain ⟨f3, f4, x3, x4⟩ := (Sl.pref (ho2.sl (by decide)) (k := j) (by omega))
         have e1 : L[jp]'(by omega) = q := by
          have := g1; rw [zac (by omega)] at this; injection this
         have e2 : L[j]'(by omega) = p := by
          have := g2; rw [<- hjp, zac (by omega)] at this; injection this
         rw [e1] at f1 f2
         rw [e2] at f3 f4
         simp only [zaM] at f1 f2 f3 f4
         have z := HFZ.out _ L HO2.out g3
         have HJP := zaa hjp
         have HJL := zaa hjl
         have HLN := zaa hLn
         clear x1 x2 x3 x4
         clear ho2 g1 g2 g3 e1 e2 hq hLn hnm' hml hjp
         have l1 := cell_regrown f1
         have l2 := cell_regrown f2
         have l3 := cell_regrown f3
         have l4 := cell_regrown f4
         obtain ⟨WQ, hWQ⟩ : ∃ m, m = wr := ⟨wr, rfl⟩
         have cS : ∀ d os, Calls Tryz.prog 52 #[.agg #[.int .i64 p.addr, .int .i64 p.bits], .agg #[.int .i64 q.addr, .int .i64 q.bits]] (Sort.grow (redrawn wr d) os) fun e w'' => e = .returned (.int .i64 (cmpP p q)) /\ ∃ q : Regrown, w'' = Sort.grow (redrawn wr q.d) q.os := fun d os => Calls.regrown_of (giveC_any p q _)
         clear hWQ
         go_wp2_with fail
         refine wp_region_quiet_below (by kernel_rfl) (by kernel_rfl) ?_
         repeat (quiet_step (fail))
         quiet_step (exact cS _ _)
         repeat (quiet_step (fail))
         refine wpQuiet_nil ?_
         intro _ hw'
         obtain ⟨⟨dq, osq⟩, hw''⟩ := hw'
         subst hw''
         have HB5 := zaa (HB2.out.trans ((below_regrown _ dq osq).mono (zaz hbw HB2.out.size)))
         have HO5 := zaa (HO2.out.keep (below_regrown _ dq osq))
         have HBR := zaa (below_regrown wr dq osq)
         clear cS l1 l2 l3 l4
         generalize Sort.grow (redrawn wr dq) osq = w5 at HB5 HO5 HBR ⊢
         by_cases hc : cmpP p q < 0
         · have HDN := zaa (show InsAt l p ((L.set j q).set jp p) jp by
            have h9 := (show InsAt l p L (jp + 1) by rw [<- HJP.out]; exact HI2.out).down HJL.out (by rw [<- HQ.out]; exact hc)
            rw [<- HQ.out, <- HJP.out] at h9
            exact h9)
           have z5 := HFZ.out w5 L HO5.out (by rw [HLN.out, HNM.out, HM.out])
           have z1 := z5 (j * 2)
           have z2 := z5 (j * 2 + 1)
           have z3 := z5 (jp * 2)
           have z4 := z5 (jp * 2 + 1)
           have f1 := cell_keep HBR.out f1
           have f2 := cell_keep HBR.out f2
           have f3 := cell_keep HBR.out f3
           have f4 := cell_keep HBR.out f4
           have hne1 : ¬ (j * 2 = jp * 2) := by have := HJP.out; omega
           have hne2 : ¬ (j * 2 + 1 = jp * 2) := by have := HJP.out; omega
           have hne3 : ¬ (j * 2 = jp * 2 + 1) := by have := HJP.out; omega
           have hne4 : ¬ (j * 2 + 1 = jp * 2 + 1) := by have := HJP.out; omega
           have hne5 : ¬ (jp * 2 = j * 2) := fun e => hne1 e.symm
           have hne6 : ¬ (jp * 2 = j * 2 + 1) := fun e => hne2 e.symm
           have hne7 : ¬ (jp * 2 + 1 = j * 2) := fun e => hne3 e.symm
           have hne8 : ¬ (jp * 2 + 1 = j * 2 + 1) := fun e => hne4 e.symm
           have hs1 := OwR.setPref (w := w5) HO5.out (i := j) (by rw [HLN.out]; omega) HQI.out
           have hs2 := OwR.setPref hs1 (i := jp) (by rw [zbx, HLN.out]; omega) HP.out
           have HS2 := zaa (hs2.keep (zad _ _).drew)
           clear z5 hs1 hs2 z
           go_wp2_with fail
           go_region_with (fail)
           all_goals
            go_wp2_with fail
            go_roundw
            case rel => exact ⟨jp, _, by go_num, by omega, HS2.out, HDN.out, ((((HB5.out.setCell (p := ⟨g, j * 2, none⟩) HGB.out _).setCell (p := ⟨g, j * 2 + 1, none⟩) HGB.out _).setCell (p := ⟨g, jp * 2, none⟩) HGB.out _).setCell (p := ⟨g, jp * 2 + 1, none⟩) HGB.out _).drew⟩
            case measure => have := HJP.out; simp [intOf]; omega
         · have HIZ := zaa (show ∃ j, InsAt l p L j /\ ∀ i, (h : i < l.length) -> i + 1 = j -> 0 <= cmpP p l[i] from ⟨j, HI2.out, fun i hi h => by
            have : i = jp := by have := HJP.out; omega
            subst this; rw [<- HQ.out]; omega⟩)
           go_wp2_with fail
           go_roundw
           case rel => exact ⟨k + 1, L, by go_num, by omega, by have := HNM.out; have := HKM.out; omega, HO5.out, HB5.out, HLN.out, fun h => by have := HNM.out; have := HKM.out; omega, fun _ => HIZ.out⟩
           case measure => simp [intOf]; omega
    · obtain ⟨kp, hkp⟩ : ∃ kp, k = kp + 1 := ⟨k - 1, by omega⟩
      have hj1 : (k : Int) - 1 = (kp : Int) := by omega
      have hjp0 : (0 : Int) <= (kp : Int) := zaf kp
      have hnm' := HNM.out
      have hjpn : (kp : Int) < (n : Int) := by omega
      have hwp : IntKind.i64.wrap (kp : Int) = (kp : Int) := by rw [IntKind.wrap_i64]; omega
      have hml := HM.out
      have hkl : k < l.length := by omega
      have hcmp : ¬ cmpP (l[k]'hkl) (l[kp]'(by omega)) < 0 := by
       have h9 := HS.out kp (by omega)
       simp only [<- hkp] at h9
       omega
      have ho2 := HO1.out
      rw [<- HLL.out] at ho2
      obtain ⟨f1, f2, x1, x2⟩ := (Sl.pref (ho2.sl (by decide)) (k := kp) (by simp; omega))
      obtain ⟨f3, f4, x3, x4⟩ := (Sl.pref (ho2.sl (by decide)) (k := k) (by simp; omega))
      have e1 : (l ++ [p])[kp]'(by simp; omega) = l[kp]'(by omega) := List.getElem_append_left (by omega)
      have e2 : (l ++ [p])[k]'(by simp; omega) = l[k]'hkl := List.getElem_append_left hkl
      rw [e1] at f1 f2
      rw [e2] at f3 f4
      simp only [zaM] at f1 f2 f3 f4
      obtain ⟨x, hx⟩ : ∃ x, x = l[k]'hkl := ⟨_, rfl⟩
      obtain ⟨y, hy⟩ : ∃ y, y = l[kp]'(by omega) := ⟨_, rfl⟩
      rw [<- hx] at f3 f4 hcmp
      rw [<- hy] at f1 f2 hcmp
      obtain ⟨L0, hL0⟩ : ∃ L0, L0 = l ++ [p] := ⟨_, rfl⟩
      have HL0 := zaa hL0
      have HKN := zaa (show k + 1 < n ∨ k + 1 = n by omega)
      have HLN0 := zaa (show L0.length = n by rw [hL0]; exact HLL.out)
      have HKF := zaa (show k + 1 < n by omega)
      rw [<- hL0] at HO1
      have F1 := zaa f1
      have F2 := zaa f2
      have F3 := zaa f3
      have F4 := zaa f4
      have HBW := zaa (show wr = wr from rfl)
      clear x1 x2 x3 x4
      clear ho2 e1 e2 hx hy hkp hnm' hml hlast HZ HA HLL hL0 f1 f2 f3 f4
      obtain ⟨WR, rfl⟩ : ∃ m, m = wr := ⟨wr, rfl⟩
      go_wp2_with fail
      go_loopw [9] (fun s9 wq => s9 = .int .i64 k /\ wq = WR) (fun s9 _ => 0)
      case atStart => exact ⟨rfl, rfl⟩
      case round =>
       obtain ⟨rfl, rfl⟩ := hrel
       have HO2 := zaa HO1.out
       have HB2 := zaa HB1.out
       have l1 := cell_regrown F1.out
       have l2 := cell_regrown F2.out
       have l3 := cell_regrown F3.out
       have l4 := cell_regrown F4.out
       obtain ⟨WQ, hWQ⟩ : ∃ m, m = wr := ⟨wr, rfl⟩
       have cS : ∀ d os, Calls Tryz.prog 52 #[.agg #[.int .i64 x.addr, .int .i64 x.bits], .agg #[.int .i64 y.addr, .int .i64 y.bits]] (Sort.grow (redrawn wr d) os) fun e w'' => e = .returned (.int .i64 (cmpP x y)) /\ ∃ q : Regrown, w'' = Sort.grow (redrawn wr q.d) q.os := fun d os => Calls.regrown_of (giveC_any x y _)
       clear hWQ
       go_wp2_with fail
       refine wp_region_quiet_below (by kernel_rfl) (by kernel_rfl) ?_
       repeat (quiet_step (fail))
       quiet_step (exact cS _ _)
       repeat (quiet_step (fail))
       refine wpQuiet_nil ?_
       intro _ hw'
       obtain ⟨⟨dq, osq⟩, hw''⟩ := hw'
       subst hw''
       have HB5 := zaa (HB2.out.trans ((below_regrown _ dq osq).mono (zaz hbw HB2.out.size)))
       have HO5 := zaa (HO2.out.keep (below_regrown _ dq osq))
       have HBR := zaa (below_regrown wr dq osq)
       clear cS l1 l2 l3 l4
       generalize Sort.grow (redrawn wr dq) osq = w5 at HB5 HO5 HBR ⊢
       go_wp2_with fail
       go_roundw
       case rel => exact ⟨k + 1, L0, by go_num, by omega, by have := HKF.out; omega, HO5.out, HB5.out, HLN0.out, fun _ => HL0.out, fun h => by have := HKF.out; omega⟩
       case measure => simp [intOf]; omega
  · obtain rfl : k = n := by omega
    have HZ2 := zaa (HZ.out rfl)
    clear HZ HA
    go_wp2_with fail
    go_end0
    obtain ⟨j, h1, h2⟩ := HZ2.out
    exact ⟨rfl, ⟨L, j, HO1.out, h1, h2⟩, HB1.out⟩
set_option maxRecDepth 100000 in
theorem pdq_any (v : Value) (l : List Prefix) (p : Prefix) (base : Nat) (lim : Int) (w : World) (h : OwR prefR 32 base w v (l ++ [p])) (hl : l.length <= 11) (hs : ∀ i, (h : i + 1 < l.length) -> 0 <= cmpP (l[i + 1]) (l[i]'(by omega))) (hp : inR p.addr /\ inR p.bits) (hli : ∀ q ∈ l, inR q.addr /\ inR q.bits) :
  Calls Tryz.prog 89 #[v, .int .i64 0, .int .i64 ((l.length : Int) + 1), .int .i64 lim, .func (.func 52) #[] #[]] w (InsDone base l p v w) := by
 have HS := zaa (insSort_any v l p base w h hl hs hp hli)
 obtain ⟨n, hn⟩ : ∃ n : Int, n = (l.length : Int) + 1 := ⟨_, rfl⟩
 rw [<- hn] at HS ⊢
 have hn12 : n <= 12 := by omega
 have hn0 : 0 <= n := by omega
 obtain ⟨A, n0, c, rfl⟩ := ow_form h (by decide)
 clear h hl hs hp hli hn
 obtain ⟨W, hW⟩ : ∃ W, W = w := ⟨w, rfl⟩
 go_enter Tryz.func89, Tryz.ntmps89
 go_wp2_with fail
 go_loopw [1, 2] (fun s1 s2 wr => s1 = .int .i64 0 /\ s2 = .int .i64 n /\ wr = w) (fun _ _ _ => 0)
 case atStart => exact ⟨rfl, rfl, rfl⟩
 case round =>
  obtain ⟨rfl, rfl, rfl⟩ := hrel
  go_wp2_with fail
  refine HS.out.mono ?_
  rintro e w1 hd
  have HD := zaa hd
  obtain ⟨rfl, _, _⟩ := hd
  go_wp2_with fail
  go_end0
  exact HD.out
set_option maxRecDepth 100000 in
theorem sortFunc_any (v : Value) (l : List Prefix) (p : Prefix) (base : Nat) (w : World) (h : OwR prefR 32 base w v (l ++ [p])) (hl : l.length <= 11) (hs : ∀ i, (h : i + 1 < l.length) -> 0 <= cmpP (l[i + 1]) (l[i]'(by omega))) (hp : inR p.addr /\ inR p.bits) (hli : ∀ q ∈ l, inR q.addr /\ inR q.bits) :
  Calls Tryz.prog 51 #[v, .func (.func 52) #[] #[]] w (InsDone base l p v w) := by
 have HS := zaa (fun lim => pdq_any v l p base lim w h hl hs hp hli)
 obtain ⟨A, c, hv⟩ := (h.sl (by decide)).form
 subst hv
 obtain ⟨n, hn⟩ : ∃ n : Nat, n = (l ++ [p]).length := ⟨_, rfl⟩
 have e1 : (l.length : Int) + 1 = (n : Int) := by rw [hn]; simp
 rw [e1] at HS
 rw [<- hn] at HS ⊢
 have hn12 : n <= 12 := by rw [hn]; simp; omega
 have hn0 : (0 : Int) <= (n : Int) := zaf n
 have hn13 : (n : Int) <= 12 := by omega
 have HL := zaa (fun w => Tryz.bits_Len (n : Int) w hn0 (by omega))
 clear h hl hs hp hli hn e1
 go_enter Tryz.func51, Tryz.ntmps51
 go_wp2_with fail
 refine (HL.out _).mono ?_
 rintro e w1 ⟨rfl, rfl⟩
 go_wp2_with fail
 refine (HS.out _).mono ?_
 rintro e w2 hd
 have HD := zaa hd
 obtain ⟨rfl, _, _⟩ := hd
 go_wp2_with fail
 go_end0
 exact HD.out
theorem cmp_sorted {l : List Prefix} (h : chkPrefs l = 0) : ∀ i, (h : i + 1 < l.length) -> 0 <= cmpP (l[i + 1]) (l[i]'(by omega)) := by
 intro i hi
 obtain ⟨_, hb, ho⟩ := prefs_fine h
 have h1 := cmpP_bounds (a := l[i + 1]) (b := l[i]'(by omega)) (hb _ (zas _)) (hb _ (zas _))
 have h2 := zaF.1 ho i (i + 1) (by omega) hi (by omega)
 by_cases h3 : cmpP l[i + 1] (l[i]'(by omega)) < 0
 · have h4 := h1.1.1 h3
   have a1 := (prefOrd_iff _ _).1 h2
   have a2 := (prefOrd_iff _ _).1 h4
   omega
 · omega
theorem prefs_inR {l : List Prefix} (h : chkPrefs l = 0) : ∀ q ∈ l, inR q.addr /\ inR q.bits := fun q hq => by
 have := prefBad_ok ((prefs_fine h).2.1 q hq)
 unfold inR; omega
theorem ins_insP {l : List Prefix} {p : Prefix} {L : List Prefix} {j : Nat} (hl : chkPrefs l = 0) (hp : prefBad p = 0) (h : InsAt l p L j) (h2 : ∀ i, (h : i < l.length) -> i + 1 = j -> 0 <= cmpP p l[i]) : L = insP l p := by
 obtain ⟨_, hb, ho⟩ := prefs_fine hl
 rw [insP_down ho h.le (fun i hi hij => ((cmpP_bounds hp (hb _ (zas hi))).1.1 (h.up i hi hij))) (fun i hi hij => by
  have h1 := h2 i hi hij
  have h3 := (cmpP_bounds hp (hb _ (zas hi))).1
  rw [Bool.eq_false_iff]
  intro e
  have := h3.2 e
  omega)]
 exact h.eq
set_option maxRecDepth 50000 in
theorem ngive_any {X : Nat -> Prop} (N a : Nat) (p : Prefix) (x : Net) (w : World) (h : NetM X w N x) (ha : a < 12) (hx : NetOk x) (hp : inR p.addr /\ inR p.bits) :
  Calls Tryz.prog 29 #[.pointer (some ⟨N, 0, none⟩), .int .i64 (a : Nat), .agg #[.int .i64 p.addr, .int .i64 p.bits]] w (NPost X N (giveS x a p).1 (.returned (.int .i64 (giveS x a p).2)) w) := by
 have HM := zaa h
 have ha0 : (0 : Int) <= (a : Int) := zaf a
 have ha1 : (a : Int) < 12 := by omega
 have HA12 := zaa ha
 have HP := zaa hp
 have hpf := (hx.nd a ha).pf
 have hal := (zad w.heap.size w).alloc (zab _) (.cells #[.int .i64 p.addr, .int .i64 p.bits] 32)
 obtain ⟨v, c0, s0⟩ := (h.nd a ha).pf
 obtain ⟨xs, hxs⟩ : ∃ l, l = (x.nd a).pf := ⟨_, rfl⟩
 rw [<- hxs] at s0 hpf
 have HXS := zaa hxs
 have HPF := zaa hpf
 have hpl := (prefs_fine hpf).1
 obtain ⟨A, c, rfl⟩ := s0.sl.form
 have c1 := cell_keep hal c0
 have b0 : (w.alloc (.cells #[.int .i64 p.addr, .int .i64 p.bits] 32)).cell? ⟨w.heap.size, 0, none⟩ = some (.int .i64 p.addr) := by rw [zae _ _ _ _ rfl]; rfl
 have b1 : (w.alloc (.cells #[.int .i64 p.addr, .int .i64 p.bits] 32)).cell? ⟨w.heap.size, 1, none⟩ = some (.int .i64 p.bits) := by rw [zae _ _ _ _ rfl]; rfl
 have HAL := zaa hal
 have HSL := zaa s0.sl
 obtain ⟨W, hW⟩ : ∃ x, x = w.alloc (.cells #[.int .i64 p.addr, .int .i64 p.bits] 32) := ⟨_, rfl⟩
 rw [<- hW] at c1 b0 b1 HAL
 have HCL := zaa (fun w' (hb : Below w.heap.size w w') => cloneP_any (.slice A xs.length c) xs w' (HSL.out.below hb) (by omega))
 have HLN := zaa (show xs.length + [p].length <= 1000000000000 by simp; omega)
 have HPL := zaa hpl
 have hNw := h.lt
 have HWZ := zaa (show W.heap.size = w.heap.size + 1 by rw [hW]; simp)
 have HG := zaa (show giveS x a p = if chkPrefs [p] ≠ 0 then (x, chkPrefs [p]) else if chkPrefs (insP xs p) ≠ 0 then (x, chkPrefs (insP xs p)) else (x.setN a { x.nd a with pf := insP xs p }, 0) by rw [hxs]; rfl)
 clear h hx hpf hpl hal c0 s0 hxs hp
 go_enter Tryz.func29, Tryz.ntmps29
 go_wp2_with fail
 rw [<- hW]
 clear hW
 obtain ⟨B, hB⟩ : ∃ B, B = w.heap.size := ⟨_, rfl⟩
 have HBZ := zaa hB
 have HBS := zaa (show ∀ w', Below B w w' -> B <= w'.heap.size from fun w' hb => by rw [hB]; exact hb.size)
 rw [<- hB] at b0 b1 HAL HCL hNw HWZ ⊢
 clear hB
 have HNB := zaa hNw
 have HMB := zaa (fun w' (hb : Below B w w') => HM.out.below (by rw [HBZ.out] at hb; exact hb))
 have HKP := zaa (show ∀ w', Below (B + 1) W w' -> w'.cell? ⟨B, 0, none⟩ = some (.int .i64 p.addr) /\ w'.cell? ⟨B, 1, none⟩ = some (.int .i64 p.bits) /\ w'.cell? ⟨N, a * 4 + 2, none⟩ = some (.slice A xs.length c) /\ Below B w w' from fun w' hb => by
  refine ⟨?_, ?_, ?_, HAL.out.trans (hb.mono (by omega))⟩
  · rw [hb.cell (p := ⟨B, 0, none⟩) (by show B < B + 1; omega)]; exact b0
  · rw [hb.cell (p := ⟨B, 1, none⟩) (by show B < B + 1; omega)]; exact b1
  · rw [hb.cell (p := ⟨N, a * 4 + 2, none⟩) (by show N < B + 1; omega)]; exact c1)
 have HB0 := zaa ((zad (B + 1) W).drew)
 have HWD := zaa (show B + 1 <= W.drew.heap.size by show B + 1 <= W.heap.size; have := HWZ.out; omega)
 have HB1 := zaa ((zad (B + 1) W).drew.alloc HWD.out (.cells #[.int .i64 p.addr, .int .i64 p.bits] 32))
 have HWD1 := zaa (show B + 1 <= (W.drew.alloc (.cells #[.int .i64 p.addr, .int .i64 p.bits] 32)).heap.size by rw [zbp]; have := HWD.out; omega)
 have HONE1 := zaa (show Sl prefR (W.drew.alloc (.cells #[.int .i64 p.addr, .int .i64 p.bits] 32)) (.slice (some ⟨W.heap.size, 0, none⟩) 1 1) [p] from SlR.keep (one_flat (r := prefR) (w := W.drew) (B := W.heap.size) (cs := [.int .i64 p.addr, .int .i64 p.bits]) (x := p) (E := 32) rfl ⟨rfl, HP.out⟩) (fun _ _ => rfl) (fun k hk => by simpa using hk))
 go_region_held3 (fun w' => w'.cell? ⟨B, 0, none⟩ = some (.int .i64 p.addr) /\ w'.cell? ⟨B, 1, none⟩ = some (.int .i64 p.bits) /\ w'.cell? ⟨N, a * 4 + 2, none⟩ = some (.slice A xs.length c)) (first | go_keep | exact ⟨k1, k2, k3⟩)
  (first
   | (go_at_call 50; refine (HCL.out _ (HKP.out _ HB0.out).2.2.2).mono ?_; rintro e w2 ⟨v2, rfl, ho2, hb2⟩; obtain ⟨A2, n2, c2, rfl⟩ := ow_form ho2 (by decide); have HB2 := zaa (HB0.out.trans (hb2.mono HWD.out)); have HO2 := zaa (ho2.lower HWD.out); obtain ⟨k1, k2, k3, _⟩ := HKP.out _ HB2.out; clear ho2 hb2)
   | (go_at_call 50; refine (HCL.out _ (HKP.out _ HB1.out).2.2.2).mono ?_; rintro e w2 ⟨v2, rfl, ho2, hb2⟩; obtain ⟨A2, n2, c2, rfl⟩ := ow_form ho2 (by decide); have HB2 := zaa (HB1.out.trans (hb2.mono HWD1.out)); have HO2 := zaa (ho2.lower HWD1.out); have HS2 := zaa (HONE1.out.below hb2); obtain ⟨k1, k2, k3, _⟩ := HKP.out _ HB2.out; clear ho2 hb2)
   | (refine step_gen (base := B + 1) elt_prefA (by rfl) (.tmp 17) (.tmp 19) (by rfl) (ow_alloc HO2.out _) (one_flat (r := prefR) (cs := [.int .i64 p.addr, .int .i64 p.bits]) (x := p) rfl ⟨rfl, HP.out⟩) (fun _ _ h => h) (by rfl) (by rfl) HLN.out (by decide) ?_; intro v3 w3 ho3 hg3; have HO3 := zaa ho3; have hb3 : Below (B + 1) W w3 := ((ow_alloc HO2.out (.cells #[.int .i64 p.addr, .int .i64 p.bits] 32)).below_grown (HB2.out.alloc HO2.out.choose_spec.2.2.2 (.cells #[.int .i64 p.addr, .int .i64 p.bits] 32)) hg3.grown); have HB3 := zaa hb3; obtain ⟨k1, k2, k3, _⟩ := HKP.out _ HB3.out; clear ho3 hg3 hb3)
   | (refine step_gen (base := B + 1) elt_prefA (by rfl) (.tmp 17) (.tmp 19) (by rfl) HO2.out HS2.out (fun _ _ h => h) (by rfl) (by rfl) HLN.out (by decide) ?_; intro v3 w3 ho3 hg3; have HO3 := zaa ho3; have hb3 : Below (B + 1) W w3 := HO2.out.below_grown HB2.out hg3.grown; have HB3 := zaa hb3; obtain ⟨k1, k2, k3, _⟩ := HKP.out _ HB3.out; clear ho3 hg3 hb3))
 all_goals
  have HSF := zaa (sortFunc_any v3 xs p (B + 1) w3 HO3.out (by have := HPL.out; omega) (cmp_sorted HPF.out) HP.out (prefs_inR HPF.out))
  obtain ⟨A3, n3, c3, rfl⟩ := ow_form HO3.out (by decide)
  clear k1 k2 k3
  go_wp2_with fail
  refine HSF.out.mono ?_
  rintro e w4 ⟨rfl, ⟨L, j, ho4, hin, hlast⟩, hb4⟩
  have HB4 := zaa (HB3.out.trans hb4)
  have HO4 := zaa ho4
  have HIN := zaa hin
  have HLA := zaa hlast
  obtain ⟨k1, k2, k3, hbw4⟩ := HKP.out _ HB4.out
  have HBW4 := zaa hbw4
  have HONE := zaa (checkPrefs_any (.slice (some ⟨w4.heap.size, 0, none⟩) 1 1) [p] (w4.alloc (.cells #[.int .i64 p.addr, .int .i64 p.bits] 32)) (SlR.keep (one_flat (r := prefR) (w := w4) (B := w4.heap.size) (cs := [.int .i64 p.addr, .int .i64 p.bits]) (x := p) (E := 32) rfl ⟨rfl, HP.out⟩) (fun _ _ => rfl) (fun k hk => by simpa using hk)))
  clear ho4 hin hlast hb4 HSF HO3 HB3 hbw4
  go_wp2_with fail
  refine HONE.out.mono ?_
  rintro e w5 ⟨rfl, hb5⟩
  have hb45 := ((zad w4.heap.size w4).alloc (zab _) (.cells #[.int .i64 p.addr, .int .i64 p.bits] 32)).trans (hb5.mono (by simp))
  have HB5 := zaa (HBW4.out.trans (hb45.mono (HBS.out _ HBW4.out)))
  have HO5 := zaa (HO4.out.keep hb45)
  clear hb5 hb45 k1 k2 k3
  by_cases hc : chkPrefs [p] = 0
  · have HCK := zaa (checkPrefs_any (.slice A3 n3 c3) L w5 (HO5.out.sl (by decide)))
    have HLI := zaa (show L = insP xs p from ins_insP HPF.out ((prefs_fine hc).2.1 p (by simp)) HIN.out HLA.out)
    have HG2 := zaa (HG.out.trans (if_neg (by rw [hc]; simp)))
    rw [<- HLI.out] at HG2
    have hcb : (chkPrefs [p] != 0) = false := by rw [hc]; rfl
    rw [hc] at hcb ⊢
    clear hc
    go_wp2_with fail
    refine HCK.out.mono ?_
    rintro e w6 ⟨rfl, hb6⟩
    have HB6 := zaa (HB5.out.trans (hb6.mono (HBS.out _ HB5.out)))
    have HO6 := zaa (HO5.out.keep hb6)
    clear hb6
    by_cases hd : chkPrefs L = 0
    · have HG3 := zaa (HG2.out.trans (if_neg (by rw [hd]; simp)))
      rw [hd]
      have hm := (HMB.out _ HB6.out).setPf HA12.out ((HO6.out.slG (by decide) (fun _ _ _ _ h => h)).toN (by have := HNB.out; omega) (fun k hk => HM.out.top k (by rw [<- HBZ.out]; omega)))
      obtain ⟨vz, z1, z3⟩ := ((HMB.out _ HB6.out).nd a HA12.out).pf
      have z2 := (HMB.out _ HB6.out).fz (a * 4 + 2)
      have h9 := HB6.out
      rw [HBZ.out] at h9
      have HGR := zaa ((below_grownN N h9).trans (setCell_grown w6 N (a * 4 + 2) (.slice A3 n3 c3)))
      have HS := zaa hm
      clear hm h9 hd z3
      go_wp2_with fail
      go_ret
      exact ⟨by rw [HG3.out]; rfl, by rw [HG3.out]; exact HS.out, HGR.out⟩
    · have HG3 := zaa (HG2.out.trans (if_pos hd))
      have hdb : (chkPrefs L != 0) = true := by simpa using hd
      have h9 := HB6.out
      rw [HBZ.out] at h9
      have HGR := zaa h9
      clear h9 hd
      go_wp2_with fail
      go_ret
      exact ⟨by rw [HG3.out]; rfl, by rw [HG3.out]; exact HMB.out _ HB6.out, below_grownN N HGR.out⟩
  · have HG3 := zaa (HG.out.trans (if_pos hc))
    have hdb : (chkPrefs [p] != 0) = true := by simpa using hc
    have h9 := HB5.out
    rw [HBZ.out] at h9
    have HGR := zaa h9
    clear h9 hc
    go_wp2_with fail
    go_ret
    exact ⟨by rw [HG3.out]; rfl, by rw [HG3.out]; exact HMB.out _ HB5.out, below_grownN N HGR.out⟩
def ActV.agg (c : ActV) : Value := .agg #[.int .i64 c.kind, .int .i64 c.a, .int .i64 c.b, .int .i64 c.n, .int .i64 c.m, .int .i64 c.pre.addr, .int .i64 c.pre.bits, .string c.key, .string c.value]
def ActN (X : Nat -> Prop) (N : Nat) (r : Net × Rpl) (w : World) (e : Ending) (w' : World) : Prop :=
 ∃ vp vk, e = .returned (.agg #[.int .i64 r.2.code, vp, .int .i64 r.2.cost, vk]) /\ SlF intR w.heap.size w' vp r.2.path /\ SlF strR w.heap.size w' vk r.2.keys /\ NetM X w' N r.1 /\ w.grownBy w' (some N)
theorem NetM.keepB {X X' : Nat -> Prop} {w w' : World} {N : Nat} {x : Net} (h : NetM X w N x) (hz : ∀ k, k < w.heap.size -> Zn N X k -> Zn N X' k) (hN : w'.heap[N]? = w.heap[N]?) (hk : ∀ k, k < w.heap.size -> Zn N X k -> w'.heap[k]? = w.heap[k]?) (hs : w.heap.size <= w'.heap.size) (hh : ∀ k, w'.heap.size <= k -> ¬ X' k) : NetM X' w' N x := by
 have hc : ∀ o, w'.cell? ⟨N, o, none⟩ = w.cell? ⟨N, o, none⟩ := fun o => zav hN
 have key : ∀ {α : Type} {r : Rep α} {v : Value} {l : List α}, SlN r N X w v l -> SlN r N X' w' v l := fun h =>
  SlR.keep h (fun k hk' => hk k hk'.1 hk'.2) (fun k hk' => ⟨zan hk'.1 hs, hz k hk'.1 hk'.2⟩)
 refine ⟨hh, fun a ha => ?_, fun a b ha hb => (hc _).trans (h.co a b ha hb), fun i => (zaO hN).trans (h.fz i), zan h.lt hs⟩
 obtain ⟨v0, a0, b0⟩ := (h.nd a ha).st
 obtain ⟨v2, a2, b2⟩ := (h.nd a ha).pf
 obtain ⟨v3, a3, b3⟩ := (h.nd a ha).tb
 exact ⟨⟨v0, (hc _).trans a0, key b0⟩, (hc _).trans (h.nd a ha).dr, ⟨v2, (hc _).trans a2, key b2⟩, ⟨v3, (hc _).trans a3, key b3⟩⟩
def gapX (X : Nat -> Prop) (w w' : World) (k : Nat) : Prop := X k ∨ (w.heap.size <= k /\ k < w'.heap.size)
theorem NetM.gap {X : Nat -> Prop} {w w' : World} {N : Nat} {x : Net} (h : NetM X w N x) (hb : Below w.heap.size w w') : NetM (gapX X w w') w' N x :=
 h.keepB (fun k hk hz => ⟨hz.1, fun e => e.elim hz.2 (fun e => by omega)⟩) (hb.block N h.lt) (fun k hk _ => hb.block k hk) hb.size (fun k hk e => e.elim (h.top k (zaz hb.size hk)) (fun e => by omega))
theorem NetM.setGap {X : Nat -> Prop} {w : World} {N : Nat} {x : Net} (h : NetM X w N x) {B o : Nat} {u : Value} (h1 : N < B) (h2 : X B) : NetM X (w.setCell ⟨B, o, none⟩ u) N x :=
 h.keepB (fun k _ hz => hz) (zai _ _ _ _ (show N ≠ B by omega)) (fun k _ hz => zai _ _ _ _ (show k ≠ B from fun e => hz.2 (e ▸ h2))) (by simp [World.setCell]) (by simpa [World.setCell] using h.top)
theorem SlF.setLow {α : Type} {r : Rep α} {b B o : Nat} {w : World} {u v : Value} {l : List α} (h : SlF r b w v l) (hB : B < b) : SlF r b (w.setCell ⟨B, o, none⟩ u) v l :=
 SlR.keep h (fun k hk => zai _ _ _ _ (show k ≠ B by have := hk.2; omega)) (fun k hk => ⟨by simpa [World.setCell] using hk.1, hk.2⟩)
theorem grown_setN {w0 w : World} {N : Nat} (h : w0.grownBy w (some N)) {B o : Nat} {u : Value} (hB : w0.heap.size <= B) : w0.grownBy (w.setCell ⟨B, o, none⟩ u) (some N) :=
 ⟨h.os, h.tape, h.output, by simpa [World.setCell] using h.size, fun k hk hne => (zai _ _ _ _ (show k ≠ B by omega)).trans (h.block k hk hne)⟩
theorem os_setCell' (w : World) (a : Addr) (u : Value) : (w.setCell a u).os = w.os := rfl
theorem tape_setCell' (w : World) (a : Addr) (u : Value) : (w.setCell a u).tape = w.tape := rfl
theorem output_setCell' (w : World) (a : Addr) (u : Value) : (w.setCell a u).output = w.output := rfl
def rplZ : Array Value := #[.int .i64 0, .slice none 0 0, .int .i64 0, .slice none 0 0]
structure ActW (oz : Array Value) (w W : World) (A R O : Nat) (c : ActV) : Prop where
 b : Below w.heap.size w W
 sz : w.heap.size <= A /\ A < R /\ R < O /\ O < W.heap.size
 a : ∀ i, W.cell? ⟨A, i, none⟩ = c.cells.toArray[i]?
 r : ∀ i, W.cell? ⟨R, i, none⟩ = rplZ[i]?
 o : ∀ i, W.cell? ⟨O, i, none⟩ = oz[i]?
 fr : ∀ i, W.frozen? ⟨R, i, none⟩ = false
 fo : ∀ i, W.frozen? ⟨O, i, none⟩ = false
theorem actW_new (w : World) (c : ActV) (T U V : TypeId) : ActW rplZ w (((w.alloc (.cells c.cells.toArray T)).alloc (.cells rplZ U)).alloc (.cells rplZ V)) w.heap.size (w.heap.size + 1) (w.heap.size + 1 + 1) c := by
 have z1 : (w.alloc (.cells c.cells.toArray T)).heap.size = w.heap.size + 1 := by simp
 have z2 : ((w.alloc (.cells c.cells.toArray T)).alloc (.cells rplZ U)).heap.size = w.heap.size + 1 + 1 := by simp
 have b1 : Below w.heap.size w (w.alloc (.cells c.cells.toArray T)) := (zad _ _).alloc (zab _) _
 have b2 := (zad (w.alloc (.cells c.cells.toArray T)).heap.size (w.alloc (.cells c.cells.toArray T))).alloc (zab _) (.cells rplZ U)
 have b3 := (zad ((w.alloc (.cells c.cells.toArray T)).alloc (.cells rplZ U)).heap.size ((w.alloc (.cells c.cells.toArray T)).alloc (.cells rplZ U))).alloc (zab _) (.cells rplZ V)
 refine ⟨(b1.trans (b2.mono (by omega))).trans (b3.mono (by omega)), ⟨zab _, by omega, by omega, by rw [zbp, z2]; omega⟩, fun i => ?_, fun i => ?_, fun i => ?_, fun i => ?_, fun i => ?_⟩
 · rw [b3.cell (p := ⟨w.heap.size, i, none⟩) (by show w.heap.size < _; omega), b2.cell (p := ⟨w.heap.size, i, none⟩) (by show w.heap.size < _; omega)]; exact zae _ _ _ _ rfl
 · rw [b3.cell (p := ⟨w.heap.size + 1, i, none⟩) (by show w.heap.size + 1 < _; omega)]; exact zae _ _ _ _ z1.symm
 · exact zae _ _ _ _ z2.symm
 · rw [b3.frozen (p := ⟨w.heap.size + 1, i, none⟩) (by show w.heap.size + 1 < _; omega)]; exact zaD _ _ _ _ z1.symm
 · exact zaD _ _ _ _ z2.symm
theorem ActW.grown {oz : Array Value} {w W W' : World} {A R O N : Nat} {c : ActV} (h : ActW oz w W A R O c) (hg : W.grownBy W' (some N)) (hN : N < w.heap.size) :
  (∀ i, W'.cell? ⟨A, i, none⟩ = c.cells.toArray[i]?) /\ (∀ i, W'.cell? ⟨R, i, none⟩ = rplZ[i]?) /\ (∀ i, W'.cell? ⟨O, i, none⟩ = oz[i]?) /\ (∀ i, W'.frozen? ⟨R, i, none⟩ = false) /\ (∀ i, W'.frozen? ⟨O, i, none⟩ = false) := by
 obtain ⟨s1, s2, s3, s4⟩ := h.sz
 have kA := hg.block A (by omega) (fun e => by injection e with e; omega)
 have kR := hg.block R (by omega) (fun e => by injection e with e; omega)
 have kO := hg.block O s4 (fun e => by injection e with e; omega)
 exact ⟨fun i => (zav kA).trans (h.a i), fun i => (zav kR).trans (h.r i), fun i => (zav kO).trans (h.o i), fun i => (zaO kR).trans (h.fr i), fun i => (zaO kO).trans (h.fo i)⟩
theorem act_fin {oz : Array Value} {N : Nat} {r : Net × Rpl} {w W W1 W2 : World} {A R O : Nat} {X Y : Nat -> Prop} {c : ActV} (h : ActW oz w W A R O c) (hX : ∀ k, X k -> Y k) (hYR : Y R) (hYO : Y O) (hn : NetM Y W1 N r.1) (hg : W.grownBy W1 (some N)) (hN : N < w.heap.size)
  (hs : W1.heap.size <= W2.heap.size) (ho : W2.os = W1.os) (ht : W2.tape = W1.tape) (hu : W2.output = W1.output) (hk : ∀ k, k < W1.heap.size -> k ≠ R -> k ≠ O -> W2.heap[k]? = W1.heap[k]?) {vp vk : Value} (hp : SlF intR W.heap.size W1 vp r.2.path) (hq : SlF strR W.heap.size W1 vk r.2.keys) {code cost : Int} (hc : code = r.2.code) (hd : cost = r.2.cost) :
  ActN X N r w (.returned (.agg #[.int .i64 code, vp, .int .i64 cost, vk])) W2 := by
 obtain ⟨s1, s2, s3, s4⟩ := h.sz
 have hz := hg.size
 have hws := h.b.size
 subst hc hd
 refine ⟨vp, vk, rfl, ?_, ?_, ?_, ?_⟩
 · exact SlR.keep hp (fun k hk' => hk k hk'.1 (by have := hk'.2; omega) (by have := hk'.2; omega)) (fun k hk' => ⟨zan hk'.1 hs, zaz hws hk'.2⟩)
 · exact SlR.keep hq (fun k hk' => hk k hk'.1 (by have := hk'.2; omega) (by have := hk'.2; omega)) (fun k hk' => ⟨zan hk'.1 hs, zaz hws hk'.2⟩)
 · exact hn.keepB (fun k _ hz' => ⟨hz'.1, fun e => hz'.2 (hX k e)⟩) (hk N (by omega) (by omega) (by omega)) (fun k hk' hz' => hk k hk' (fun e => hz'.2 (e ▸ hYR)) (fun e => hz'.2 (e ▸ hYO))) hs (fun k hk' e => hn.top k (zaz hs hk') (hX k e))
 · refine ⟨by rw [ho, hg.os, h.b.os], by rw [ht, hg.tape, h.b.tape], by rw [hu, hg.output, h.b.output], by omega, fun k hk' hne => ?_⟩
   rw [hk k (by omega) (by omega) (by omega), hg.block k (by omega) hne, h.b.block k hk']
theorem ActW.set2 {w W : World} {A R O : Nat} {c : ActV} (h : ActW rplZ w W A R O c) : ActW #[.int .i64 2, .slice none 0 0, .int .i64 0, .slice none 0 0] w (W.setCell ⟨O, 0, none⟩ (.int .i64 2)) A R O c := by
 obtain ⟨s1, s2, s3, s4⟩ := h.sz
 have hne : ∀ {B i : Nat}, B ≠ O -> (W.setCell ⟨O, 0, none⟩ (.int .i64 2)).cell? ⟨B, i, none⟩ = W.cell? ⟨B, i, none⟩ := fun hB => zag _ _ _ _ (by intro e; injection e with e _ _; exact hB e.symm)
 refine ⟨h.b.setCell (by show w.heap.size <= O; omega) _, ⟨s1, s2, s3, by simpa [World.setCell] using s4⟩, fun i => (hne (by omega)).trans (h.a i), fun i => (hne (by omega)).trans (h.r i), fun i => ?_, fun i => ?_, fun i => ?_⟩
 · by_cases e : i = 0
   · subst e
     exact zay _ _ _ (by rw [h.o 0]; rfl)
   · rw [zag _ _ _ _ (by intro e2; injection e2 with _ e3 _; omega), h.o i]
     obtain ⟨j, rfl⟩ : ∃ j, i = j + 1 := ⟨i - 1, by omega⟩
     rfl
 · rw [zau]; exact h.fr i
 · rw [zau]; exact h.fo i
theorem actW_ex (w : World) (kd a b n m ad bt : Int) (key value : ByteArray) : ∃ W3 A R O, A = w.heap.size /\ R = w.heap.size + 1 /\ O = w.heap.size + 1 + 1 /\
 (((w.alloc (.cells #[.int .i64 kd, .int .i64 a, .int .i64 b, .int .i64 n, .int .i64 m, .int .i64 ad, .int .i64 bt, .string key, .string value] 34)).alloc (.cells #[.int .i64 0, .slice none 0 0, .int .i64 0, .slice none 0 0] 57)).alloc (.cells #[.int .i64 0, .slice none 0 0, .int .i64 0, .slice none 0 0] 57)) = W3 /\
 ActW rplZ w W3 A R O ⟨kd, a, b, n, m, ⟨ad, bt⟩, key, value⟩ := ⟨_, _, _, _, rfl, rfl, rfl, rfl, actW_new w ⟨kd, a, b, n, m, ⟨ad, bt⟩, key, value⟩ 34 57 57⟩
theorem act_low {X : Nat -> Prop} {N : Nat} {x : Net} {w w' : World} {r : Net × Rpl} {n : Int} (h : NetM X w N x) (hr : r = (x, ⟨n, [], 0, []⟩)) (hb : Below w.heap.size w w') : ActN X N r w (.returned (.agg #[.int .i64 n, .slice none 0 0, .int .i64 0, .slice none 0 0])) w' :=
 ⟨.slice none 0 0, .slice none 0 0, by rw [hr], by rw [hr]; exact SlF.nil _ _ _, by rw [hr]; exact SlF.nil _ _ _, by rw [hr]; exact h.below hb, below_grownN N hb⟩
theorem below3 (w : World) (a b c : Obj) : Below w.heap.size w (((w.alloc a).alloc b).alloc c) := (((zad w.heap.size w).alloc (zab _) a).alloc (by simp) b).alloc (by simp; omega) c
end
section
open Go.RowKit Go.ChangeShapes Go.WideShapes Go.ChangeAt
theorem opens_raw : Opens Tryz.prog rawR 77 :=
 ⟨by kernel_rfl, fun H enc W fuel cs x h => by
  obtain ⟨hlen, hf⟩ := trod_fields Tryz.underlying77 h
  obtain ⟨a0, h0⟩ := hf _ intR 0 _ rfl (opens_int Tryz.underlying3 (by kernel_rfl))
  obtain ⟨a1, h1⟩ := hf _ intR 1 _ rfl (opens_int Tryz.underlying3 (by kernel_rfl))
  obtain ⟨a2, h2⟩ := hf _ intR 2 _ rfl (opens_int Tryz.underlying3 (by kernel_rfl))
  obtain ⟨a3, h3⟩ := hf _ intR 3 _ rfl (opens_int Tryz.underlying3 (by kernel_rfl))
  have hl : cs.length = 4 := by rw [hlen]; kernel_rfl
  match cs, hl with
  | [c0, c1, c2, c3], _ =>
    obtain ⟨e0, w0⟩ := h0
    obtain ⟨e1, w1⟩ := h1
    obtain ⟨e2, w2⟩ := h2
    obtain ⟨e3, w3⟩ := h3
    simp [intR, flatR] at e0 e1 e2 e3
    subst e0 e1 e2 e3
    exact ⟨⟨a0, a1, a2, a3⟩, rfl, w0, w1, w2, w3⟩⟩
theorem opens_raws : Opens Tryz.prog (slR rawR) 22 := opens_slice Tryz.underlying22 (by kernel_rfl) (by decide) opens_raw
end
end Go.Proofs.YtojojpjldkpmoaaGreatDoor
