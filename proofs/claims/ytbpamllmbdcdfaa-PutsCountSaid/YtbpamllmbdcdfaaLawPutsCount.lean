/-
  Proved here: the law PutsCount returns true for every list of raw things, every raw thing and every node, with no condition.
-/
import Derived.Test.YtbpamllmbdcdfaaKeU
import Derived.Test.YtbpamllmbdcdfaaKeV
import Derived.Test.YtbpamllmbdcdfaaKeO
import Derived.Laws.EntriesVeiled
namespace Go.Proofs.Ytbpamllmbdcdfaa
open Go.RowKit Go.ChangeShapes Go.WideShapes Go.ChangeAt Go.Deep

def Raw.val (r : Raw) : Value := .agg #[.int .i64 r.kind, .int .i64 r.a, .int .i64 r.b, .int .i64 r.c]
def Raw.wf (r : Raw) : Prop := inR r.kind ∧ inR r.a ∧ inR r.b ∧ inR r.c
set_option maxRecDepth 100000 in
theorem open_raw {H : Type} {enc : TypeId × Value → H} {W : World} {b : Nat} {q : Reach} {v : Value} {d : DataW H} {p : List MemPlace}
    (hv : Value.okWide Try.prog W q b 80 v) (hr : DataW.Trod enc Try.prog W 0 (fun _ => true) true 80 v d p) : ∃ x : Raw, v = x.val ∧ x.wf := by
  obtain ⟨cs, rfl, hsz⟩ := okWide_struct Try.underlying80 hv
  obtain ⟨fuel, hf⟩ := hr
  obtain ⟨x, hx, hw⟩ := opens_raw.2 H enc W fuel _ _ hf
  refine ⟨x, ?_, hw⟩
  obtain ⟨l⟩ := cs
  have hx' : l = [.int .i64 x.kind, .int .i64 x.a, .int .i64 x.b, .int .i64 x.c] := by simpa [Value.cells] using hx
  rw [hx']; rfl
theorem setCell_id (w : World) (g o : Nat) (v : Value) (h : w.cell? ⟨g, o, none⟩ = some v) : w.setCell ⟨g, o, none⟩ v = w := by
  have hh : (w.setCell ⟨g, o, none⟩ v).heap = w.heap := by
    unfold World.setCell
    apply Array.ext
    · simp
    · intro i h1 h2
      simp only [Array.getElem_modify]
      split
      · rename_i e
        subst e
        unfold World.cell? at h
        simp only [Array.getElem?_eq_getElem h2] at h
        rcases hc : w.heap[g] with ⟨c, el, fr⟩ | _ | _ <;> rw [hc] at h <;> simp at h ⊢
        apply Array.ext
        · simp
        · intro t h3 h4
          rw [Array.getElem_setIfInBounds]
          split
          · rename_i e
            subst e
            rw [Array.getElem?_eq_getElem h4] at h
            injection h with h
            exact h.symm
          · rfl
      · rfl
  have h2 : w.setCell ⟨g, o, none⟩ v = { w with heap := (w.setCell ⟨g, o, none⟩ v).heap } := rfl
  rw [h2, hh]

theorem was_bounds {s : List Entry} (h : OkS s) (hf : few s) (k : ByteArray) : 0 ≤ (getS s k).1.version ∧ (getS s k).1.version ≤ 4 := by
  unfold getS
  rw [if_pos h.check]
  rcases hfe : findE s k with _ | o
  · exact ⟨by decide, by decide⟩
  · have hm := (findE_key hfe).2
    have := hf o hm
    obtain ⟨_, _, c3, _⟩ := entryOk_bounds (h.ok o hm)
    simp only
    exact ⟨by omega, this⟩

set_option maxRecDepth 100000 in
set_option maxHeartbeats 4000000 in
theorem putsCount_walk (v : Value) (xs : List Raw) (r : Raw) (node : Int) (w : World) (h : Sl rawR w v xs) (hr : r.wf) (hn : inR node) :
    Calls Try.prog 20 #[v, r.val, .int .i64 node] w fun e w' => e = .returned (.bool true) ∧ Below w.heap.size w w' := by
  have hal : Below w.heap.size w (w.alloc (.cells #[.int .i64 r.kind, .int .i64 r.a, .int .i64 r.b, .int .i64 r.c] 80)) := (Below.refl _ _).alloc (Nat.le_refl _) _
  have HS1 := Go.Lib.hid (store_any v xs 20 _ (h.below hal) (by omega))
  have H := Go.Lib.hid h
  clear h hal
  unfold Raw.val
  go_enter Try.func20, Try.ntmps20
  go_wp2_with fail
  refine HS1.out.mono ?_
  rintro e w1 ⟨v1, rfl, hs1, hb1⟩
  obtain ⟨hA1, hN1, _, hS1⟩ := pastAlloc hb1
  have HB1 := Go.Lib.hid hA1
  have hok := stoS_ok (xs.take 20)
  have hfew := stoS_few (xs.take 20)
  have hlen := stoS_take_len xs 20
  obtain ⟨s, hs⟩ : ∃ s, stoS (xs.take 20) = s := ⟨_, rfl⟩
  rw [hs] at hs1 hok hfew hlen
  have HX1 := Go.Lib.hid hs1
  have HEN := Go.Lib.hid (entryE_any r w1 hr.1 hr.2.1 hr.2.2.1 hr.2.2.2)
  clear hs hs1 hb1 hA1
  go_wp2_with fail
  refine HEN.out.mono ?_
  rintro e w2 ⟨rfl, hb2⟩
  have HB2 := Go.Lib.hid (HB1.out.trans (hb2.mono HB1.out.size))
  have HX2 := Go.Lib.hid (HX1.out.below hb2)
  have hew := rawE_wf r
  have heo := rawE_ok r
  obtain ⟨e, hee⟩ : ∃ e, rawE r = e := ⟨_, rfl⟩
  rw [hee] at hew heo ⊢
  have hpl := pickN_lt node 12 (by omega)
  have HPK := fun w' => Go.Lib.hid (picked_any node 12 w' hn (by omega) (by omega))
  obtain ⟨n, hnn⟩ : ∃ n, pickN node 12 = n := ⟨_, rfl⟩
  rw [hnn] at hpl HPK
  obtain ⟨g1, g2, g3, g4⟩ := put_get hok hfew (by omega) e heo (n : Int) (by omega) (by omega)
  have hgp := get_put hok (putN s n e) g3
  have hfp := filter_put hok (putN s n e) g3
  have hmp := merge_put hok (by omega) (putN s n e) g3 g4
  have hnk : (putN s n e).key = e.key := rfl
  rw [hnk] at hgp hfp
  have hal2 : Below w2.heap.size w2 (w2.alloc (.cells #[.string e.key, .int .i64 e.version, .int .i64 e.origin, .string e.value] 39)) := (Below.refl _ _).alloc (Nat.le_refl _) _
  have hnr : inR (n : Int) := by unfold inR; omega
  have hpu := put_any v1 s (n : Int) e.key e.value _ (HX2.out.below hal2) hnr hew.1 hew.2.2.2
  unfold PutPost at hpu
  rw [g1] at hpu
  have HPU := Go.Lib.hid hpu
  have HGP := Go.Lib.hid hgp
  have HFP := Go.Lib.hid hfp
  have HMP := Go.Lib.hid hmp
  have HG2 := Go.Lib.hid g2
  have HNK := Go.Lib.hid (show putN s n e = ⟨e.key, (getS s e.key).1.version + 1, n, e.value⟩ from rfl)
  clear hb2 hN1 hal2 hpu g1 g3 g4 hgp hfp hmp hnk heo hee hnn
  unfold Entry.val
  go_wp2_with fail
  refine (HPK _).out.mono ?_
  rintro e' w3 ⟨rfl, rfl⟩
  have hv := was_bounds hok hfew e.key
  have HLY := Go.Lib.hid (withE_len_le hok.ord (putN s n e))
  obtain ⟨G, hG⟩ : ∃ G, getS s e.key = G := ⟨_, rfl⟩
  have hz : G.2 = 0 ∨ ((G.2 != 0) = true ∧ G.1 = zeroE) := by
    rw [← hG]; unfold getS; rw [if_pos hok.check]
    rcases findE s e.key with _ | o
    · exact .inr ⟨rfl, rfl⟩
    · exact .inl rfl
  obtain ⟨was, g⟩ := G
  have HPN := HNK.out
  rw [hG] at HPN hv
  rw [HPN] at HLY HPU HGP HFP HMP
  simp only at hv hz HGP
  obtain ⟨y, hy⟩ : ∃ y, withE s ⟨e.key, was.version + 1, n, e.value⟩ = y := ⟨_, rfl⟩
  simp only at HLY HPU HFP HMP
  rw [hy] at HLY HPU HGP HFP HMP
  have HG := Go.Lib.hid hG
  obtain ⟨vl, vh⟩ := hv
  have vw : IntKind.i64.wrap (was.version + 1) = was.version + 1 := by rw [IntKind.wrap_i64]; omega
  clear hG hy HPN HNK HG2 g2 hfew HPK
  go_wp2_with fail
  refine HPU.out.mono ?_
  rintro e' w4 ⟨v4, rfl, ho4, hb4⟩
  simp only at ho4 ⊢
  obtain ⟨hA4, hN4, _, hS4⟩ := pastAlloc hb4
  have HB4 := Go.Lib.hid (HB2.out.trans (hA4.mono HB2.out.size))
  have HX4 := Go.Lib.hid (HX2.out.below hA4)
  have HY4 := Go.Lib.hid (ho4.sl (by decide))
  have HGX := Go.Lib.hid (get_any v1 s e.key w4 HX4.out)
  rw [HG.out] at HGX
  clear ho4 hb4 hA4
  go_wp2_with fail
  refine HGX.out.mono ?_
  rintro e' w5 ⟨rfl, hb5⟩
  have hN5 : ∀ i, w5.cell? ⟨w2.heap.size, i, none⟩ = #[Value.string e.key, .int .i64 e.version, .int .i64 e.origin, .string e.value][i]? := fun i => (bAt hb5 hS4 i).trans (hN4 i)
  have hS5 : w2.heap.size < w5.heap.size := Nat.lt_of_lt_of_le hS4 hb5.size
  have HB5 := Go.Lib.hid (HB4.out.trans (hb5.mono HB4.out.size))
  have hal5 : Below w5.heap.size w5 (w5.alloc (.cells #[.string was.key, .int .i64 was.version, .int .i64 was.origin, .string was.value] 39)) := (Below.refl _ _).alloc (Nat.le_refl _) _
  have HX5 := Go.Lib.hid (HX4.out.below hb5)
  have HY5 := Go.Lib.hid (HY4.out.below hb5)
  have HGY := Go.Lib.hid (get_any v4 y e.key _ (HY5.out.below hal5))
  rw [HGP.out] at HGY
  have h60 : (w5.alloc (.cells #[.string was.key, .int .i64 was.version, .int .i64 was.origin, .string was.value] 39)).cell? ⟨w2.heap.size, 0, none⟩ = some (.string e.key) := (bAt hal5 hS5 0).trans (hN5 0)
  unfold Entry.val at HGY ⊢
  simp only at HGY ⊢
  clear hN4 hb5 hal5 hS4
  go_wp2_with fail
  refine HGY.out.mono ?_
  rintro e' w7 ⟨rfl, hb7⟩
  obtain ⟨hA7, hM7, hF7, hS7⟩ := pastAlloc hb7
  have HB7 := Go.Lib.hid (HB5.out.trans (hA7.mono HB5.out.size))
  have HX7 := Go.Lib.hid (HX5.out.below hA7)
  have HY7 := Go.Lib.hid (HY5.out.below hA7)
  have hN7 : ∀ i, w7.cell? ⟨w2.heap.size, i, none⟩ = #[Value.string e.key, .int .i64 e.version, .int .i64 e.origin, .string e.value][i]? := fun i => (bAt hA7 hS5 i).trans (hN5 i)
  have hS27 : w2.heap.size < w7.heap.size := by omega
  obtain ⟨o8, ho8⟩ : ∃ o, (Obj.cells #[.string e.key, .int .i64 (was.version + 1), .int .i64 (n : Int), .string e.value] 39) = o := ⟨_, rfl⟩
  obtain ⟨o9, ho9⟩ : ∃ o, (Obj.cells #[.func (.func 60) #[] #[.pointer (some ⟨w2.heap.size, 0, none⟩)]] 83) = o := ⟨_, rfl⟩
  have hb78 : Below w7.heap.size w7 (w7.alloc o8) := (Below.refl _ _).alloc (Nat.le_refl _) _
  have hb79 : Below w7.heap.size w7 ((w7.alloc o8).alloc o9) := hb78.alloc (by simp) _
  have k80 := (bAt hb79 hS27 0).trans (hN7 0)
  have k83 := (bAt hb79 hS27 3).trans (hN7 3)
  have k12 := (bAt hb79 hS7 1).trans (hM7 1)
  have k14 : ∀ i, ((w7.alloc o8).alloc o9).cell? ⟨w7.heap.size, i, none⟩ = #[Value.string e.key, .int .i64 (was.version + 1), .int .i64 (n : Int), .string e.value][i]? := by
    intro i
    rw [bAt (((Below.refl (w7.alloc o8).heap.size (w7.alloc o8)).alloc (Nat.le_refl _) o9)) (by simp) i]
    rw [← ho8]
    exact World.cell?_alloc_at _ _ _ _ rfl
  have k16 : ((w7.alloc o8).alloc o9).cell? ⟨w7.heap.size + 1, 0, none⟩ = some (.func (.func 60) #[] #[.pointer (some ⟨w2.heap.size, 0, none⟩)]) := by
    rw [← ho9, World.cell?_alloc_at (w := w7.alloc o8) (hn := by simp)]
    rfl
  have hcp : Caps ((w7.alloc o8).alloc o9) w2.heap.size (w7.heap.size + 1) e.key := ⟨by simp; omega, by simp, k80, k16⟩
  have s0 := (bAt hb78 hS7 0).trans (hM7 0)
  have s1 := (bAt hb78 hS7 1).trans (hM7 1)
  have s2 := (bAt hb78 hS7 2).trans (hM7 2)
  have s3 := (bAt hb78 hS7 3).trans (hM7 3)
  have s4 : ∀ i, (w7.alloc o8).frozen? ⟨w5.heap.size, i, none⟩ = false := fun i => (bFz hb78 hS7 i).trans (hF7 i)
  simp at s0 s1 s2 s3 k80 k83 k12
  subst ho8
  subst ho9
  have HB9 := Go.Lib.hid (HB7.out.trans (hb79.mono HB7.out.size))
  have HX9 := Go.Lib.hid (HX7.out.below hb79)
  have HY9 := Go.Lib.hid (HY7.out.below hb79)
  have HCP := Go.Lib.hid hcp
  have HCX := Go.Lib.hid (cloneE_any v1 s _ HX9.out (by omega))
  have q1 := fun w' => eql_ent ⟨e.key, was.version + 1, n, e.value⟩ ⟨e.key, was.version + 1, n, e.value⟩ w'
  rw [sameE_refl] at q1
  simp only at q1
  have q2 := fun a b => guard_ent .eql a b
  clear hN5 hb7 hA7 hM7 hN7 hb78 hb79 hcp h60
  rcases hz with rfl | ⟨hz1, hz2⟩
  · clear s0 s1 s2 s3 s4
    go_wp2_with fail
    refine HCX.out.mono ?_
    rintro e' w10 ⟨v10, rfl, ho10, hb10⟩
    have HB10 := Go.Lib.hid (HB9.out.trans (hb10.mono HB9.out.size))
    have HX10 := Go.Lib.hid (HX9.out.below hb10)
    have HY10 := Go.Lib.hid (HY9.out.below hb10)
    have HD := Go.Lib.hid (delE2_any _ _ v10 s _ _ w10 ho10 (Nat.le_refl _) ((askE2 _ _ e.key _ _ HCP.out HCP.out.lt8 HCP.out.lt16).below hb10))
    have HB9' := Go.Lib.hid (hb10)
    clear ho10 hb10
    go_wp2_with fail
    refine HD.out.mono ?_
    rintro e' w11 ⟨v11, rfl, hs11, hb11⟩
    have HB11' := Go.Lib.hid (HB9'.out.trans hb11)
    have HB11 := Go.Lib.hid (HB9.out.trans (HB11'.out.mono HB9.out.size))
    have HX11 := Go.Lib.hid (HX9.out.below HB11'.out)
    have HY11 := Go.Lib.hid (HY9.out.below HB11'.out)
    have HF11 := Go.Lib.hid hs11
    have HCY := Go.Lib.hid (cloneE_any v4 _ w11 HY11.out (by have := HLY.out; omega))
    clear hs11 hb11
    go_wp2_with fail
    refine HCY.out.mono ?_
    rintro e' w12 ⟨v12, rfl, ho12, hb12⟩
    have HB12' := Go.Lib.hid (HB11'.out.trans (hb12.mono HB11'.out.size))
    have HF12 := Go.Lib.hid (HF11.out.below hb12)
    have HD3 := Go.Lib.hid (delE3_any _ _ v12 _ _ _ w12 ho12 HB11'.out.size ((askE3 _ _ e.key _ _ HCP.out HCP.out.lt8 HCP.out.lt16).below HB12'.out))
    clear ho12
    go_wp2_with fail
    refine HD3.out.mono ?_
    rintro e' w13 ⟨v13, rfl, hs13, hb13⟩
    have hb113 := hb12.trans hb13
    have HB13' := Go.Lib.hid (HB11'.out.trans (hb113.mono HB11'.out.size))
    have HB13 := Go.Lib.hid (HB9.out.trans (HB13'.out.mono HB9.out.size))
    have HX13 := Go.Lib.hid (HX9.out.below HB13'.out)
    have HY13 := Go.Lib.hid (HY9.out.below HB13'.out)
    rw [HFP.out] at hs13
    have HE1 := Go.Lib.hid (equalE_eq v11 v13 _ w13 (HF11.out.below hb113) hs13)
    clear hs13 hb13 hb12 hb113
    go_wp2_with fail
    refine HE1.out.mono ?_
    rintro e' w14 ⟨rfl, hb14⟩
    have HB14 := Go.Lib.hid (HB13.out.trans (hb14.mono HB13.out.size))
    have HX14 := Go.Lib.hid (HX13.out.below hb14)
    have HY14 := Go.Lib.hid (HY13.out.below hb14)
    have HMG := Go.Lib.hid (merged_any v1 v4 s _ w14 HX14.out HY14.out)
    rw [HMP.out] at HMG
    clear hb14
    go_wp2_with fail
    refine HMG.out.mono ?_
    rintro e' w15 ⟨v15, rfl, hs15, hb15⟩
    have HB15 := Go.Lib.hid (HB14.out.trans (hb15.mono HB14.out.size))
    have HE2 := Go.Lib.hid (equalE_eq v15 v4 _ w15 hs15 (HY14.out.below hb15))
    clear hs15 hb15
    go_wp2_with fail
    refine HE2.out.mono ?_
    rintro e' w16 ⟨rfl, hb16⟩
    have HB16 := Go.Lib.hid (HB15.out.trans (hb16.mono HB15.out.size))
    clear hb16
    go_wp2_with fail
    go_ret
    exact ⟨rfl, HB16.out⟩
  · have w0 : was.key = ⟨#[]⟩ := by rw [hz2]; rfl
    have w1' : was.version = 0 := by rw [hz2]; rfl
    have w2' : was.origin = 0 := by rw [hz2]; rfl
    have w3' : was.value = ⟨#[]⟩ := by rw [hz2]; rfl
    have t0 := setCell_id _ _ _ (.string ⟨#[]⟩) (s0.trans (by rw [w0]))
    have t1 := setCell_id _ _ _ (.int .i64 0) (s1.trans (by rw [w1']))
    have t2 := setCell_id _ _ _ (.int .i64 0) (s2.trans (by rw [w2']))
    have t3 := setCell_id _ _ _ (.string ⟨#[]⟩) (s3.trans (by rw [w3']))
    clear hz2 w0 w1' w2' w3'
    go_wp2_with fail
    refine HCX.out.mono ?_
    rintro e' w10 ⟨v10, rfl, ho10, hb10⟩
    have HB10 := Go.Lib.hid (HB9.out.trans (hb10.mono HB9.out.size))
    have HX10 := Go.Lib.hid (HX9.out.below hb10)
    have HY10 := Go.Lib.hid (HY9.out.below hb10)
    have HD := Go.Lib.hid (delE2_any _ _ v10 s _ _ w10 ho10 (Nat.le_refl _) ((askE2 _ _ e.key _ _ HCP.out HCP.out.lt8 HCP.out.lt16).below hb10))
    have HB9' := Go.Lib.hid (hb10)
    clear ho10 hb10
    go_wp2_with fail
    refine HD.out.mono ?_
    rintro e' w11 ⟨v11, rfl, hs11, hb11⟩
    have HB11' := Go.Lib.hid (HB9'.out.trans hb11)
    have HB11 := Go.Lib.hid (HB9.out.trans (HB11'.out.mono HB9.out.size))
    have HX11 := Go.Lib.hid (HX9.out.below HB11'.out)
    have HY11 := Go.Lib.hid (HY9.out.below HB11'.out)
    have HF11 := Go.Lib.hid hs11
    have HCY := Go.Lib.hid (cloneE_any v4 _ w11 HY11.out (by have := HLY.out; omega))
    clear hs11 hb11
    go_wp2_with fail
    refine HCY.out.mono ?_
    rintro e' w12 ⟨v12, rfl, ho12, hb12⟩
    have HB12' := Go.Lib.hid (HB11'.out.trans (hb12.mono HB11'.out.size))
    have HF12 := Go.Lib.hid (HF11.out.below hb12)
    have HD3 := Go.Lib.hid (delE3_any _ _ v12 _ _ _ w12 ho12 HB11'.out.size ((askE3 _ _ e.key _ _ HCP.out HCP.out.lt8 HCP.out.lt16).below HB12'.out))
    clear ho12
    go_wp2_with fail
    refine HD3.out.mono ?_
    rintro e' w13 ⟨v13, rfl, hs13, hb13⟩
    have hb113 := hb12.trans hb13
    have HB13' := Go.Lib.hid (HB11'.out.trans (hb113.mono HB11'.out.size))
    have HB13 := Go.Lib.hid (HB9.out.trans (HB13'.out.mono HB9.out.size))
    have HX13 := Go.Lib.hid (HX9.out.below HB13'.out)
    have HY13 := Go.Lib.hid (HY9.out.below HB13'.out)
    rw [HFP.out] at hs13
    have HE1 := Go.Lib.hid (equalE_eq v11 v13 _ w13 (HF11.out.below hb113) hs13)
    clear hs13 hb13 hb12 hb113
    go_wp2_with fail
    refine HE1.out.mono ?_
    rintro e' w14 ⟨rfl, hb14⟩
    have HB14 := Go.Lib.hid (HB13.out.trans (hb14.mono HB13.out.size))
    have HX14 := Go.Lib.hid (HX13.out.below hb14)
    have HY14 := Go.Lib.hid (HY13.out.below hb14)
    have HMG := Go.Lib.hid (merged_any v1 v4 s _ w14 HX14.out HY14.out)
    rw [HMP.out] at HMG
    clear hb14
    go_wp2_with fail
    refine HMG.out.mono ?_
    rintro e' w15 ⟨v15, rfl, hs15, hb15⟩
    have HB15 := Go.Lib.hid (HB14.out.trans (hb15.mono HB14.out.size))
    have HE2 := Go.Lib.hid (equalE_eq v15 v4 _ w15 hs15 (HY14.out.below hb15))
    clear hs15 hb15
    go_wp2_with fail
    refine HE2.out.mono ?_
    rintro e' w16 ⟨rfl, hb16⟩
    have HB16 := Go.Lib.hid (HB15.out.trans (hb16.mono HB15.out.size))
    clear hb16
    go_wp2_with fail
    go_ret
    exact ⟨rfl, HB16.out⟩

set_option maxRecDepth 100000 in
theorem putsCount_lifted (os : Os) (started : os.Started) (H : Type) (enc : TypeId × Value → H) :
    ReturnsInHanded {} Try.checked os 20 .any (Rows.putsCountSpec.pre6 enc Try.prog Try.f20 Rows.putsCountRow.domain false) (Rows.putsCountSpec.post enc Try.prog Try.f20 false true false false) := by
  refine returnsInHanded_of_change (C := Try.checked) own started (by kernel_rfl) Try.func20
    (ChangeSpec.witness6 (enc := enc) (C := Try.checked) false ⟨#[], #[.slice none 0 0, .agg #[.int .i64 0, .int .i64 0, .int .i64 0, .int .i64 0], .int .i64 0], []⟩ 8 (by kernel_rfl) (by kernel_rfl) (by kernel_rfl) (by kernel_rfl)) ?_
  intro W base args ds gs before hval0 hW _ _
  have hval : ∀ (j : Nat) t v, Try.f20.params[j]? = some t → args[j]? = some v → Value.okWide Try.prog W .any base t v := hval0
  have hW' := hW
  obtain ⟨p, q, hA0, hV, rfl, hfz, _⟩ := hW
  have hA : DataW.TrodAll enc Try.prog W 0 (fun _ => true) true Try.f20.params.toList args.toList ds p := hA0
  rw [Try.params20] at hA hval
  obtain ⟨rfl, rfl⟩ := trodVars_none hV
  obtain ⟨v0, v1, v2, d0, d1, d2, p0, p1, p2, rfl, rfl, rfl, h0, h1, h2⟩ := trodAll_three hA
  obtain ⟨x0, hx0⟩ := open_sl Try.underlying73 opens_raws (hval 0 73 v0 rfl rfl) h0
  obtain ⟨x1, rfl, hx1⟩ := open_raw (hval 1 80 v1 rfl rfl) h1
  obtain ⟨x2, rfl, rfl, rfl, wx2⟩ := open_int Try.underlying3 (hval 2 3 v2 rfl rfl) h2
  have hx2 : inR x2 := inR_of wx2
  refine (putsCount_walk v0 x0 x1 x2 W hx0 hx1 hx2).mono fun e W' ⟨he, hb⟩ => ?_
  subst he
  exact ⟨_, rfl, law_post hW' laidOut (by rw [Try.params20]; intro t ht; simp at ht; rcases ht with rfl | rfl | rfl <;> exact ⟨by kernel_rfl, of_decide_eq_true (by kernel_rfl)⟩) rfl rfl Try.underlying4 rfl rfl rfl hb⟩

theorem putsCount_holds : Rows.PutsCountSaid :=
  OpenClaim.holds_of_wide 20 Try.f20 rfl rfl rfl rfl rfl rfl rfl ⟨rfl, rfl, rfl, rfl, rfl⟩ rfl rfl rfl rfl rfl (by kernel_rfl) Try.func20 (by kernel_rfl)
    (of_decide_eq_true (by kernel_rfl)) (by unfold Func.isWrapper; rw [if_neg (of_decide_eq_false (by kernel_rfl))]; exact ⟨rfl, rfl⟩)
    (fun os started H enc _ => putsCount_lifted os started H enc)
#print axioms putsCount_holds
end Go.Proofs.Ytbpamllmbdcdfaa
