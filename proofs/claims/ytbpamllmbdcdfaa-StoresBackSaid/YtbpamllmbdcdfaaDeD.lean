/-
  Walks of Decode, part D: Decode.
-/
import Derived.Test.YtbpamllmbdcdfaaDeP
import Derived.Test.YtbpamllmbdcdfaaStP
namespace Go.Proofs.Ytbpamllmbdcdfaa
open Go.RowKit Go.Deep

def DecPost (xs : List UInt8) (w : World) (e : Ending) (w' : World) : Prop :=
  ∃ v', e = .returned (.tuple #[v', .int .i64 (decS xs).2]) ∧ OwR entR 39 w.heap.size w' v' (decS xs).1 ∧ Below w.heap.size w w'
theorem dec_fin {xs : List UInt8} {w w' : World} {v' : Value} {ys : List Entry} {n : Int} (h : decS xs = (ys, n)) (ho : OwR entR 39 w.heap.size w' v' ys) (hb : Below w.heap.size w w') :
    DecPost xs w (.returned (.tuple #[v', .int .i64 n])) w' := ⟨v', by rw [h], by rw [h]; exact ho, hb⟩
theorem sum_q (v : Value) (xs : List UInt8) (w : World) (h : Sl byteR w v xs) :
    Calls Try.prog 78 #[v] w fun e w' => e = .returned (.int .i64 (sumN xs)) ∧ w' = w := (sum_any v xs w h).mono fun _ _ h => ⟨h.1, h.2.symm⟩
theorem Sl.byte {w : World} {b off c n : Nat} {xs : List UInt8} (h : Sl byteR w (.slice (some ⟨b, off, none⟩) n c) xs) {k : Nat} (hk : k < xs.length) : w.cell? ⟨b, off + k, none⟩ = some (.int .u8 xs[k].toNat) := by
  obtain ⟨cs, ⟨rfl, hw⟩, hc⟩ := h.cell hk
  have := hc 0 _ rfl
  simpa [byteR, flatR] using this

theorem Sl.cap {α : Type} {r : Rep α} {w : World} {A : Option Addr} {n c : Nat} {xs : List α} (h : Sl r w (.slice A n c) xs) : xs.length ≤ c ∧ c ≤ 9223372036854775807 := by
  obtain ⟨_, _, hv, h1, h2, _⟩ := h
  injection hv with _ _ e
  subst e
  exact ⟨h1, by unfold maxLen at h2; omega⟩

theorem RdAt.keep {w w' : World} {g : Nat} {s : RSt} (h : RdAt w g s) (hk : ∀ k, k ≤ g → w'.heap[k]? = w.heap[k]?) (hz : w.heap.size ≤ w'.heap.size) : RdAt w' g s := by
  obtain ⟨h0, v, h1, h2, h3, h4, h5⟩ := h
  refine ⟨by omega, v, (World.cell?_of_block (hk g (Nat.le_refl _))).trans h1, (World.cell?_of_block (hk g (Nat.le_refl _))).trans h2, fun i => (World.frozen?_of_block (hk g (Nat.le_refl _))).trans (h3 i), ?_, h5⟩
  exact SlR.keep h4 (fun k hk' => hk k (by omega)) (fun k hk' => ⟨by omega, hk'.2⟩)
theorem RdAt.alloc {w : World} {g : Nat} {s : RSt} (h : RdAt w g s) (o : Obj) : RdAt (w.alloc o) g s := h.keep (fun k hk => Below.heap_alloc _ _ _ (by have := h.1; omega)) (by simp)
theorem RdAt.grown {w w' : World} {g : Nat} {s : RSt} {row : Option Nat} (h : RdAt w g s) (hg : w.grownBy w' row) (hr : ∀ k, row = some k → g < k) : RdAt w' g s :=
  h.keep (fun k hk => hg.block k (by have := h.1; omega) (fun e => by have := hr k e.symm; omega)) hg.size
/-- what the loop of Decode keeps -/
structure DecAt (w : World) (g n : Nat) (l : List UInt8) (k : Nat) (done : List Entry) (st : RSt) (wr : World) (v : Value) : Prop where
  many : ManyAt n l k done st
  rd : RdAt wr g st
  out : OwR entR 39 (g + 1) wr v done
  below : Below w.heap.size w wr
theorem DecAt.turn {w : World} {g : Nat} {wr w' : World} {v : Value} {done : List Entry} (hB : Below w.heap.size w wr) (ho : OwR entR 39 (g + 1) wr v done) (hgw : w.heap.size ≤ g) (hg : wr.grownBy w' (some g)) :
    Below w.heap.size w w' ∧ OwR entR 39 (g + 1) w' v done :=
  ⟨hB.grown hg hB.size (fun k e => by injection e with e; omega), ho.kept hg (.inr fun e => by have := (ho.base_le _ e).1; omega)⟩
set_option maxRecDepth 100000 in
set_option maxHeartbeats 4000000 in
theorem decode_any (v : Value) (xs : List UInt8) (w : World) (h : Sl byteR w v xs) : Calls Try.prog 45 #[v] w (DecPost xs w) := by
  have hlen := h.len_le
  obtain ⟨A, c, rfl⟩ := h.form
  have H := Go.Lib.hid h
  clear h
  by_cases hl1 : 20000 < xs.length
  · have HF := Go.Lib.hid (decS_long hl1)
    have hl1' : (20000 : Int) < (xs.length : Int) := by omega
    go_enter Try.func45, Try.ntmps45
    go_wp2_with fail
    go_ret2
    exact dec_fin HF.out (OwR.nil _ _ (Nat.le_refl _)) (Below.refl _ _)
  by_cases hl2 : xs.length < 6
  · have HF := Go.Lib.hid (decS_short hl1 hl2)
    have hl1' : ¬ (20000 : Int) < (xs.length : Int) := by omega
    have hl2' : (xs.length : Int) < 6 := by omega
    go_enter Try.func45, Try.ntmps45
    go_wp2_with fail
    go_ret2
    exact dec_fin HF.out (OwR.nil _ _ (Nat.le_refl _)) (Below.refl _ _)
  obtain ⟨b, off, rfl, hb⟩ := H.out.at_ (show 0 < xs.length by omega)
  have f0 := H.out.byte (show 0 < xs.length by omega)
  rw [Nat.add_zero] at f0
  have hl1' : ¬ (20000 : Int) < (xs.length : Int) := by omega
  have hl2' : ¬ (xs.length : Int) < 6 := by omega
  obtain ⟨y0, hy0⟩ : ∃ y, xs[0]'(by omega) = y := ⟨_, rfl⟩
  rw [hy0] at f0
  have HY0 := Go.Lib.hid hy0
  clear hy0
  by_cases h116 : y0 = 116
  · obtain ⟨k, hk⟩ : ∃ k, xs.length = k + 4 := ⟨xs.length - 4, by omega⟩
    have hk4 : xs.length - 4 = k := by omega
    obtain ⟨hc1, hc2⟩ := H.out.cap
    have d0 := H.out.byte (show k < xs.length by omega)
    have d1 := H.out.byte (show k + 1 < xs.length by omega)
    have d2 := H.out.byte (show k + 2 < xs.length by omega)
    have d3 := H.out.byte (show k + 3 < xs.length by omega)
    have hdrop := drop4 xs (by omega)
    simp only [hk4] at hdrop
    obtain ⟨e0, he0⟩ : ∃ x, xs[k] = x := ⟨_, rfl⟩
    obtain ⟨e1, he1⟩ : ∃ x, xs[k + 1] = x := ⟨_, rfl⟩
    obtain ⟨e2, he2⟩ : ∃ x, xs[k + 2] = x := ⟨_, rfl⟩
    obtain ⟨e3, he3⟩ : ∃ x, xs[k + 3] = x := ⟨_, rfl⟩
    rw [he0] at d0 hdrop
    rw [he1] at d1 hdrop
    rw [he2] at d2 hdrop
    rw [he3] at d3 hdrop
    have HTK := Go.Lib.hid (SlR.take H.out k (by omega))
    have hsn := seal_num (xs.take k) e0 e1 e2 e3
    rw [← hdrop] at hsn
    have HSN := Go.Lib.hid hsn
    have t1 : ((y0.toNat : Int) != 116) = false := by rw [h116]; rfl
    have H116 := Go.Lib.hid h116
    have HK := Go.Lib.hid hk
    have HK4 := Go.Lib.hid hk4
    have HL := Go.Lib.hid (And.intro hl1 hl2)
    clear he0 he1 he2 he3 hsn hdrop h116 hk4
    obtain ⟨tb, t2⟩ : ∃ tb, (sumN (xs.take k) != val4 e0.toNat e1.toNat e2.toNat e3.toNat) = tb := ⟨_, rfl⟩
    have T2 := Go.Lib.hid t2
    clear t2
    obtain ⟨n, hn⟩ : ∃ n, xs.length = n := ⟨_, rfl⟩
    have hn4 : (n : Int) - 4 = (k : Int) := by omega
    have HN4 := Go.Lib.hid hn4
    have k3 : (k : Int) + 3 < (n : Int) := by omega
    have k2 : (2 : Int) ≤ (k : Int) := by omega
    rw [hn] at hl1' hl2' hc1 hlen ⊢
    clear hk hn hn4
    go_enter Try.func45, Try.ntmps45
    go_upto_region 8 with fail

    rw [HN4.out]
    have b0 := e0.toNat_lt
    have b1 := e1.toNat_lt
    have b2 := e2.toNat_lt
    have b3 := e3.toNat_lt
    have t2 := T2.out
    unfold val4 at t2
    go_quiet ((go_at_call 78; exact Calls.quiet_of_same (sum_q _ _ _ HTK.out)))
    rcases tb with _ | _
    · have hs : sealB (xs.take k) = xs.drop k := by
        have := T2.out
        simp only [bne_eq_false_iff_eq] at this
        exact HSN.out.1 this
      have hdb := decS_body HL.out.1 HL.out.2 (HY0.out.trans H116.out) (by rw [HK4.out]; exact hs)
      rw [HK4.out] at hdb
      have HF := Go.Lib.hid hdb
      have hbw := bDrewN (Below.refl w.heap.size w) nq
      obtain ⟨wd, hwd⟩ : ∃ wd, w.drewN nq = wd := ⟨_, rfl⟩
      rw [hwd] at hbw ⊢
      have hzw : wd.heap.size = w.heap.size := by rw [← hwd]; rfl
      have HBW := Go.Lib.hid hbw
      have HZW := Go.Lib.hid hzw
      clear hdb t2 hs hwd hbw hzw d0 d1 d2 d3 b0 b1 b2 b3
      obtain ⟨z, l1, hzl⟩ : ∃ z l1, (xs.take k).drop 1 = z :: l1 := by
        cases hq : (xs.take k).drop 1 with
        | nil =>
          have := congrArg List.length hq
          rw [List.length_drop, List.length_take, List.length_nil] at this
          have := HK.out
          omega
        | cons z l1 => exact ⟨z, l1, rfl⟩
      have hsub := SlR.sub H.out 1 k (by omega) (by have := HK.out; omega)
      have hc1' : ¬ c = 1 := by omega
      rw [if_neg hc1', hzl] at hsub
      have hrd : RdAt (wd.alloc (.cells #[.slice (some ⟨b, off + 1, none⟩) (k - 1) (c - 1), .int .i64 0] 114)) wd.heap.size (z :: l1, 0) := by
        have hba : Below w.heap.size w (wd.alloc (.cells #[.slice (some ⟨b, off + 1, none⟩) (k - 1) (c - 1), .int .i64 0] 114)) := HBW.out.alloc (by rw [HZW.out]; exact Nat.le_refl _) _
        refine ⟨by simp, .slice (some ⟨b, off + 1, none⟩) (k - 1) (c - 1), World.cell?_alloc_at _ _ _ _ rfl, World.cell?_alloc_at _ _ _ _ rfl, fun i => World.frozen?_alloc_at _ _ _ _ rfl, ?_, ?_⟩
        · exact SlR.keep hsub hba.block (fun q hq => by have hz := HZW.out; simp only [World.size_alloc]; omega)
        · have := congrArg List.length hzl
          rw [List.length_drop, List.length_take] at this
          have := HK.out
          have e : (z :: l1, (0 : Int)).1.length = (z :: l1).length := rfl
          omega
      have HZL := Go.Lib.hid hzl
      have HBY := Go.Lib.hid (rbyte_any _ wd.heap.size (z :: l1, 0) hrd)
      have HB1 := Go.Lib.hid (HBW.out.alloc (Nat.le_of_eq HZW.out.symm) (.cells #[.slice (some ⟨b, off + 1, none⟩) (k - 1) (c - 1), .int .i64 0] 114))
      clear hsub hrd hzl
      go_wp2_with fail
      refine HBY.out.mono ?_
      rintro e w1 ⟨a, s1, rfl, hst, ha, hr1, hg1, _⟩
      obtain ⟨rfl, rfl⟩ := (hst.2 rfl).1 _ _ rfl
      have HZW' := Go.Lib.hid HZW.out
      obtain ⟨g, hgd⟩ : ∃ g, wd.heap.size = g := ⟨_, rfl⟩
      rw [hgd] at hr1 hg1 HZW ⊢
      have hB1 := HB1.out.grown hg1 HB1.out.size (fun k e => by injection e with e; have := HZW.out; omega)
      have hgw : g < w1.heap.size := hr1.1
      have HPB := Go.Lib.hid (show pByte ((xs.take k).drop 1) = .ok ((z.toNat : Int), l1) by rw [HZL.out]; rfl)
      obtain ⟨nn, hnn⟩ : ∃ nn, z.toNat = nn := ⟨_, rfl⟩
      have hn255 : nn < 256 := by rw [← hnn]; exact z.toNat_lt
      rw [hnn] at HPB ⊢
      have HD0 := Go.Lib.hid (show DecAt w g nn l1 0 [] (l1, 0) w1 (.slice none 0 0) from ⟨ManyAt.start _ _, hr1, OwR.nil _ _ hgw, hB1⟩)
      have HWG := Go.Lib.hid (show w.heap.size ≤ g by rw [← hgd]; exact Nat.le_of_eq HZW'.out.symm)
      clear hst ha hr1 hg1 hB1 hgd hnn HBY hgw
      go_wp2_with fail
      go_loopw [6, 7] (fun s6 s7 wr => ∃ (j : Nat) (done : List Entry) (st : RSt), j ≤ nn ∧ s7 = .int .i64 j ∧ DecAt w g nn l1 j done st wr s6) (fun _ s7 _ => nn - (intOf s7).toNat)
      case atStart => exact ⟨0, [], (l1, 0), Nat.zero_le _, rfl, HD0.out⟩
      case round =>
        obtain ⟨j, done, st, hj, rfl, hd⟩ := hrel
        have HD := Go.Lib.hid hd
        have hgl := hd.rd.1
        obtain ⟨A2, c2, _, f0', f1', f2', _, hl', _, _⟩ := hd.rd.open
        clear hd
        by_cases hgo : j < nn ∧ st.2 = 0
        · obtain ⟨hlt, he⟩ := hgo
          have HE := Go.Lib.hid he
          rw [he] at f1'
          clear he
          go_wp2_with fail
          refine (rtext_any wr g st HD.out.rd).mono ?_
          rintro e w2 ⟨a2, s2, rfl, hst2, ha2, hr2, hg2, _⟩
          have HP2 := Go.Lib.hid (DecAt.turn HD.out.below HD.out.out HWG.out hg2)
          have HST2 := Go.Lib.hid hst2
          have HRN := Go.Lib.hid (rnum_any w2 g s2 hr2)
          clear f0' f1' f2' hst2 hr2 hg2 hgl
          go_wp2_with fail
          refine HRN.out.mono ?_
          rintro e w3 ⟨a3, s3, rfl, hst3, ha3, hr3, hg3, _⟩
          have HP3 := Go.Lib.hid (DecAt.turn HP2.out.1 HP2.out.2 HWG.out hg3)
          have HST3 := Go.Lib.hid hst3
          have HRB := Go.Lib.hid (rbyte_any w3 g s3 hr3)
          clear hst3 hr3 hg3
          go_wp2_with fail
          refine HRB.out.mono ?_
          rintro e w4 ⟨a4, s4, rfl, hst4, ha4, hr4, hg4, _⟩
          have HP4 := Go.Lib.hid (DecAt.turn HP3.out.1 HP3.out.2 HWG.out hg4)
          have HST4 := Go.Lib.hid hst4
          have HRT := Go.Lib.hid (rtext_any w4 g s4 hr4)
          clear hst4 hr4 hg4
          go_wp2_with fail
          refine HRT.out.mono ?_
          rintro e w5 ⟨a5, s5, rfl, hst5, ha5, hr5, hg5, _⟩
          have HP5 := Go.Lib.hid (DecAt.turn HP4.out.1 HP4.out.2 HWG.out hg5)
          have HSTE := Go.Lib.hid (Stp.entry HST2.out HST3.out HST4.out hst5)
          have HR5 := Go.Lib.hid hr5
          have HWF := Go.Lib.hid (show Entry.wf ⟨a2, a3, a4, a5⟩ from ⟨by show a2.size ≤ maxLen; unfold maxLen; omega, by show inR a3; unfold inR; omega, by show inR a4; unfold inR; omega, by show a5.size ≤ maxLen; unfold maxLen; omega⟩)
          have HLEN := Go.Lib.hid (show done.length + [(⟨a2, a3, a4, a5⟩ : Entry)].length ≤ 1000000 by
            have := HD.out.many.1
            simp only [List.length_cons, List.length_nil]; omega)
          clear hst5 hr5 hg5 ha2 ha3 ha4 ha5
          go_wp2_with (at_builtin; refine wpList_ents (base := g + 1) rfl (.tmp 76) (.tmp 86) rfl (HP5.out.2.alloc1 _) (one_ent HWF.out) rfl rfl HLEN.out ?_; intro v6 w6 ho6 hg6)
          go_roundw
          case rel =>
            refine ⟨j + 1, _, s5, by omega, by go_num, ⟨HD.out.many.next hlt HE.out HSTE.out, (HR5.out.alloc _).grown hg6.grown (fun q e => (HP5.out.2.base_le q e).1), ho6, ?_⟩⟩
            exact (HP5.out.1.alloc HP5.out.1.size _).grown hg6.grown (by simp; have := HP5.out.1.size; omega) (fun q e => by have := (HP5.out.2.base_le q e).1; have := HWG.out; omega)
          case measure => simp [intOf]; omega
        · by_cases he : st.2 = 0
          · obtain rfl : j = nn := by omega
            have HM := Go.Lib.hid (HD.out.many.done_ (Nat.le_refl _) he)
            obtain ⟨r, er⟩ := st
            simp only at he f0' f1' hl' HM
            subst he
            rcases r with _ | ⟨q, r⟩
            · have HCH := Go.Lib.hid (check_any _ done wr (HD.out.out.sl (by decide)))
              simp only [List.length_nil] at f0'
              go_wp2_with fail
              refine HCH.out.mono ?_
              rintro e w2 ⟨rfl, hb2⟩
              have HB2 := Go.Lib.hid (HD.out.below.trans (hb2.mono HD.out.below.size))
              have HO2 := Go.Lib.hid (HD.out.out.keep hb2)
              clear hb2
              by_cases hcc : checkS done = 0
              · have t3 : (checkS done != 0) = false := by simp [hcc]
                have HF2 := Go.Lib.hid (HF.out.trans (decBody_fin HPB.out (by rw [Int.toNat_natCast]; exact HM.out) hcc))
                clear hcc
                go_wp2_with fail
                go_ret2
                exact dec_fin HF2.out (HO2.out.lower (by have := HWG.out; omega)) HB2.out
              · have t3 : (checkS done != 0) = true := by simp [hcc]
                have HF2 := Go.Lib.hid (HF.out.trans (decBody_chk HPB.out (by rw [Int.toNat_natCast]; exact HM.out) hcc))
                clear hcc
                go_wp2_with fail
                go_ret2
                exact dec_fin HF2.out (OwR.nil _ _ HB2.out.size) HB2.out
            · have HF2 := Go.Lib.hid (HF.out.trans (decBody_rest HPB.out (by rw [Int.toNat_natCast]; exact HM.out) (by simp)))
              have hB3 : Below w.heap.size w (wr.setCell ⟨g, 1, none⟩ (.int .i64 4)) := HD.out.below.setCell HWG.out _
              have HB3 := Go.Lib.hid hB3
              obtain ⟨m, hm⟩ : ∃ m, (q :: r).length = m := ⟨_, rfl⟩
              have hm1 : (0 : Int) < (m : Int) := by rw [← hm]; simp <;> omega
              rw [hm] at f0' hl'
              clear hB3 hm
              go_wp2_with fail
              go_quiet (fail)
              go_wp2_with fail
              go_ret2
              exact dec_fin HF2.out (OwR.nil _ _ HB3.out.size) (bDrewN HB3.out _)
          · have HM := Go.Lib.hid (HD.out.many.bad he)
            have HF2 := Go.Lib.hid (HF.out.trans (decBody_err HPB.out (by rw [Int.toNat_natCast]; exact HM.out)))
            have t3 : (st.2 == 0) = false := by simpa using he
            have t4 : (st.2 != 0) = true := by simpa using he
            have HB3 := Go.Lib.hid HD.out.below
            clear he hgo
            go_wp2_with fail
            all_goals
              go_quiet (fail)
              go_wp2_with fail
              go_ret2
              exact dec_fin HF2.out (OwR.nil _ _ HB3.out.size) (bDrewN HB3.out _)
    · have HF := Go.Lib.hid (decS_sum HL.out.1 HL.out.2 (HY0.out.trans H116.out) (by
        rw [HK4.out]
        intro e
        have := T2.out
        rw [HSN.out.2 e] at this
        simp at this))
      go_wp2_with fail
      go_ret2
      exact dec_fin HF.out (OwR.nil _ _ (Nat.le_refl _)) (bDrewN (Below.refl _ _) _)
  · have HF := Go.Lib.hid (decS_head hl1 hl2 (fun e => h116 (HY0.out.symm.trans e)))
    have t1 : ((y0.toNat : Int) != 116) = true := by
      simp only [bne_iff_ne, ne_eq]
      intro e
      exact h116 (UInt8.toNat_inj.1 (by show _ = 116; omega))
    clear h116
    go_enter Try.func45, Try.ntmps45
    go_wp2_with fail
    go_ret2
    exact dec_fin HF.out (OwR.nil _ _ (Nat.le_refl _)) (Below.refl _ _)
end Go.Proofs.Ytbpamllmbdcdfaa
