/-
  Walks of the store layer, part N: MergedOf.
-/
import Derived.Test.YtbpamllmbdcdfaaStM
import Derived.Test.YtbpamllmbdcdfaaStS
namespace Go.Proofs.Ytbpamllmbdcdfaa
open Go.RowKit Go.Deep

set_option maxRecDepth 100000 in
set_option maxHeartbeats 4000000 in
theorem mergedOf_any (v1 v2 : Value) (xs ys : List Entry) (w : World) (h1 : Sl entR w v1 xs) (h2 : Sl entR w v2 ys) : Calls Try.prog 51 #[v1, v2] w (MPost (mergeS aboveE xs ys) w) := by
  have hlen := h2.len_le
  obtain ⟨A1, c1, rfl⟩ := h1.form
  obtain ⟨A2, c2, rfl⟩ := h2.form
  have H1 := Go.Lib.hid h1
  have H2 := Go.Lib.hid h2
  clear h1 h2
  go_enter Try.func51, Try.ntmps51
  go_wp2_with fail
  refine (fault_any _ xs _ H1.out).mono ?_
  rintro r w1 ⟨rfl, hb1⟩
  have HB1 := Go.Lib.hid hb1
  have hz1 := hb1.size
  clear hb1
  by_cases hc : checkS xs = 0
  · have t1 : (checkS xs == 0) = true := by simp [hc]
    have HC := Go.Lib.hid hc
    clear hc
    go_wp2_with fail
    refine (fault_any _ ys _ (H2.out.below HB1.out)).mono ?_
    rintro r w2 ⟨rfl, hb2⟩
    have HB2 := Go.Lib.hid (HB1.out.trans (hb2.mono hz1))
    have hz2 := HB2.out.size
    clear hb2
    by_cases hc2 : checkS ys = 0
    · have t2 : (checkS ys != 0) = false := by simp [hc2]
      have HC2 := Go.Lib.hid hc2
      have HOKA := Go.Lib.hid (okS_of HC.out)
      have HOKB := Go.Lib.hid (okS_of hc2)
      have hl60 := HOKB.out.len
      have HF := Go.Lib.hid (merge_ok HC.out hc2)
      have HNL := Go.Lib.hid (OwR.nil (w := w2) entR 39 hz2)
      have HLN := Go.Lib.hid (show ([] : List Entry).length + xs.length ≤ 1000000 by have := HOKA.out.len; simp; omega)
      clear hc2
      go_wp2_with (at_builtin; refine wpList_ents (base := w.heap.size) rfl _ _ rfl HNL.out (H1.out.below HB2.out) rfl rfl HLN.out ?_; intro v3 w3 ho3 hg3)
      rw [List.nil_append] at ho3
      have HO3 := Go.Lib.hid ho3
      have HB3 := Go.Lib.hid (HB2.out.grown hg3.grown hz2 (fun k e => by cases e))
      clear ho3 hg3
      go_loopw [8, 9, 10, 11] (fun s8 s9 s10 _ wr => ∃ k : Nat, k ≤ ys.length ∧ s10 = .int .i64 k ∧ Two w.heap.size wr s8 s9 (mTo xs ys k).1 (mTo xs ys k).2 ∧ Below w.heap.size w wr) (fun _ _ s10 _ _ => ys.length - (intOf s10).toNat)
      case atStart => exact ⟨0, Nat.zero_le _, rfl, ⟨HO3.out, OwR.nil _ _ HB3.out.size, fun k hk hk' => by cases hk'⟩, HB3.out⟩
      case round =>
        obtain ⟨k, hk, rfl, htw, hB⟩ := hrel
        have HT := Go.Lib.hid htw
        have HB := Go.Lib.hid hB
        by_cases hlt : k < ys.length
        · obtain ⟨b, off, rfl, hb⟩ := H2.out.at_ hlt
          have hentY := fun w' (hb' : Below w.heap.size w w') => (H2.out.below hb').ent hlt
          have hsucc := mTo_succ xs ys k hlt
          have hok := mTo_ok HOKA.out HOKB.out.ok k
          have hkl := mTo_len xs ys k hk
          obtain ⟨y, hy⟩ : ∃ y, ys[k] = y := ⟨_, rfl⟩
          obtain ⟨p, hp⟩ : ∃ p, mTo xs ys k = p := ⟨_, rfl⟩
          simp only [hy] at hentY
          rw [hy] at hsucc
          rw [hp] at hok hkl hsucc htw
          obtain ⟨f1, f2, f3, f4, hyw⟩ := hentY wr hB
          have HEY := Go.Lib.hid hentY
          have HSUC := Go.Lib.hid hsucc
          have HOK := Go.Lib.hid hok
          have HYW := Go.Lib.hid hyw
          have HT2 := Go.Lib.hid htw
          have hol := hok.len
          have hez := hB.size
          have HPL := Go.Lib.hid (place_any _ p.1 y.key wr (htw.out.sl (by decide)))
          have r0 : (0 : Int) ≤ (k : Int) := Int.natCast_nonneg _
          have r1 : (k : Int) < (ys.length : Int) := by omega
          obtain ⟨A9, c9, hv9⟩ := (htw.out.sl (by decide)).form
          subst hv9
          have HKL := Go.Lib.hid (show p.2.length + [y.key].length ≤ 1000000 by simp only [List.length_cons, List.length_nil]; omega)
          have HWE := Go.Lib.hid (fun w' (h : Sl entR w' (.slice A9 p.1.length c9) p.1) => withEntry_any _ p.1 y w' h hok.ord (by omega) hyw h.wfs)
          unfold Entry.val at HWE
          clear htw hB hy hp hsucc hok hyw HT hentY
          go_wp2_with fail
          refine HPL.out.mono ?_
          rintro r w4 ⟨rfl, rfl⟩
          rcases hh : hasE p.1 y.key with _ | _
          · have hpl := placeE_none hh
            rw [hpl]
            by_cases hroom : p.1.length < 60
            · have HST := Go.Lib.hid (step_new hh hroom)
              have hr1 : (p.1.length : Int) < 60 := by omega
              clear hh hroom hpl
              go_wp2_with fail
              go_quiet (fail)
              obtain ⟨q1, rfl⟩ : ∃ m, m = nq := ⟨nq, rfl⟩
              have HT5 := Go.Lib.hid (HT2.out.keep (bDrewN (Below.refl wr.heap.size wr) q1))
              have HB5 := Go.Lib.hid (bDrewN HB.out q1)
              obtain ⟨f1', f2', f3', f4', _⟩ := HEY.out _ HB5.out
              go_wp2_with fail
              refine (HWE.out _ (HT5.out.out.sl (by decide))).mono ?_
              rintro e w6 ⟨v6, rfl, ho6, hb6⟩
              have HT6 := Go.Lib.hid (HT5.out.new ho6 hb6)
              have HB6 := Go.Lib.hid (HB5.out.trans (hb6.mono HB5.out.size))
              clear ho6 hb6 f1' f2' f3' f4'
              obtain ⟨f1', f2', f3', f4', _⟩ := HEY.out _ HB6.out
              go_wp2_with (at_builtin; refine wpList_strs (base := w.heap.size) rfl (.tmp 64) (.tmp 70) rfl (HT6.out.keys.alloc1 _) (one_str HYW.out.1) rfl rfl HKL.out ?_; intro v8 w8 ho8 hg8)
              go_roundw
              case rel =>
                refine ⟨k + 1, by omega, by go_num, ?_, gbO (HB6.out.alloc HB6.out.size _) (HT6.out.keys.alloc1 _) hg8⟩
                rw [HSUC.out, HST.out]
                exact (HT6.out.keep ((Below.refl _ _).alloc (Nat.le_refl _) _)).keys' ho8 hg8
              case measure => simp [intOf]; omega
            · have HST := Go.Lib.hid (step_full hh hroom)
              have hr1 : ¬ (p.1.length : Int) < 60 := by omega
              clear hh hroom hpl
              go_wp2_with fail
              go_quiet (fail)
              go_wp2_with fail
              go_roundw
              case rel =>
                refine ⟨k + 1, by omega, by go_num, ?_, bDrewN HB.out _⟩
                rw [HSUC.out, HST.out]
                exact HT2.out.keep (bDrewN (Below.refl _ _) _)
              case measure => simp [intOf]; omega
          · obtain ⟨hl, hkeq⟩ := (hasE_iff HOK.out.ord y.key).1 hh
            have hpl := placeE_some HOK.out.ord y.key hl hkeq
            obtain ⟨g, cap, hv9, hg1, hg2, hg3⟩ := HT2.out.out.at_ (by omega)
            injection hv9 with e1 e2 e3
            subst e1 e3
            have hAB := step_above' HOK.out.ord hl hkeq
            have hBE := step_below HOK.out.ord hl hkeq
            have hent := (HT2.out.out.sl (by decide)).ent hl
            obtain ⟨i, hi⟩ : ∃ i, lbE p.1 y.key = i := ⟨_, rfl⟩
            have hli : i < p.1.length := by omega
            simp only [hi] at hAB hBE hent
            rw [Nat.zero_add] at hent
            obtain ⟨g1, g2, g3, g4, how⟩ := hent
            obtain ⟨o, ho⟩ : ∃ o, p.1[i] = o := ⟨_, rfl⟩
            rw [ho] at g1 g2 g3 g4 hAB hBE
            have HAB := Go.Lib.hid hAB
            have HBE := Go.Lib.hid hBE
            have i0 : (0 : Int) ≤ (i : Int) := Int.natCast_nonneg _
            have i1 : (i : Int) < (p.1.length : Int) := by omega
            rw [hpl, hi]
            clear hh hl hkeq hAB hBE how ho hi e2 hpl
            go_wp2_with fail
            refine still_tail 11 (by kernel_rfl) (by kernel_rfl) ?_
            intro wd hwd
            have g1' : wd.cell? ⟨g, i * 4, none⟩ = some (.string o.key) := by rw [hwd, World.cell?_drew]; exact g1
            have g2' : wd.cell? ⟨g, i * 4 + 1, none⟩ = some (.int .i64 o.version) := by rw [hwd, World.cell?_drew]; exact g2
            have g3' : wd.cell? ⟨g, i * 4 + 2, none⟩ = some (.int .i64 o.origin) := by rw [hwd, World.cell?_drew]; exact g3
            have g4' : wd.cell? ⟨g, i * 4 + 3, none⟩ = some (.string o.value) := by rw [hwd, World.cell?_drew]; exact g4
            have hBd : Below w.heap.size w wd := by rw [hwd]; exact HB.out.drew
            have hTd := HT2.out.keep (show Below wr.heap.size wr wd by rw [hwd]; exact (Below.refl _ _).drew)
            obtain ⟨f1', f2', f3', f4', _⟩ := HEY.out wd hBd
            have HTD := Go.Lib.hid hTd
            have HBD := Go.Lib.hid hBd
            have HAV := Go.Lib.hid (above_any y o wd)
            unfold Entry.val at HAV
            clear hwd g1 g2 g3 g4 hTd hBd hg3 f1 f2 f3 f4
            simp only [List.take_succ_cons, List.take_zero, List.drop_succ_cons, List.drop_zero]
            iterate 11 still_step
            refine wpStill_nil ?_
            clear g1' g2' g3' g4' f1' f2' f3' f4'
            go_wp2_with fail
            refine HAV.out.mono ?_
            rintro e w5 ⟨rfl, hb5⟩
            have HT5 := Go.Lib.hid (HTD.out.keep hb5)
            have HB5 := Go.Lib.hid (HBD.out.trans (hb5.mono HBD.out.size))
            clear hb5
            rcases hab : aboveE y o with _ | _
            · have HBE2 := Go.Lib.hid (HBE.out hab)
              clear hab
              go_wp2_with fail
              go_roundw
              case rel =>
                refine ⟨k + 1, by omega, by go_num, ?_, HB5.out⟩
                rw [HSUC.out, HBE2.out]
                exact HT5.out
              case measure => simp [intOf]; omega
            · have HST := Go.Lib.hid (HAB.out hab)
              clear hab
              skip
              skip
              skip
              obtain ⟨f1', f2', f3', f4', _⟩ := HEY.out _ HB5.out
              go_wp2_with fail
              refine (HWE.out _ (HT5.out.out.sl (by decide))).mono ?_
              rintro e w6 ⟨v6, rfl, ho6, hb6⟩
              have HT6 := Go.Lib.hid (HT5.out.new ho6 hb6)
              have HB6 := Go.Lib.hid (HB5.out.trans (hb6.mono HB5.out.size))
              clear ho6 hb6 f1' f2' f3' f4'
              obtain ⟨f1', f2', f3', f4', _⟩ := HEY.out _ HB6.out
              go_wp2_with (at_builtin; refine wpList_strs (base := w.heap.size) rfl (.tmp 64) (.tmp 70) rfl (HT6.out.keys.alloc1 _) (one_str HYW.out.1) rfl rfl HKL.out ?_; intro v8 w8 ho8 hg8)
              go_roundw
              case rel =>
                refine ⟨k + 1, by omega, by go_num, ?_, gbO (HB6.out.alloc HB6.out.size _) (HT6.out.keys.alloc1 _) hg8⟩
                rw [HSUC.out, HST.out]
                exact (HT6.out.keep ((Below.refl _ _).alloc (Nat.le_refl _) _)).keys' ho8 hg8
              case measure => simp [intOf]; omega
        · obtain rfl : k = ys.length := by omega
          clear htw hB
          go_wp2_with fail
          go_ret3
          exact m_fin HF.out HT.out HB.out
    · have t2 : (checkS ys != 0) = true := by simp [hc2]
      have HF := Go.Lib.hid (merge_bad2 HC.out hc2)
      clear hc2
      go_wp2_with fail
      go_ret3
      exact m_fin HF.out (two_nil hz2) HB2.out
  · have t1 : (checkS xs == 0) = false := by simp [hc]
    have t2 : (checkS xs != 0) = true := by simp [hc]
    have HF := Go.Lib.hid (merge_bad1 (b := ys) hc)
    clear hc
    go_wp2_with fail
    go_ret3
    exact m_fin HF.out (two_nil hz1) HB1.out
end Go.Proofs.Ytbpamllmbdcdfaa
