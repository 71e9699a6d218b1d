/-
  Walks of the store layer, part S: PutOf.
-/
import Derived.Test.YtbpamllmbdcdfaaStQ
namespace Go.Proofs.Ytbpamllmbdcdfaa
open Go.RowKit Go.Deep

theorem Sl.wfs {w : World} {v : Value} {xs : List Entry} (h : Sl entR w v xs) : ∀ e ∈ xs, e.wf := by
  intro e he
  obtain ⟨j, hj, rfl⟩ := List.getElem_of_mem he
  obtain ⟨A, c, rfl⟩ := h.form
  obtain ⟨b, off, rfl, _⟩ := h.at_ hj
  exact (h.ent hj).2.2.2.2

set_option maxRecDepth 100000 in
set_option maxHeartbeats 4000000 in
theorem putOf_any (v : Value) (xs : List Entry) (node : Int) (key value : ByteArray) (w : World) (h : Sl entR w v xs) (hn : inR node) (hk : key.size ≤ maxLen) (hv : value.size ≤ maxLen) :
    Calls Try.prog 49 #[v, .int .i64 node, .string key, .string value] w (PutPost xs node key value w) := by
  have hwf := h.wfs
  have HWF := Go.Lib.hid hwf
  have hlen := h.len_le
  have hk63 : key.size ≤ 9223372036854775807 := by unfold maxLen at hk; omega
  obtain ⟨A, c, rfl⟩ := h.form
  have H := Go.Lib.hid h
  clear h hwf
  go_enter Try.func49, Try.ntmps49
  go_wp2_with fail
  refine (fault_any _ xs _ H.out).mono ?_
  rintro r w1 ⟨rfl, hb1⟩
  have HB1 := Go.Lib.hid hb1
  have hz1 := hb1.size
  clear hb1
  by_cases hc : checkS xs = 0
  · have t1 : (checkS xs == 0) = true := by simp [hc]
    have hok := okS_of hc
    have HOK := Go.Lib.hid hok
    have hl60 := hok.len
    have HC := Go.Lib.hid hc
    rw [hc]
    clear hc hok t1
    go_wp2_with fail
    refine (in_any _ _ _ _).mono ?_
    rintro r w1' ⟨rfl, rfl⟩
    by_cases hn1 : node < 0 ∨ 11 < node
    · have HF := Go.Lib.hid (put_node (key := key) (value := value) HC.out hn1)
      have t2 : (decide (0 ≤ node) && decide (node ≤ 11)) = false := by
        rw [Bool.and_eq_false_iff, decide_eq_false_iff_not, decide_eq_false_iff_not]; omega
      rw [t2]
      clear hn1 t2
      go_wp2_with fail
      go_ret2
      exact put_fin HF.out (OwR.nil _ _ hz1) HB1.out
    · have n1 : 0 ≤ node := by omega
      have n2 : node ≤ 11 := by omega
      have N := Go.Lib.hid (And.intro n1 n2)
      have t2 : (decide (0 ≤ node) && decide (node ≤ 11)) = true := by simp [n1, n2]
      rw [t2]
      clear hn1 t2
      go_wp2_with fail
      refine (keymay_any key _ hk63).mono ?_
      rintro r w1' ⟨rfl, rfl⟩
      rcases hkk : keyOk key with _ | _
      · have HF := Go.Lib.hid (put_key (value := value) HC.out N.out hkk)
        clear hkk
        go_wp2_with fail
        go_ret2
        exact put_fin HF.out (OwR.nil _ _ hz1) HB1.out
      · have HK := Go.Lib.hid hkk
        clear hkk
        by_cases hvv : (120 : Int) < (value.size : Int)
        · have HF := Go.Lib.hid (put_size (value := value) HC.out N.out HK.out (by omega))
          go_wp2_with fail
          go_ret2
          exact put_fin HF.out (OwR.nil _ _ hz1) HB1.out
        · have HV := Go.Lib.hid (show value.size ≤ 120 by omega)
          have hba : Below w.heap.size w (w1.alloc (.cells #[.string key, .int .i64 1, .int .i64 node, .string value] 39)) := HB1.out.alloc hz1 _
          have HBA := Go.Lib.hid hba
          have HPL := Go.Lib.hid (place_any _ xs key _ (H.out.below hba))
          clear hba
          go_wp2_with fail
          refine HPL.out.mono ?_
          rintro r w2 ⟨rfl, rfl⟩
          rcases hh : hasE xs key with _ | _
          · have hp := placeE_none hh
            by_cases hfull : 60 ≤ xs.length
            · have HF := Go.Lib.hid (put_full (value := value) HC.out N.out HK.out HV.out hh hfull)
              have hfi : (60 : Int) ≤ (xs.length : Int) := by omega
              rw [hp]
              clear hh hp
              go_wp2_with fail
              go_ret2
              exact put_fin HF.out (OwR.nil _ _ HBA.out.size) HBA.out
            · have HF := Go.Lib.hid (put_new (value := value) HC.out N.out HK.out HV.out hh (by omega))
              have hfi : ¬ (60 : Int) ≤ (xs.length : Int) := by omega
              have HWE := Go.Lib.hid (withEntry_any _ xs ⟨key, 1, node, value⟩ _ (H.out.below HBA.out) HOK.out.ord (by omega) ⟨hk, (by show inR 1; unfold inR; omega), hn, hv⟩ HWF.out)
              unfold Entry.val at HWE
              rw [hp]
              clear hh hp
              go_wp2_with fail
              refine HWE.out.mono ?_
              rintro r w3 ⟨v3, rfl, ho3, hb3⟩
              have HO3 := Go.Lib.hid (ho3.lower HBA.out.size)
              have HB3 := Go.Lib.hid (HBA.out.trans (hb3.mono HBA.out.size))
              clear ho3 hb3
              go_wp2_with fail
              go_ret2
              exact put_fin HF.out HO3.out HB3.out
          · obtain ⟨hl, hkeq⟩ := (hasE_iff HOK.out.ord key).1 hh
            have hfe := findE_some HOK.out.ord key hl hkeq
            have hp := placeE_some HOK.out.ord key hl hkeq
            obtain ⟨i, hi⟩ : ∃ i, lbE xs key = i := ⟨_, rfl⟩
            have hl' : i < xs.length := by omega
            have hfe' : findE xs key = some xs[i] := by rw [hfe]; simp only [hi]
            obtain ⟨b, off, rfl, hb⟩ := H.out.at_ hl'
            obtain ⟨f1, f2, f3, f4, _⟩ := (H.out.below HBA.out).ent hl'
            obtain ⟨_, _, y3, y4, _, _, _⟩ := entryOk_bounds (HOK.out.ok xs[i] (List.getElem_mem hl'))
            obtain ⟨y, hy⟩ : ∃ y, xs[i] = y := ⟨_, rfl⟩
            have HY := Go.Lib.hid hy
            have HFE := Go.Lib.hid hfe'
            rw [hy] at f1 f2 f3 f4 y3 y4
            rw [hp, hi]
            have r0 : (0 : Int) ≤ (i : Int) := Int.natCast_nonneg _
            have r1 : (i : Int) < (xs.length : Int) := by omega
            have hw : IntKind.i64.wrap (y.version + 1) = y.version + 1 := by rw [IntKind.wrap_i64]; omega
            have hbs : Below w.heap.size w (w1.alloc (.cells #[.string key, .int .i64 (y.version + 1), .int .i64 node, .string value] 39)) := HB1.out.alloc hz1 _
            have HBS := Go.Lib.hid hbs
            clear hh hl hkeq hfe hi hfe' hy hp hbs
            by_cases hmost : y.version = 1099511627776
            · have HF := Go.Lib.hid (put_most (value := value) HC.out N.out HK.out HV.out HFE.out (by rw [HY.out]; exact hmost))
              have hm2 : (1099511627776 : Int) < y.version + 1 := by omega
              go_wp2_with fail
              go_ret2
              exact put_fin HF.out (OwR.nil _ _ (HB1.out.alloc hz1 _).size) (HB1.out.alloc hz1 _)
            · have HF := Go.Lib.hid (put_old (value := value) HC.out N.out HK.out HV.out HFE.out (by rw [HY.out]; exact hmost))
              have hm2 : ¬ (1099511627776 : Int) < y.version + 1 := by omega
              have HWE := Go.Lib.hid (withEntry_any _ xs ⟨key, y.version + 1, node, value⟩ _ (H.out.below HBS.out) HOK.out.ord (by omega) ⟨hk, (by show inR (y.version + 1); unfold inR; omega), hn, hv⟩ HWF.out)
              unfold Entry.val at HWE
              go_wp2_with fail
              refine HWE.out.mono ?_
              rintro r w3 ⟨v3, rfl, ho3, hb3⟩
              have HO3 := Go.Lib.hid (ho3.lower HBS.out.size)
              have HB3 := Go.Lib.hid (HBS.out.trans (hb3.mono HBS.out.size))
              clear ho3 hb3
              go_wp2_with fail
              go_ret2
              refine put_fin HF.out ?_ HB3.out
              rw [HY.out]
              exact HO3.out
  · have t1 : (checkS xs == 0) = false := by simp [hc]
    have t2 : (checkS xs != 0) = true := by simp [hc]
    have HF := Go.Lib.hid (put_bad (node := node) (key := key) (value := value) hc)
    clear hc
    go_wp2_with fail
    go_ret2
    exact put_fin HF.out (OwR.nil _ _ hz1) HB1.out
end Go.Proofs.Ytbpamllmbdcdfaa
