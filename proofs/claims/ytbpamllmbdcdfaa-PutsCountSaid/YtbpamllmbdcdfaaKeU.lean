/-
  Walks: slices.DeleteFunc over entries.
-/
import Derived.Test.YtbpamllmbdcdfaaKeS
namespace Go.Proofs.Ytbpamllmbdcdfaa
open Go.RowKit Go.Deep

theorem Below.setCells {B : Nat} {a : World} {g : Nat} (hg : B ≤ g) : ∀ (vs : List Value) (o : Nat) (w : World), Below B a w → Below B a (w.setCells g o vs)
  | [], _, _, h => h
  | v :: vs, o, w, h => Below.setCells hg vs (o + 1) _ (h.setCell hg v)
theorem size_setCells' (g : Nat) : ∀ (vs : List Value) (o : Nat) (w : World), (w.setCells g o vs).heap.size = w.heap.size
  | [], _, _ => rfl
  | v :: vs, o, w => by
    show ((w.setCell ⟨g, o, none⟩ v).setCells g (o + 1) vs).heap.size = _
    rw [size_setCells' g vs (o + 1)]; simp [World.setCell]

/-- how far the deletion is: i kept of the first j; what lies further on is as it was -/
structure DelAt (p : Entry → Bool) (xs dk : List Entry) (i j : Nat) : Prop where
  lt : i < j
  le : j ≤ xs.length
  size : dk.length = xs.length
  kept : dk.take i = (xs.take j).filter (fun x => !p x)
  rest : ∀ t, j ≤ t → dk[t]? = xs[t]?
theorem DelAt.keep {p : Entry → Bool} {xs dk : List Entry} {i j : Nat} (h : DelAt p xs dk i j) (hj : j < xs.length) (hp : p xs[j] = false) : DelAt p xs (dk.set i xs[j]) (i + 1) (j + 1) := by
  have h1 := h.lt
  have h2 := h.size
  refine ⟨by omega, by omega, by rw [List.length_set]; exact h2, ?_, fun t ht => ?_⟩
  · rw [List.take_succ_eq_append_getElem (by rw [List.length_set]; omega), List.take_set_of_le (Nat.le_refl _), h.kept, List.take_succ_eq_append_getElem hj, List.filter_append]
    simp [hp]
  · rw [List.getElem?_set_ne (by omega)]; exact h.rest t (by omega)
theorem DelAt.skip {p : Entry → Bool} {xs dk : List Entry} {i j : Nat} (h : DelAt p xs dk i j) (hj : j < xs.length) (hp : p xs[j] = true) : DelAt p xs dk i (j + 1) := by
  have h1 := h.lt
  refine ⟨by omega, by omega, h.size, ?_, fun t ht => h.rest t (by omega)⟩
  rw [h.kept, List.take_succ_eq_append_getElem hj, List.filter_append]
  simp [hp]
theorem DelAt.start {p : Entry → Bool} {xs : List Entry} {k : Nat} (hk : k < xs.length) (hp : p xs[k] = true) (hall : ∀ j, (h : j < xs.length) → j < k → p xs[j] = false) : DelAt p xs xs k (k + 1) := by
  refine ⟨by omega, by omega, rfl, ?_, fun _ _ => rfl⟩
  rw [List.take_succ_eq_append_getElem hk, List.filter_append]
  have h1 : (xs.take k).filter (fun x => !p x) = xs.take k := by
    rw [List.filter_eq_self]
    intro x hx
    obtain ⟨i, hi, rfl⟩ := List.getElem_of_mem hx
    rw [List.length_take] at hi
    rw [List.getElem_take]
    simp [hall i (by omega) (by omega)]
  rw [h1]
  simp [hp]

/-- the first entries of a row whose further cells are laid anew -/
theorem sl_cleared {base : Nat} {w : World} {g cap : Nat} {xs : List Entry} (h : OwR entR 39 base w (.slice (some ⟨g, 0, none⟩) xs.length cap) xs) (i : Nat) (hi : i ≤ xs.length) (zs : List Value) :
    Sl entR (w.setCells g (i * 4) zs) (.slice (some ⟨g, 0, none⟩) i cap) (xs.take i) := by
  have hs := h.sl (by decide)
  obtain ⟨A, c, hv, h1, h2, h3⟩ := hs
  injection hv with e1 e2 e3
  subst e1; subst e3
  refine ⟨some ⟨g, 0, none⟩, cap, by rw [List.length_take, Nat.min_eq_left hi], by rw [List.length_take]; omega, h2, fun t x hx => ?_⟩
  rw [List.getElem?_take] at hx
  split at hx
  · rename_i hti
    obtain ⟨b, off, cs, hA, hS, hb, hh, hc⟩ := h3 t x hx
    injection hA with hA
    injection hA with hA1 hA2
    subst hA1; subst hA2
    have hsz : (w.setCells g (i * 4) zs).heap.size = w.heap.size := size_setCells' _ _ _ _
    refine ⟨g, 0, cs, rfl, by show g < _; rw [hsz]; exact hS, by rw [hsz]; exact hb, hh, fun j u hu => ?_⟩
    have hl : cs.length = 4 := by obtain ⟨rfl, _⟩ := hh; rfl
    have hj := (List.getElem?_eq_some_iff.1 hu).1
    rw [World.cell?_setCells_out g zs (i * 4) w ⟨g, 0 + t * entR.size + j, none⟩ (fun _ _ => .inl (by show 0 + t * 4 + j < i * 4; omega))]
    exact hc j u hu
  · cases hx

theorem OwR.fzE {base : Nat} {w : World} {g n cap : Nat} {xs : List Entry} (h : OwR entR 39 base w (.slice (some ⟨g, 0, none⟩) n cap) xs) (hn : n = xs.length) : ∀ j, w.frozen? ⟨g, j, none⟩ = false := by
  obtain ⟨h1, _, _⟩ := OwR.to_flat h
  subst hn
  exact fun j => h1.frozenAt j

set_option maxRecDepth 100000 in
set_option maxHeartbeats 4000000 in
theorem delE2_any (p : Entry → Bool) (cap : Value) (v : Value) (xs : List Entry) (base B : Nat) (w : World) (h : OwR entR 39 base w v xs) (hB : B ≤ base) (hp : askE p 63 cap B w) :
    Calls Try.prog 61 #[v, .func (.func 63) #[] #[cap]] w fun e w' => ∃ v', e = .returned v' ∧ Sl entR w' v' (xs.filter (fun x => !p x)) ∧ Below base w w' := by
  have hsl := h.sl (by decide)
  have hbw := h.choose_spec.2.2.2
  have HX := Go.Lib.hid (idxE2_any p cap v xs B w hsl (by omega) hp)
  have hlen := hsl.len_le
  have HP := Go.Lib.hid hp
  have HO := Go.Lib.hid h
  obtain ⟨A, c, rfl⟩ := hsl.form
  clear hsl hp h
  go_enter Try.func61, Try.ntmps61
  go_wp2_with fail
  refine HX.out.mono ?_
  rintro e w1 ⟨⟨n, rfl, hn⟩, hb1⟩
  have HB1 := Go.Lib.hid (hb1.mono hbw)
  have ho1 := HO.out.keep hb1
  rcases hn with ⟨rfl, hall⟩ | ⟨k, rfl, ⟨hk, hpk⟩, hall⟩
  · have hfil : xs.filter (fun x => !p x) = xs := by
      rw [List.filter_eq_self]
      intro x hx
      obtain ⟨i, hi, rfl⟩ := List.getElem_of_mem hx
      simp [hall i hi]
    have HF := Go.Lib.hid hfil
    have HO1 := Go.Lib.hid ho1
    clear hfil hall hb1 ho1
    go_wp2_with fail
    go_ret
    exact ⟨_, rfl, by rw [HF.out]; exact HO1.out.sl (by decide), HB1.out⟩
  · have HD := Go.Lib.hid (DelAt.start hk hpk hall)
    obtain ⟨g, cap', hv, hg1, hg2, hg3⟩ := ho1.at_ (by omega)
    injection hv with e1 e2 e3
    subst e1; subst e3
    have HO1 := Go.Lib.hid ho1
    have HK := Go.Lib.hid hk
    have hgb := hg1
    obtain ⟨m, hm⟩ : ∃ m, xs.length = m := ⟨_, rfl⟩
    have HM := Go.Lib.hid hm
    have hne1 : ((k : Int) == -1) = false := beq_eq_false_iff_ne.2 (by omega)
    rw [hm] at hk hlen ⊢
    clear hpk hall hb1 ho1 hm
    go_wp2_with fail
    go_loopw [5, 6, 7] (fun s5 s6 _ wr => ∃ (i j : Nat) (dk : List Entry), s5 = .int .i64 i ∧ s6 = .int .i64 j ∧ Hid (DelAt p xs dk i j) ∧ Hid (OwR entR 39 base wr (.slice (some ⟨g, 0, none⟩) m c) dk) ∧ Hid (Below base w wr)) (fun _ s6 _ _ => m - (intOf s6).toNat)
    case atStart => exact ⟨k, k + 1, xs, rfl, by go_num, HD, by rw [HM.out] at HO1; exact HO1, HB1⟩
    case round =>
      obtain ⟨i, j, dk, rfl, rfl, HI, HR, HB⟩ := hrel
      have hij := HI.out.lt
      have hjm := HI.out.le
      have hds := HI.out.size
      rw [HM.out] at hjm hds
      have HDS := Go.Lib.hid hds
      have hg3 := HR.out.fzE HDS.out.symm
      by_cases hlt : j < m
      · have hjx : j < xs.length := by rw [HM.out]; exact hlt
        have hjd : j < dk.length := by rw [HDS.out]; exact hlt
        have hid' : i < dk.length := by rw [HDS.out]; omega
        have hjy : dk[j] = xs[j] := by
          have := HI.out.rest j (Nat.le_refl _)
          rw [List.getElem?_eq_getElem hjd, List.getElem?_eq_getElem hjx] at this
          injection this
        obtain ⟨f1, f2, f3, f4, fw⟩ := (HR.out.sl (by decide)).ent hjd
        rw [Nat.zero_add] at f1 f2 f3 f4
        rw [hjy] at f1 f2 f3 f4 fw
        have hal : Below wr.heap.size wr (wr.alloc (.cells #[.string xs[j].key, .int .i64 xs[j].version, .int .i64 xs[j].origin, .string xs[j].value] 39)) := (Below.refl _ _).alloc (Nat.le_refl _) _
        have hcal := HP.out xs[j] _ ((HB.out.mono hB).trans (hal.mono (by have := HB.out.size; omega)))
        have HKE := Go.Lib.hid (fun h => HI.out.keep hjx h)
        have HSK := Go.Lib.hid (fun h => HI.out.skip hjx h)
        unfold Entry.val at hcal
        obtain ⟨y, hy⟩ : ∃ y, xs[j] = y := ⟨_, rfl⟩
        rw [hy] at f1 f2 f3 f4 fw hcal HKE HSK
        have HC := Go.Lib.hid hcal
        have HFW := Go.Lib.hid fw
        have r0 : (0 : Int) ≤ (j : Int) := Int.natCast_nonneg _
        have r1 : (j : Int) < (m : Int) := by omega
        have r2 : (0 : Int) ≤ (i : Int) := Int.natCast_nonneg _
        have r3 : (i : Int) < (m : Int) := by omega
        clear hal hcal hjy hy fw hjx hjd hk
        go_wp2_with fail
        refine HC.out.mono ?_
        rintro e w2 ⟨rfl, hb2⟩
        obtain ⟨hA, hN, hM, hS⟩ := pastAlloc hb2
        have ho2 := HR.out.keep hA
        have HB2 := Go.Lib.hid (HB.out.trans (hA.mono (by have := HB.out.size; omega)))
        have HR2 := Go.Lib.hid ho2
        obtain ⟨g1, g2, g3, g4, _⟩ := (ho2.sl (by decide)).ent hid'
        rw [Nat.zero_add] at g1 g2 g3 g4
        have hg4 := HR2.out.fzE HDS.out.symm
        clear hA ho2 hb2 f1 f2 f3 f4 hg3
        rcases hq : p y with _ | _
        · have HQ := Go.Lib.hid hq
          clear hq
          go_wp2_with fail
          go_roundw
          case rel =>
            have hse := HR2.out.setE HDS.out.symm i hid' y HFW.out
            refine ⟨i + 1, j + 1, dk.set i y, by go_num, by go_num, HKE.out HQ.out, hse.1, ?_⟩
            have hbg := (HB1.out.size)
            show Below base w _
            iterate 4 refine Below.setCell ?_ hgb _
            exact HB2.out
          case measure => simp [intOf]; omega
        · have HQ := Go.Lib.hid hq
          clear hq
          go_wp2_with fail
          go_roundw
          case rel => exact ⟨i, j + 1, dk, rfl, by go_num, HSK.out HQ.out, HR2, HB2⟩
          case measure => simp [intOf]; omega
      · obtain rfl : m = j := by omega
        have hcm : m ≤ c := by
          obtain ⟨_, _, hv, h1, _⟩ := HR.out.sl (by decide)
          injection hv with e1 e2 e3
          rw [HDS.out] at h1
          omega
        have hcells : ∀ t, t < m * 4 → (wr.cell? ⟨g, t, none⟩).isSome = true := by
          intro t ht
          have hq4 : t / 4 < dk.length := by rw [HDS.out]; omega
          obtain ⟨c0, c1, c2, c3, _⟩ := (HR.out.sl (by decide)).ent hq4
          rw [Nat.zero_add] at c0 c1 c2 c3
          have hm4 := Nat.mod_lt t (show 0 < 4 by omega)
          have hdm := Nat.div_add_mod t 4
          obtain ⟨r, hr⟩ : ∃ r, t % 4 = r := ⟨_, rfl⟩
          rw [hr] at hm4 hdm
          have e0 : t = t / 4 * 4 + r := by omega
          rw [e0]
          match r, hm4 with
          | 0, _ => rw [Nat.add_zero, c0]; rfl
          | 1, _ => rw [c1]; rfl
          | 2, _ => rw [c2]; rfl
          | 3, _ => rw [c3]; rfl
        have hcl : ∀ ty, (Builtin.clear_ #[35] ty #[.slice (some ⟨g, i * 4, none⟩) (m - i) (c - i)]).run Try.prog wr = .ok (.tuple #[]) (wr.setCells g (i * 4) (zeros (m - i))) :=
          fun ty => run_clear_ent wr ty g (i * 4) (m - i) (c - i) (by omega) (fun t ht => hcells _ (by omega)) (fun t _ => hg3 _)
        have r1 : ¬ (m : Int) < (m : Int) := by omega
        have r2 : (0 : Int) ≤ (i : Int) := Int.natCast_nonneg _
        have r3 : (i : Int) ≤ (m : Int) := by omega
        have r4 : (i : Int) ≤ (c : Int) := by omega
        have r5 : (m : Int) ≤ (c : Int) := by omega
        clear hcells hg3
        go_wp2_with fail
        go_ret
        refine ⟨_, rfl, ?_, Below.setCells hgb _ _ _ HB.out⟩
        have hs := sl_cleared (w := wr) (g := g) (cap := c) (xs := dk) (base := base) (by rw [HDS.out]; exact HR.out) i (by rw [HDS.out]; omega) (zeros (m - i))
        rw [HI.out.kept, List.take_of_length_le (by rw [HM.out]; omega)] at hs
        exact hs
set_option maxRecDepth 100000 in
set_option maxHeartbeats 4000000 in
theorem delE3_any (p : Entry → Bool) (cap : Value) (v : Value) (xs : List Entry) (base B : Nat) (w : World) (h : OwR entR 39 base w v xs) (hB : B ≤ base) (hp : askE p 64 cap B w) :
    Calls Try.prog 61 #[v, .func (.func 64) #[] #[cap]] w fun e w' => ∃ v', e = .returned v' ∧ Sl entR w' v' (xs.filter (fun x => !p x)) ∧ Below base w w' := by
  have hsl := h.sl (by decide)
  have hbw := h.choose_spec.2.2.2
  have HX := Go.Lib.hid (idxE3_any p cap v xs B w hsl (by omega) hp)
  have hlen := hsl.len_le
  have HP := Go.Lib.hid hp
  have HO := Go.Lib.hid h
  obtain ⟨A, c, rfl⟩ := hsl.form
  clear hsl hp h
  go_enter Try.func61, Try.ntmps61
  go_wp2_with fail
  refine HX.out.mono ?_
  rintro e w1 ⟨⟨n, rfl, hn⟩, hb1⟩
  have HB1 := Go.Lib.hid (hb1.mono hbw)
  have ho1 := HO.out.keep hb1
  rcases hn with ⟨rfl, hall⟩ | ⟨k, rfl, ⟨hk, hpk⟩, hall⟩
  · have hfil : xs.filter (fun x => !p x) = xs := by
      rw [List.filter_eq_self]
      intro x hx
      obtain ⟨i, hi, rfl⟩ := List.getElem_of_mem hx
      simp [hall i hi]
    have HF := Go.Lib.hid hfil
    have HO1 := Go.Lib.hid ho1
    clear hfil hall hb1 ho1
    go_wp2_with fail
    go_ret
    exact ⟨_, rfl, by rw [HF.out]; exact HO1.out.sl (by decide), HB1.out⟩
  · have HD := Go.Lib.hid (DelAt.start hk hpk hall)
    obtain ⟨g, cap', hv, hg1, hg2, hg3⟩ := ho1.at_ (by omega)
    injection hv with e1 e2 e3
    subst e1; subst e3
    have HO1 := Go.Lib.hid ho1
    have HK := Go.Lib.hid hk
    have hgb := hg1
    obtain ⟨m, hm⟩ : ∃ m, xs.length = m := ⟨_, rfl⟩
    have HM := Go.Lib.hid hm
    have hne1 : ((k : Int) == -1) = false := beq_eq_false_iff_ne.2 (by omega)
    rw [hm] at hk hlen ⊢
    clear hpk hall hb1 ho1 hm
    go_wp2_with fail
    go_loopw [5, 6, 7] (fun s5 s6 _ wr => ∃ (i j : Nat) (dk : List Entry), s5 = .int .i64 i ∧ s6 = .int .i64 j ∧ Hid (DelAt p xs dk i j) ∧ Hid (OwR entR 39 base wr (.slice (some ⟨g, 0, none⟩) m c) dk) ∧ Hid (Below base w wr)) (fun _ s6 _ _ => m - (intOf s6).toNat)
    case atStart => exact ⟨k, k + 1, xs, rfl, by go_num, HD, by rw [HM.out] at HO1; exact HO1, HB1⟩
    case round =>
      obtain ⟨i, j, dk, rfl, rfl, HI, HR, HB⟩ := hrel
      have hij := HI.out.lt
      have hjm := HI.out.le
      have hds := HI.out.size
      rw [HM.out] at hjm hds
      have HDS := Go.Lib.hid hds
      have hg3 := HR.out.fzE HDS.out.symm
      by_cases hlt : j < m
      · have hjx : j < xs.length := by rw [HM.out]; exact hlt
        have hjd : j < dk.length := by rw [HDS.out]; exact hlt
        have hid' : i < dk.length := by rw [HDS.out]; omega
        have hjy : dk[j] = xs[j] := by
          have := HI.out.rest j (Nat.le_refl _)
          rw [List.getElem?_eq_getElem hjd, List.getElem?_eq_getElem hjx] at this
          injection this
        obtain ⟨f1, f2, f3, f4, fw⟩ := (HR.out.sl (by decide)).ent hjd
        rw [Nat.zero_add] at f1 f2 f3 f4
        rw [hjy] at f1 f2 f3 f4 fw
        have hal : Below wr.heap.size wr (wr.alloc (.cells #[.string xs[j].key, .int .i64 xs[j].version, .int .i64 xs[j].origin, .string xs[j].value] 39)) := (Below.refl _ _).alloc (Nat.le_refl _) _
        have hcal := HP.out xs[j] _ ((HB.out.mono hB).trans (hal.mono (by have := HB.out.size; omega)))
        have HKE := Go.Lib.hid (fun h => HI.out.keep hjx h)
        have HSK := Go.Lib.hid (fun h => HI.out.skip hjx h)
        unfold Entry.val at hcal
        obtain ⟨y, hy⟩ : ∃ y, xs[j] = y := ⟨_, rfl⟩
        rw [hy] at f1 f2 f3 f4 fw hcal HKE HSK
        have HC := Go.Lib.hid hcal
        have HFW := Go.Lib.hid fw
        have r0 : (0 : Int) ≤ (j : Int) := Int.natCast_nonneg _
        have r1 : (j : Int) < (m : Int) := by omega
        have r2 : (0 : Int) ≤ (i : Int) := Int.natCast_nonneg _
        have r3 : (i : Int) < (m : Int) := by omega
        clear hal hcal hjy hy fw hjx hjd hk
        go_wp2_with fail
        refine HC.out.mono ?_
        rintro e w2 ⟨rfl, hb2⟩
        obtain ⟨hA, hN, hM, hS⟩ := pastAlloc hb2
        have ho2 := HR.out.keep hA
        have HB2 := Go.Lib.hid (HB.out.trans (hA.mono (by have := HB.out.size; omega)))
        have HR2 := Go.Lib.hid ho2
        obtain ⟨g1, g2, g3, g4, _⟩ := (ho2.sl (by decide)).ent hid'
        rw [Nat.zero_add] at g1 g2 g3 g4
        have hg4 := HR2.out.fzE HDS.out.symm
        clear hA ho2 hb2 f1 f2 f3 f4 hg3
        rcases hq : p y with _ | _
        · have HQ := Go.Lib.hid hq
          clear hq
          go_wp2_with fail
          go_roundw
          case rel =>
            have hse := HR2.out.setE HDS.out.symm i hid' y HFW.out
            refine ⟨i + 1, j + 1, dk.set i y, by go_num, by go_num, HKE.out HQ.out, hse.1, ?_⟩
            have hbg := (HB1.out.size)
            show Below base w _
            iterate 4 refine Below.setCell ?_ hgb _
            exact HB2.out
          case measure => simp [intOf]; omega
        · have HQ := Go.Lib.hid hq
          clear hq
          go_wp2_with fail
          go_roundw
          case rel => exact ⟨i, j + 1, dk, rfl, by go_num, HSK.out HQ.out, HR2, HB2⟩
          case measure => simp [intOf]; omega
      · obtain rfl : m = j := by omega
        have hcm : m ≤ c := by
          obtain ⟨_, _, hv, h1, _⟩ := HR.out.sl (by decide)
          injection hv with e1 e2 e3
          rw [HDS.out] at h1
          omega
        have hcells : ∀ t, t < m * 4 → (wr.cell? ⟨g, t, none⟩).isSome = true := by
          intro t ht
          have hq4 : t / 4 < dk.length := by rw [HDS.out]; omega
          obtain ⟨c0, c1, c2, c3, _⟩ := (HR.out.sl (by decide)).ent hq4
          rw [Nat.zero_add] at c0 c1 c2 c3
          have hm4 := Nat.mod_lt t (show 0 < 4 by omega)
          have hdm := Nat.div_add_mod t 4
          obtain ⟨r, hr⟩ : ∃ r, t % 4 = r := ⟨_, rfl⟩
          rw [hr] at hm4 hdm
          have e0 : t = t / 4 * 4 + r := by omega
          rw [e0]
          match r, hm4 with
          | 0, _ => rw [Nat.add_zero, c0]; rfl
          | 1, _ => rw [c1]; rfl
          | 2, _ => rw [c2]; rfl
          | 3, _ => rw [c3]; rfl
        have hcl : ∀ ty, (Builtin.clear_ #[35] ty #[.slice (some ⟨g, i * 4, none⟩) (m - i) (c - i)]).run Try.prog wr = .ok (.tuple #[]) (wr.setCells g (i * 4) (zeros (m - i))) :=
          fun ty => run_clear_ent wr ty g (i * 4) (m - i) (c - i) (by omega) (fun t ht => hcells _ (by omega)) (fun t _ => hg3 _)
        have r1 : ¬ (m : Int) < (m : Int) := by omega
        have r2 : (0 : Int) ≤ (i : Int) := Int.natCast_nonneg _
        have r3 : (i : Int) ≤ (m : Int) := by omega
        have r4 : (i : Int) ≤ (c : Int) := by omega
        have r5 : (m : Int) ≤ (c : Int) := by omega
        clear hcells hg3
        go_wp2_with fail
        go_ret
        refine ⟨_, rfl, ?_, Below.setCells hgb _ _ _ HB.out⟩
        have hs := sl_cleared (w := wr) (g := g) (cap := c) (xs := dk) (base := base) (by rw [HDS.out]; exact HR.out) i (by rw [HDS.out]; omega) (zeros (m - i))
        rw [HI.out.kept, List.take_of_length_le (by rw [HM.out]; omega)] at hs
        exact hs
end Go.Proofs.Ytbpamllmbdcdfaa
