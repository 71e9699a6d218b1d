/-
  Walks of the store layer, part I: StoreBytes.
-/
import Derived.Test.YtbpamllmbdcdfaaStH
namespace Go.Proofs.Ytbpamllmbdcdfaa
open Go.RowKit Go.Deep

theorem Sl.ent_of {w : World} {b off c n : Nat} {xs : List Entry} (h : Sl entR w (.slice (some ⟨b, off, none⟩) n c) xs) {k : Nat} (hk : k < xs.length) {y : Entry} (hy : xs[k] = y) :
    w.cell? ⟨b, off + k * 4, none⟩ = some (.string y.key) ∧ w.cell? ⟨b, off + k * 4 + 1, none⟩ = some (.int .i64 y.version) ∧
    w.cell? ⟨b, off + k * 4 + 2, none⟩ = some (.int .i64 y.origin) ∧ w.cell? ⟨b, off + k * 4 + 3, none⟩ = some (.string y.value) := by
  subst hy
  obtain ⟨a, b, c, d, _⟩ := h.ent hk
  exact ⟨a, b, c, d⟩

theorem gbB {B : Nat} {w w' w'' : World} {v' v'' : Value} {ys : List UInt8} (hb : Below B w w') (ho : OwR byteR 5 B w' v' ys) (hg : GrowTo w' v' w'' v'') : Below B w w'' := hb.trans (hg.below ho.choose_spec.2.2.2 (fun k hk => (ho.base_le k hk).1))

set_option maxRecDepth 100000 in
set_option maxHeartbeats 2000000 in
theorem storeBytes_any (v : Value) (xs : List Entry) (w : World) (h : Sl entR w v xs) : Calls Try.prog 35 #[v] w (EncPost xs w) := by
  have hlen := h.len_le
  obtain ⟨A, c, rfl⟩ := h.form
  have H := Go.Lib.hid h
  clear h
  go_enter Try.func35, Try.ntmps35
  go_wp2_with fail
  refine (fault_any _ xs _ H.out).mono ?_
  rintro r w1 ⟨rfl, hb1⟩
  have HB1 := Go.Lib.hid hb1
  have hz1 := hb1.size
  clear hb1
  by_cases hc : checkS xs = 0
  · have t1 : (checkS xs != 0) = false := by simp [hc]
    have hok := okS_of hc
    have HOK := Go.Lib.hid hok
    have HC := Go.Lib.hid hc
    have hl60 := hok.len
    have hlb : OwR byteR 5 w.heap.size (w1.alloc (.cells #[.int .u8 116, .int .u8 (xs.length : Int)] 5)) (.slice (some ⟨w1.heap.size, 0, none⟩) 2 2) (encTo xs 0) := by
      have := lit_bytes (w := w1) (E := 5) (base := w.heap.size) [116, (xs.length : Int)] (by intro x hx; simp at hx; rcases hx with rfl | rfl <;> omega) (by simp; decide) hz1
      exact this
    have HLB := Go.Lib.hid hlb
    have hbb : Below w.heap.size w (w1.alloc (.cells #[.int .u8 116, .int .u8 (xs.length : Int)] 5)) := HB1.out.alloc hz1 _
    have HBB := Go.Lib.hid hbb
    clear hok hc hlb hbb
    go_wp2_with fail
    go_loopw [5, 6] (fun s5 s6 wr => ∃ k : Nat, k ≤ xs.length ∧ s6 = .int .i64 k ∧ Below w.heap.size w wr ∧ OwR byteR 5 w.heap.size wr s5 (encTo xs k)) (fun _ s6 _ => xs.length - (intOf s6).toNat)
    case atStart => exact ⟨0, Nat.zero_le _, rfl, HBB.out, HLB.out⟩
    case round =>
      obtain ⟨k, hk, rfl, hB, hown⟩ := hrel
      have HB := Go.Lib.hid hB
      have HOWN := Go.Lib.hid hown
      have hlk := encTo_len HOK.out.ok k hk
      by_cases hlt : k < xs.length
      · obtain ⟨b, off, rfl, hb⟩ := H.out.at_ hlt
        have hez := hB.size
        have hyo := entryOk_bounds (HOK.out.ok xs[k] (List.getElem_mem hlt))
        have hsucc := encTo_succ xs k hlt
        obtain ⟨y, hy⟩ : ∃ y, xs[k] = y := ⟨_, rfl⟩
        rw [hy] at hyo hsucc
        obtain ⟨y1, y2, y3, y4, y5, y6, y7⟩ := hyo
        have hent := fun (w' : World) (hb' : Below w.heap.size w w') => (H.out.below hb').ent_of hlt hy
        have HENT := Go.Lib.hid hent
        obtain ⟨f1, f2, f3, f4⟩ := hent wr hB
        have HSUC := Go.Lib.hid hsucc
        obtain ⟨L, hL⟩ : ∃ L, encTo xs k = L := ⟨_, rfl⟩
        rw [hL] at hlk hown hsucc
        have HL := Go.Lib.hid hL
        have HOW := Go.Lib.hid hown
        have hsl := sev_len y.version.toNat 6 (by omega)
        have hkl : y.key.data.toList.length = y.key.size := size_toList _
        have hn1 : L.length + [b8 y.key.size].length ≤ 140737488355328 := by simp only [List.length_append, List.length_cons, List.length_nil]; omega
        have hn2 : (L ++ [b8 y.key.size]).length + y.key.size ≤ 140737488355328 := by simp only [List.length_append, List.length_cons, List.length_nil]; omega
        have hn3 : ((L ++ [b8 y.key.size]) ++ y.key.data.toList).length + (sev y.version.toNat).length ≤ 140737488355328 := by simp only [List.length_append, List.length_cons, List.length_nil]; omega
        have hn4 : (((L ++ [b8 y.key.size]) ++ y.key.data.toList) ++ sev y.version.toNat).length + [b8 y.origin, b8 y.value.size].length ≤ 140737488355328 := by simp only [List.length_append, List.length_cons, List.length_nil]; omega
        have hn5 : ((((L ++ [b8 y.key.size]) ++ y.key.data.toList) ++ sev y.version.toNat) ++ [b8 y.origin, b8 y.value.size]).length + y.value.size ≤ 140737488355328 := by simp only [List.length_append, List.length_cons, List.length_nil]; omega
        have HN1 := Go.Lib.hid hn1
        have HN2 := Go.Lib.hid hn2
        have HN3 := Go.Lib.hid hn3
        have HN4 := Go.Lib.hid hn4
        have HN5 := Go.Lib.hid hn5
        have hver : ((y.version.toNat : Nat) : Int) = y.version := Int.toNat_of_nonneg (by omega)
        have hsev := fun w' => sevens_any y.version.toNat w' (by omega)
        rw [hver] at hsev
        have SEV := Go.Lib.hid hsev
        have hone := one_byte (w := wr) (E := 5) (x := (y.key.size : Int)) (by omega) (by omega)
        have HONE := Go.Lib.hid hone
        have htwo : ∀ w4 : World, SlR byteR (w4.alloc (.cells #[.int .u8 y.origin, .int .u8 (y.value.size : Int)] 5)) (fun k => k < w4.heap.size + 1) (.slice (some ⟨w4.heap.size, 0, none⟩) 2 2) [b8 y.origin, b8 y.value.size] := fun w4 =>
          some_bytes (w := w4) (E := 5) [y.origin, (y.value.size : Int)] (by intro x hx; simp at hx; rcases hx with rfl | rfl <;> omega) (by simp; decide)
        have HTWO := Go.Lib.hid htwo
        have w1' : IntKind.u8.wrap (y.key.size : Int) = (y.key.size : Int) := by rw [IntKind.wrap_u8]; omega
        have w2' : IntKind.u8.wrap y.origin = y.origin := by rw [IntKind.wrap_u8]; omega
        have w3' : IntKind.u8.wrap (y.value.size : Int) = (y.value.size : Int) := by rw [IntKind.wrap_u8]; omega
        have q0 : (0 : Int) ≤ (k : Int) := Int.natCast_nonneg _
        have q1 : (k : Int) < (xs.length : Int) := by omega
        clear hy hB hlk hsucc hL hent hsl hkl hn1 hn2 hn3 hn4 hn5 hver hsev hone htwo hown
        go_wp2_with (first
          | (at_builtin; refine wpList_bytes (base := w.heap.size) rfl (.tmp 22) (.tmp 30) rfl (HOW.out.alloc1 _) HONE.out rfl rfl HN1.out ?_; intro v1 w2 ho1 hg1; have B1 := Go.Lib.hid (gbB (HB.out.alloc hez _) (HOW.out.alloc1 _) hg1); obtain ⟨g1, g2, g3, g4⟩ := HENT.out w2 B1.out)
          | (at_builtin; refine wpList_str (base := w.heap.size) rfl (.tmp 32) (.tmp 37) rfl ho1 rfl rfl HN2.out ?_; intro v2 w3 ho2 hg2; have B2 := Go.Lib.hid (gbB B1.out ho1 hg2); obtain ⟨p1, p2, p3, p4⟩ := HENT.out w3 B2.out)
          | (go_at_call 79; refine (SEV.out _).mono ?_; rintro e w4 ⟨v3, rfl, ho3, hb3⟩; have B3 := Go.Lib.hid (B2.out.trans (hb3.mono B2.out.size)); have O3 := Go.Lib.hid (ho2.keep hb3); obtain ⟨r1, r2, r3, r4⟩ := HENT.out w4 B3.out)
          | (at_builtin; refine wpList_bytes (base := w.heap.size) rfl (.tmp 39) (.tmp 45) rfl O3.out (ho3.sl (by decide)) rfl rfl HN3.out ?_; intro v4 w5 ho4 hg4; have B4 := Go.Lib.hid (gbB B3.out O3.out hg4); obtain ⟨s1, s2, s3, s4⟩ := HENT.out w5 B4.out))
        clear f1 f2 f3 f4 g1 g2 g3 g4 p1 p2 p3 p4 r1 r2 r3 r4 w1'
        have OD := Go.Lib.hid ((ho4.alloc1 (.cells #[.int .u8 y.origin, .int .u8 (y.value.size : Int)] 5)).drew1)
        have BD := Go.Lib.hid ((B4.out.alloc B4.out.size (.cells #[.int .u8 y.origin, .int .u8 (y.value.size : Int)] 5)).drew)
        have SD := Go.Lib.hid (HTWO.out w5)
        go_region_held3 (fun w' => w'.cell? ⟨b, off + k * 4 + 2, none⟩ = some (.int .i64 y.origin) ∧ w'.cell? ⟨b, off + k * 4 + 3, none⟩ = some (.string y.value)) (first | go_keep | exact ⟨k3, k4⟩)
          (first
            | (refine step_bytes (base := w.heap.size) (by rfl) (.tmp 47) (.tmp 61) (by rfl) OD.out SD.out (by rfl) (by rfl) HN4.out ?_; intro v5 w6 ho5 hg5; have B5 := Go.Lib.hid (gbB BD.out OD.out hg5); obtain ⟨k1, k2, k3, k4⟩ := HENT.out w6 B5.out))
        clear s1 s2 s3 s4 w2' w3'
        go_wp2_with (first
          | (at_builtin; refine wpList_str (base := w.heap.size) rfl (.tmp 63) (.tmp 68) rfl ho5 rfl rfl HN5.out ?_; intro v6 w7 ho6 hg6; have B6 := Go.Lib.hid (gbB B5.out ho5 hg6)))
        go_roundw
        case rel =>
          refine ⟨k + 1, by omega, by go_num, B6.out, ?_⟩
          rw [HSUC.out, HL.out]
          have e : (((((L ++ [b8 y.key.size]) ++ y.key.data.toList) ++ sev y.version.toNat) ++ [b8 y.origin, b8 y.value.size]) ++ y.value.data.toList) = L ++ encE y := by
            unfold encE; simp
          rw [← e]; exact ho6
        case measure => simp [intOf]; omega
      · have hend := encTo_end xs k (by omega)
        rw [hend] at hown hlk
        have hlk' : (encB xs).length ≤ 10000 := by omega
        obtain ⟨B, hB2⟩ : ∃ B, encB xs = B := ⟨_, rfl⟩
        have hes : encR xs = B ++ sealB B := by unfold encR encS; rw [if_pos HC.out, hB2]
        rw [hB2] at hown hlk'
        have hseal := seal_any u5 B wr (hown.sl (by decide))
        have hn6 : B.length + (sealB B).length ≤ 140737488355328 := by simp [sealB]; omega
        have HSEAL := Go.Lib.hid hseal
        have HES := Go.Lib.hid hes
        have HOWB := Go.Lib.hid hown
        have HN6 := Go.Lib.hid hn6
        have hez := hB.size
        have HEZ := Go.Lib.hid hez
        clear hend hlk hB2 hes hown hseal hn6 hlk' hB
        go_wp2_with fail
        refine HSEAL.out.mono ?_
        rintro e w2 ⟨v1, rfl, ho1, hb1⟩
        have HO := Go.Lib.hid (HOWB.out.keep hb1)
        have HSRC := Go.Lib.hid (ho1.sl (by decide))
        have HB2 := Go.Lib.hid (HB.out.trans (hb1.mono HEZ.out))
        clear ho1 hb1
        go_wp2_with (at_builtin; refine wpList_bytes (base := w.heap.size) rfl (.tmp 70) (.tmp 72) rfl HO.out HSRC.out rfl rfl HN6.out ?_; intro v2 w3 ho2 hg2)
        go_ret2
        exact ⟨v2, by rw [HC.out]; rfl, by rw [HES.out]; exact ho2, HB2.out.trans (hg2.below HB2.out.size (fun k hk => (HO.out.base_le k hk).1))⟩
  · have t1 : (checkS xs != 0) = true := by simp [hc]
    have hen : encR xs = [] := by unfold encR; rw [if_neg hc]
    have HE := Go.Lib.hid hen
    clear hc hen
    go_wp2_with fail
    go_ret2
    exact ⟨.slice none 0 0, rfl, by rw [HE.out]; exact OwR.nil _ _ HB1.out.size, HB1.out⟩
end Go.Proofs.Ytbpamllmbdcdfaa
