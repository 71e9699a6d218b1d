/-
  What a store tells of a node's links: placeOf, adjIn, sideOf, LinkCost, walked.
-/
import Derived.Test.YtcbkimbeljhbhaaGreatDoorGDoG
import Derived.Test.YtcbkimbeljhbhaaGreatDoorGDoF
import Derived.Test.YtcbkimbeljhbhaaGreatDoorGSrt
import Derived.Test.YtcbkimbeljhbhaaGreatDoorGStE
set_option linter.unusedVariables false
set_option linter.unusedSimpArgs false
namespace Go.Proofs.YtcbkimbeljhbhaaGreatDoor
open Go Go.RowKit

theorem place_hitA {xs : List Entry} {k : ByteArray} {p : Nat} (hp : p < xs.length) (h : ∀ j, (h : j < xs.length) → j < p → xs[j].key ≠ k) (he : xs[p].key = k) : placeE xs k = p := by
  unfold placeE
  have : (xs.findIdx? fun e => decide (e.key = k)) = some p := by
    rw [List.findIdx?_eq_some_iff_getElem]
    exact ⟨hp, decide_eq_true he, fun j hj => by have := h j (by omega) hj; simpa using this⟩
  rw [this]
theorem place_missA {xs : List Entry} {k : ByteArray} (h : ∀ j, (h : j < xs.length) → xs[j].key ≠ k) : placeE xs k = -1 := by
  refine placeE_none ?_
  unfold hasE
  rw [List.any_eq_false]
  intro e he
  obtain ⟨j, hj, rfl⟩ := List.getElem_of_mem he
  simpa using h j hj

set_option maxHeartbeats 1000000 in
theorem place_anyA (v : Value) (xs : List Entry) (k : ByteArray) (w : World) (h : Sl entR w v xs) :
    Calls Tryz.prog 69 #[v, .string k] w fun e w' => e = .returned (.int .i64 (placeE xs k)) ∧ w = w' := by
  have hl := h.len_le
  obtain ⟨A, c, rfl⟩ := h.form
  have H := Go.Lib.hid h
  clear h
  go_enter Tryz.func69, Tryz.ntmps69
  go_wp2_with fail
  go_loop [5] (fun i => ∃ p : Nat, p ≤ xs.length ∧ i = .int .i64 p ∧ ∀ j, (h : j < xs.length) → j < p → xs[j].key ≠ k) (fun i => xs.length - (intOf i).toNat)
  case atStart => exact ⟨0, Nat.zero_le _, rfl, fun j _ h => absurd h (by omega)⟩
  case round =>
    obtain ⟨p, hp, rfl, hall⟩ := hrel
    have HA := Go.Lib.hid hall
    clear hall
    by_cases hlt : p < xs.length
    · obtain ⟨b, off, rfl, hb⟩ := H.out.at_ hlt
      obtain ⟨f1, _, _, _, _⟩ := H.out.ent hlt
      go_wp2_with fail
      · go_ret
        have he : xs[p].key = k := by
          have := ‹(xs[p].key.toList == k.toList) = true›
          exact toList_inj (eq_of_beq this)
        exact ⟨ei (place_hitA hlt HA.out he).symm, rfl⟩
      · go_round
        case rel =>
          refine ⟨p + 1, by omega, by go_num, fun j hj hjp => ?_⟩
          by_cases e : j = p
          · subst e
            intro he
            have := ‹(xs[j].key.toList == k.toList) = false›
            rw [he] at this
            simp at this
          · exact HA.out j hj (by omega)
        case measure => simp [intOf]; omega
    · go_wp2_with fail
      go_ret
      exact ⟨ei (place_missA fun j hj => HA.out j hj (by omega)).symm, rfl⟩


def keyA (n : Nat) : ByteArray := bOf (97 :: 58 :: Lib.decDigits n)
theorem key_run (n : Nat) (h : (Lib.decDigits n).length ≤ 20) (w : World) : (Op.stringOp .add ⟨#[97, 58]⟩ (bOf (Lib.decDigits n))).run Tryz.prog w = .ok (.string (keyA n)) w := add_run [97, 58] (Lib.decDigits n) (by show 2 + _ ≤ _; omega) w
def adjAt (l : List Entry) (n : Nat) : Bool × List Side := match findE l (keyA n) with
  | none => (false, [])
  | some e => ((readAdj e.value.data.toList).1, (readAdj e.value.data.toList).2.1)
theorem readAdj_chk (s : List UInt8) : chkSides (readAdj s).2.1 = 0 := by
  unfold readAdj
  split
  · rfl
  · split
    · assumption
    · rfl
theorem adjAt_chk (l : List Entry) (n : Nat) : chkSides (adjAt l n).2 = 0 := by
  unfold adjAt
  split
  · rfl
  · exact readAdj_chk _
theorem adjAt_none {l : List Entry} {n : Nat} (h : placeE l (keyA n) = -1) : adjAt l n = (false, []) := by
  unfold adjAt
  have : findE l (keyA n) = none := by
    unfold placeE at h
    unfold findE
    rw [List.find?_eq_none]
    rcases hf : (l.findIdx? fun e => decide (e.key = keyA n)) with _ | i
    · rw [List.findIdx?_eq_none_iff] at hf
      intro x hx
      have := hf x hx
      simpa using this
    · rw [hf] at h; simp only at h; omega
  rw [this]
theorem adjAt_some {l : List Entry} {n i : Nat} (h : placeE l (keyA n) = i) : ∃ hi : i < l.length, adjAt l n = ((readAdj l[i].value.data.toList).1, (readAdj l[i].value.data.toList).2.1) := by
  unfold placeE at h
  rcases hf : (l.findIdx? fun e => decide (e.key = keyA n)) with _ | j
  · rw [hf] at h; simp only at h; omega
  · rw [hf] at h; simp only at h
    obtain rfl : j = i := by omega
    obtain ⟨hj, h1, h2⟩ := List.findIdx?_eq_some_iff_getElem.1 hf
    refine ⟨hj, ?_⟩
    unfold adjAt
    have : findE l (keyA n) = some l[j] := by
      unfold findE
      rw [List.find?_eq_some_iff_getElem]
      exact ⟨h1, j, hj, rfl, fun k hk => by simpa using h2 k hk⟩
    rw [this]
theorem placeE_ge (l : List Entry) (k : ByteArray) : -1 ≤ placeE l k := by
  unfold placeE
  split <;> omega
def sideC (l : List Side) (tgt : Int) : Int := match l.find? fun x => decide (x.node = tgt) with
  | some x => x.cost
  | none => 0
theorem sideC_hit {xs : List Side} {tgt : Int} {p : Nat} (hp : p < xs.length) (h : ∀ j, (h : j < xs.length) → j < p → xs[j].node ≠ tgt) (he : xs[p].node = tgt) : sideC xs tgt = xs[p].cost := by
  unfold sideC
  have : (xs.find? fun x => decide (x.node = tgt)) = some xs[p] := by
    rw [List.find?_eq_some_iff_getElem]
    exact ⟨decide_eq_true he, p, hp, rfl, fun k hk => by have := h k (by omega) hk; simpa using this⟩
  rw [this]
theorem sideC_miss {xs : List Side} {tgt : Int} (h : ∀ j, (h : j < xs.length) → xs[j].node ≠ tgt) : sideC xs tgt = 0 := by
  unfold sideC
  have : (xs.find? fun x => decide (x.node = tgt)) = none := by
    rw [List.find?_eq_none]
    intro x hx
    obtain ⟨j, hj, rfl⟩ := List.getElem_of_mem hx
    simpa using h j hj
  rw [this]
theorem sideC_le {xs : List Side} (h : chkSides xs = 0) (tgt : Int) : 0 ≤ sideC xs tgt ∧ sideC xs tgt ≤ 1000 := by
  unfold sideC
  split
  · rename_i x hx
    obtain ⟨i, hi, rfl⟩ := List.getElem_of_mem (List.mem_of_find?_eq_some hx)
    obtain ⟨_, _, h3, h4⟩ := sides_all h i hi
    omega
  · omega
def linkC (l : List Entry) (a b : Nat) : Nat := if a = b ∨ sideC (adjAt l b).2 a = 0 then 0 else (sideC (adjAt l a).2 b).toNat
theorem linkC_le (l : List Entry) (a b : Nat) : linkC l a b ≤ 1000 := by
  unfold linkC
  split
  · omega
  · have := sideC_le (adjAt_chk l a) b; omega

set_option maxRecDepth 50000 in
set_option maxHeartbeats 1000000 in
theorem sideOf_any (d : Bool) (v : Value) (xs : List Side) (tgt : Int) (w : World) (h : Sl sideR w v xs) :
    Calls Tryz.prog 125 #[.agg #[.bool d, v], .int .i64 tgt] w fun e w' => e = .returned (.int .i64 (sideC xs tgt)) ∧ Below w.heap.size w w' := by
  have hl := h.len_le
  obtain ⟨A, c, rfl⟩ := h.form
  have H := Go.Lib.hid h
  clear h
  go_enter Tryz.func125, Tryz.ntmps125
  go_wp2_with fail
  go_loopw [5] (fun i wr => ∃ p : Nat, p ≤ xs.length ∧ i = .int .i64 p ∧ Below w.heap.size w wr ∧ wr.cell? ⟨w.heap.size, 1, none⟩ = some (.slice A xs.length c) ∧ ∀ j, (h : j < xs.length) → j < p → xs[j].node ≠ tgt) (fun i _ => xs.length - (intOf i).toNat)
  case atStart =>
    refine ⟨0, Nat.zero_le _, rfl, (Below.refl _ _).alloc (Nat.le_refl _) _, ?_, fun j _ h => absurd h (by omega)⟩
    rw [World.cell?_alloc_at _ _ _ _ rfl]; rfl
  case round =>
    obtain ⟨p, hp, rfl, hB, hx, hall⟩ := hrel
    have HA := Go.Lib.hid hall
    have HB := Go.Lib.hid hB
    clear hall
    by_cases hlt : p < xs.length
    · obtain ⟨b, off, rfl, hb⟩ := H.out.at_ hlt
      obtain ⟨f1, f2, _, _⟩ := (H.out.below hB).side hlt
      have hlti : (p : Int) < (xs.length : Int) := by omega
      clear hB
      by_cases he : xs[p].node = tgt
      · have HS := Go.Lib.hid (sideC_hit hlt HA.out he)
        have heb : (xs[p].node == tgt) = true := by rw [beq_iff_eq]; exact he
        clear he
        go_wp2_with fail
        go_ret
        exact ⟨ei HS.out.symm, HB.out⟩
      · have HE := Go.Lib.hid he
        have heb : (xs[p].node == tgt) = false := by rw [beq_eq_false_iff_ne]; exact he
        clear he
        go_wp2_with fail
        go_roundw
        case rel =>
          refine ⟨p + 1, by omega, by go_num, HB.out, hx, fun j hj hjp => ?_⟩
          by_cases e : j = p
          · subst e; exact HE.out
          · exact HA.out j hj (by omega)
        case measure => simp [intOf]; omega
    · clear hB
      go_wp2_with fail
      go_ret
      exact ⟨ei (sideC_miss fun j hj => HA.out j hj (by omega)).symm, HB.out⟩

theorem sl_offS {w : World} {v : Value} {xs : List Side} {A : Nat} (h : Sl sideR w v xs) (hA : ∀ i k x, w.cell? ⟨A, i, none⟩ ≠ some (.int k x)) : SlR sideR w (fun k => k < w.heap.size ∧ k ≠ A) v xs := by
  obtain ⟨a, c, hv, h1, h2, h3⟩ := h
  refine ⟨a, c, hv, h1, h2, fun i x hx => ?_⟩
  obtain ⟨b, off, cs, e1, e2, e3, e4, e5⟩ := h3 i x hx
  refine ⟨b, off, cs, e1, ⟨e2, fun e => ?_⟩, e3, e4, e5⟩
  obtain ⟨rfl, _⟩ := e4
  subst e
  exact hA _ _ _ (e5 0 _ rfl)
theorem no_int {w1 w2 : World} {R : Nat} {d : Bool} (h : ∀ i, w1.cell? ⟨R, i, none⟩ = #[Value.bool d, .slice none 0 0][i]?) (hb : Below w1.heap.size w1 w2) (hR : R < w1.heap.size) (i : Nat) (k : IntKind) (x : Int) : w2.cell? ⟨R, i, none⟩ ≠ some (.int k x) := by
  rw [hb.cell (p := ⟨R, i, none⟩) hR, h i]
  match i with
  | 0 => simp
  | 1 => simp
  | i + 2 => simp

set_option maxRecDepth 50000 in
set_option maxHeartbeats 1000000 in
theorem adjIn_any (v : Value) (xs : List Entry) (n : Nat) (w : World) (h : Sl entR w v xs) (hn : n < 12) (hs : ∀ e ∈ xs, e.value.size < 4294967281) (hE : Env w) :
    Calls Tryz.prog 98 #[v, .int .i64 n] w fun e w' => (∃ v', e = .returned (.agg #[.bool (adjAt xs n).1, v']) ∧ Sl sideR w' v' (adjAt xs n).2) ∧ Below w.heap.size w w' := by
  have hl := h.len_le
  obtain ⟨A, c, rfl⟩ := h.form
  have H := Go.Lib.hid h
  have HE := Go.Lib.hid hE
  have HS := Go.Lib.hid hs
  clear h hE hs
  have RK := key_run n (by have := dec_len 4 n (by omega); omega)
  have HD := Go.Lib.hid (fun w => dec_any n w (by omega))
  have hb0 : Below w.heap.size w (w.alloc (.cells #[.bool false, .slice none 0 0] 53)) := (Below.refl _ _).alloc (Nat.le_refl _) _
  have HB0 := Go.Lib.hid hb0
  have hge := placeE_ge xs (keyA n)
  have HP := Go.Lib.hid (fun w h => place_anyA (.slice A xs.length c) xs (keyA n) w h)
  clear hb0
  by_cases hm : placeE xs (keyA n) = -1
  · have HA := Go.Lib.hid (adjAt_none hm)
    rw [hm] at HP
    clear hm hge
    go_enter Tryz.func98, Tryz.ntmps98
    go_wp2_with (first
      | (go_at_call 70; refine (HD.out _).mono ?_; rintro e w1 ⟨rfl, hb1⟩; obtain ⟨hA1, hN1, hF1, hS1⟩ := pastAlloc hb1; have z0 : w1.cell? ⟨w.heap.size, 0, none⟩ = some (.bool false) := hN1 0; have z1 : w1.cell? ⟨w.heap.size, 1, none⟩ = some (.slice none 0 0) := hN1 1; have z2 := hF1 0; have z3 := hF1 1; have HA1 := Go.Lib.hid hA1; clear hb1 hN1 hF1 hA1)
      | (go_at_call 69; refine (HP.out _ (H.out.below HA1.out)).mono ?_; rintro e w' ⟨rfl, rfl⟩))
    refine bodyPost_ret (v := .agg #[.bool false, .slice none 0 0]) (by simp [results, Tryz.results98, go_sem, z0, z1]) rfl ?_
    exact ⟨⟨_, by rw [HA.out], by rw [HA.out]; exact Sl.nil _ _⟩, (HA1.out.setCell (p := ⟨w.heap.size, 0, none⟩) (Nat.le_refl _) _).setCell (p := ⟨w.heap.size, 1, none⟩) (Nat.le_refl _) _⟩
  · obtain ⟨i, hi⟩ : ∃ i : Nat, placeE xs (keyA n) = i := ⟨(placeE xs (keyA n)).toNat, by omega⟩
    obtain ⟨hil, ha⟩ := adjAt_some hi
    have HA := Go.Lib.hid ha
    have HAO := Go.Lib.hid (fun w h => adjOf_any xs[i].value w (HS.out _ (List.getElem_mem hil)) h)
    rw [hi] at HP
    have hili : (i : Int) < (xs.length : Int) := by omega
    obtain ⟨b, off, rfl, hb⟩ := H.out.at_ hil
    obtain ⟨_, _, _, f3, _⟩ := H.out.ent hil
    have F3 := Go.Lib.hid f3
    clear hm hge hi ha f3
    go_enter Tryz.func98, Tryz.ntmps98
    go_wp2_with (first
      | (go_at_call 70; refine (HD.out _).mono ?_; rintro e w1 ⟨rfl, hb1⟩; obtain ⟨hA1, hN1, hF1, hS1⟩ := pastAlloc hb1; have z0 : w1.cell? ⟨w.heap.size, 0, none⟩ = some (.bool false) := hN1 0; have z1 : w1.cell? ⟨w.heap.size, 1, none⟩ = some (.slice none 0 0) := hN1 1; have z2 := hF1 0; have z3 := hF1 1; have f3 := cell_keep hA1 F3.out; have HA1 := Go.Lib.hid hA1; have BX0 := Go.Lib.hid hN1; have BX := Go.Lib.hid (show Box w1 w.heap.size false (.slice none 0 0) from ⟨z0, z1, hF1, hS1⟩); clear hb1 hN1 hF1 hA1)
      | (go_at_call 69; refine (HP.out _ (H.out.below HA1.out)).mono ?_; rintro e w' ⟨rfl, rfl⟩)
      | (go_at_call 124; refine (HAO.out _ (HE.out.below HA1.out)).mono ?_; rintro e w2 ⟨v2, rfl, hv2, hb2⟩; obtain ⟨A2, c2, rfl⟩ := hv2.form; have HV2 := Go.Lib.hid (hv2.below ((Below.refl w2.heap.size w2).alloc (Nat.le_refl _) (.cells #[.bool (readAdj xs[i].value.data.toList).1, .slice A2 (readAdj xs[i].value.data.toList).2.1.length c2] 53))); have hb3 := hb2.trans ((Below.refl w2.heap.size w2).alloc (Nat.le_refl _) (.cells #[.bool (readAdj xs[i].value.data.toList).1, .slice A2 (readAdj xs[i].value.data.toList).2.1.length c2] 53) |>.mono hb2.size); have HNI := Go.Lib.hid (fun i k x => no_int BX0.out hb3 hS1 i k x); obtain ⟨y0, y1, y2, y3⟩ := BX.out.below hb3; have y4 := y2 0; have y5 := y2 1; have HB3 := Go.Lib.hid (HA1.out.trans (hb3.mono HA1.out.size)); clear hb2 hb3 hv2 y2))
    refine bodyPost_ret (v := .agg #[.bool (readAdj xs[i].value.data.toList).1, .slice A2 (readAdj xs[i].value.data.toList).2.1.length c2]) (by simp [results, Tryz.results98, go_sem, y0, y1]) rfl ?_
    refine ⟨⟨_, by rw [HA.out], ?_⟩, (HB3.out.setCell (p := ⟨w.heap.size, 0, none⟩) (Nat.le_refl _) _).setCell (p := ⟨w.heap.size, 1, none⟩) (Nat.le_refl _) _⟩
    rw [HA.out]
    refine SlR.keep (sl_offS HV2.out (A := w.heap.size) (fun i k x => HNI.out i k x)) (fun q hq => ?_) (fun q hq => by simp [World.setCell]; have := hq.1; simpa using this)
    rw [Below.heap_setCell _ _ _ _ hq.2, Below.heap_setCell _ _ _ _ hq.2]

set_option maxRecDepth 50000 in
set_option maxHeartbeats 1000000 in
theorem link_any (v : Value) (xs : List Entry) (a b : Nat) (w : World) (h : Sl entR w v xs) (ha : a < 12) (hb : b < 12) (hs : ∀ e ∈ xs, e.value.size < 4294967281) (hE : Env w) :
    Calls Tryz.prog 99 #[v, .int .i64 a, .int .i64 b] w fun e w' => e = .returned (.int .i64 (linkC xs a b : Nat)) ∧ Below w.heap.size w w' := by
  have hl := h.len_le
  obtain ⟨A, c, rfl⟩ := h.form
  have H := Go.Lib.hid h
  have HE := Go.Lib.hid hE
  have HIN := Go.Lib.hid (fun n hn w' (hb : Below w.heap.size w w') => adjIn_any (.slice A xs.length c) xs n w' (h.below hb) hn hs (hE.below hb))
  clear h hE hs
  by_cases hab : a = b
  · have hi : ((a : Int) == (b : Int)) = true := by rw [beq_iff_eq]; omega
    have HL := Go.Lib.hid (show linkC xs a b = 0 by unfold linkC; rw [if_pos (.inl hab)])
    go_enter Tryz.func99, Tryz.ntmps99
    go_wp2_with fail
    go_ret
    exact ⟨by rw [HL.out]; rfl, Below.refl _ _⟩
  · have hi : ((a : Int) == (b : Int)) = false := by rw [beq_eq_false_iff_ne]; omega
    have HSA := Go.Lib.hid (sideC_le (adjAt_chk xs a) b)
    have HSB := Go.Lib.hid (sideC_le (adjAt_chk xs b) a)
    have hlk : linkC xs a b = if sideC (adjAt xs b).2 a = 0 then 0 else (sideC (adjAt xs a).2 b).toNat := by
      unfold linkC
      by_cases h0 : sideC (adjAt xs b).2 a = 0
      · rw [if_pos (.inr h0), if_pos h0]
      · rw [if_neg (by rintro (e | e); · exact hab e
                       · exact h0 e), if_neg h0]
    have HL := Go.Lib.hid hlk
    have HA := Go.Lib.hid (HIN.out a ha)
    have HB := Go.Lib.hid (HIN.out b hb)
    clear hlk
    by_cases h0 : sideC (adjAt xs b).2 a = 0
    · have HSO := Go.Lib.hid (fun d v w h => (by have := sideOf_any d v (adjAt xs b).2 a w h; rw [h0] at this; exact this : Calls Tryz.prog 125 #[.agg #[.bool d, v], .int .i64 a] w fun e w' => e = .returned (.int .i64 0) ∧ Below w.heap.size w w'))
      rw [if_pos h0] at HL
      clear h0
      go_enter Tryz.func99, Tryz.ntmps99
      go_wp2_with (first
        | (go_at_call 98; refine (HB.out _ (Below.refl _ _)).mono ?_; rintro e w1 ⟨⟨v1, rfl, hv1⟩, hb1⟩)
        | (go_at_call 125; refine (HSO.out _ _ _ hv1).mono ?_; rintro e w2 ⟨rfl, hb2⟩))
      go_ret
      exact ⟨by rw [HL.out]; rfl, hb1.trans (hb2.mono hb1.size)⟩
    · have h0b : (sideC (adjAt xs b).2 a == 0) = false := by rw [beq_eq_false_iff_ne]; exact h0
      have HSO := Go.Lib.hid (fun d v w h => sideOf_any d v (adjAt xs b).2 a w h)
      have HSP := Go.Lib.hid (fun d v w h => sideOf_any d v (adjAt xs a).2 b w h)
      rw [if_neg h0] at HL
      generalize sideC (adjAt xs b).2 a = X at *
      clear h0
      go_enter Tryz.func99, Tryz.ntmps99
      go_wp2_with (first
        | (go_at_call 98; have U' := U; refine (HA.out _ HX2.out).mono ?_; rintro e w3 ⟨⟨v3, rfl, hv3⟩, hb3⟩)
        | (go_at_call 98; refine (HB.out _ (Below.refl _ _)).mono ?_; rintro e w1 ⟨⟨v1, rfl, hv1⟩, hb1⟩)
        | (go_at_call 125; have U' := U; refine (HSP.out _ _ _ hv3).mono ?_; rintro e w4 ⟨rfl, hb4⟩)
        | (go_at_call 125; refine (HSO.out _ _ _ hv1).mono ?_; rintro e w2 ⟨rfl, hb2⟩; have U := trivial; have HX2 := Go.Lib.hid (hb1.trans (hb2.mono hb1.size))))
      go_ret
      have hx3 := HX2.out.trans (hb3.mono HX2.out.size)
      exact ⟨by rw [HL.out, Int.toNat_of_nonneg HSA.out.1]; rfl, hx3.trans (hb4.mono hx3.size)⟩
end Go.Proofs.YtcbkimbeljhbhaaGreatDoor
