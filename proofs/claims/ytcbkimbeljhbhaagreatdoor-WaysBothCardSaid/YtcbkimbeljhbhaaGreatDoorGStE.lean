/-
  '==' of entries, of prefixes: what the model answers at them.
  Walks of the store layer, part D: find, Get, placeOf, GotOf.
  Walks of the store layer, part E: Get, placeOf, GotOf.
-/
import Derived.Test.YtcbkimbeljhbhaaGreatDoorGOwn
import Derived.Laws.StructEq
import Derived.Test.YtcbkimbeljhbhaaGreatDoorGStC
import Derived.Test.YtcbkimbeljhbhaaGreatDoorGSrt
set_option linter.unusedVariables false
set_option linter.unusedSimpArgs false
namespace Go.Proofs.YtcbkimbeljhbhaaGreatDoor
open Go.RowKit

def sameE (x y : Entry) : Bool := x.key.toList == y.key.toList && (x.version == y.version && (x.origin == y.origin && x.value.toList == y.value.toList))
theorem sameE_refl (x : Entry) : sameE x x = true := by simp [sameE]
theorem toList_inj {a b : ByteArray} (h : a.toList = b.toList) : a = b := by
  rw [ByteArray.toList_eq, ByteArray.toList_eq] at h
  exact ByteArray.ext (Array.toList_inj.1 h)
theorem sameE_iff (x y : Entry) : sameE x y = true ↔ x = y := by
  constructor
  · intro h
    simp only [sameE, Bool.and_eq_true, beq_iff_eq] at h
    obtain ⟨h1, h2, h3, h4⟩ := h
    cases x; cases y
    simp only at h1 h2 h3 h4
    rw [toList_inj h1, h2, h3, toList_inj h4]
  · rintro rfl; exact sameE_refl x

theorem eql_ent (x y : Entry) (w : World) :
    (binOp .eql 50 (.agg #[.string x.key, .int .i64 x.version, .int .i64 x.origin, .string x.value]) (.agg #[.string y.key, .int .i64 y.version, .int .i64 y.origin, .string y.value])).run Tryz.prog w = .ok (.bool (sameE x y)) w := by
  have hS : Tryz.prog.underlying 50 = some (.struct (Tryz.prog.fieldsOf 50)) := by kernel_rfl
  have hp : Tryz.prog.stoodInHeld 50 = false := by kernel_rfl
  have u3 := Tryz.underlying3
  have a3 := Tryz.isAgg3
  have z3 := Tryz.sizeOf3
  have u9 := Tryz.underlying9
  have a9 := Tryz.isAgg9
  have z9 := Tryz.sizeOf9
  rw [run_eql_struct, show (10000 : Nat) = 9999 + 1 from rfl, run_equalIn_agg w 9999 50 _ _ hS hp]
  simp only [Program.fieldsOf, Tryz.underlying50]
  go_simp
  unfold sameE
  by_cases h1 : x.key.toList = y.key.toList <;> by_cases h2 : x.version = y.version <;> by_cases h3 : x.origin = y.origin <;> by_cases h4 : x.value.toList = y.value.toList <;> simp [h1, h2, h3, h4]
theorem neq_ent (x y : Entry) (w : World) :
    (binOp .neq 50 (.agg #[.string x.key, .int .i64 x.version, .int .i64 x.origin, .string x.value]) (.agg #[.string y.key, .int .i64 y.version, .int .i64 y.origin, .string y.value])).run Tryz.prog w = .ok (.bool (!sameE x y)) w := by
  have hS : Tryz.prog.underlying 50 = some (.struct (Tryz.prog.fieldsOf 50)) := by kernel_rfl
  have hp : Tryz.prog.stoodInHeld 50 = false := by kernel_rfl
  have u3 := Tryz.underlying3
  have a3 := Tryz.isAgg3
  have z3 := Tryz.sizeOf3
  have u9 := Tryz.underlying9
  have a9 := Tryz.isAgg9
  have z9 := Tryz.sizeOf9
  rw [run_neq_struct, show (10000 : Nat) = 9999 + 1 from rfl, run_equalIn_agg w 9999 50 _ _ hS hp]
  simp only [Program.fieldsOf, Tryz.underlying50]
  go_simp
  unfold sameE
  by_cases h1 : x.key.toList = y.key.toList <;> by_cases h2 : x.version = y.version <;> by_cases h3 : x.origin = y.origin <;> by_cases h4 : x.value.toList = y.value.toList <;> simp [h1, h2, h3, h4]
theorem guard_ent (op : BinOp) (a b : Operand) (x y : Array Value) (w : World) : (eqGuard op 50 a b (.agg x) (.agg y)).run Tryz.prog w = .ok () w :=
  run_eqGuard_agg w op _ a b x y (by kernel_rfl)
end Go.Proofs.YtcbkimbeljhbhaaGreatDoor

namespace Go.Proofs.YtcbkimbeljhbhaaGreatDoor
open Go.RowKit

theorem cmpB_neg (a b : ByteArray) : cmpB a b < 0 ↔ ltB a b = true := by
  unfold cmpB
  rcases e : ltB a b with _ | _
  · simp only [Bool.false_eq_true, if_false, iff_false]
    split <;> omega
  · simp
theorem cmpB_zero (a b : ByteArray) : cmpB a b = 0 ↔ a = b := by
  unfold cmpB
  constructor
  · intro h
    rcases e : ltB a b with _ | _
    · rcases e2 : ltB b a with _ | _
      · exact ltB_total e e2
      · simp [e, e2] at h
    · simp [e] at h
  · rintro rfl
    simp [ltB_irrefl]

set_option maxHeartbeats 400000 in
theorem findC_any (e : Entry) (k : ByteArray) (w : World) : Calls Tryz.prog 105 #[e.val, .string k] w fun r w' => r = .returned (.int .i64 (cmpB e.key k)) ∧ Below w.heap.size w w' := by
  unfold Entry.val
  have hB : Below w.heap.size w (w.alloc (.cells #[.string e.key, .int .i64 e.version, .int .i64 e.origin, .string e.value] 50)) := (Below.refl _ _).alloc (Nat.le_refl _) _
  have HB := Go.Lib.hid hB
  clear hB
  go_enter Tryz.func105, Tryz.ntmps105
  go_wp2_with (go_at_call 106; refine (cmpStr_any _ _ _).mono ?_; rintro e w' ⟨rfl, rfl⟩)
  go_ret
  exact ⟨rfl, HB.out⟩

set_option maxRecDepth 100000 in
set_option maxHeartbeats 1000000 in
theorem bsearch_any (v : Value) (xs : List Entry) (k : ByteArray) (w : World) (h : Sl entR w v xs) (hord : xs.Pairwise ltE) (hl : xs.length ≤ 4611686018427387903) :
    Calls Tryz.prog 104 #[v, .string k, .func (.func 105) #[] #[]] w fun e w' => e = .returned (.tuple #[.int .i64 (lbE xs k : Nat), .bool (hasE xs k)]) ∧ Below w.heap.size w w' := by
  obtain ⟨A, c, rfl⟩ := h.form
  have H := Go.Lib.hid h
  have HO := Go.Lib.hid hord
  clear h hord
  go_enter Tryz.func104, Tryz.ntmps104
  go_wp2_with fail
  go_loopw [9, 10, 11] (fun i j _ wr => ∃ lo hi : Nat, i = .int .i64 lo ∧ j = .int .i64 hi ∧ lo ≤ hi ∧ hi ≤ xs.length ∧ Below w.heap.size w wr ∧ (∀ t, (h : t < xs.length) → t < lo → ltB xs[t].key k = true) ∧ (∀ t, (h : t < xs.length) → hi ≤ t → ltB xs[t].key k = false)) (fun i j _ _ => (intOf j).toNat - (intOf i).toNat)
  case atStart => exact ⟨0, xs.length, rfl, rfl, Nat.zero_le _, Nat.le_refl _, Below.refl _ _, fun t _ ht => absurd ht (Nat.not_lt_zero _), fun t h1 h2 => by omega⟩
  case round =>
    obtain ⟨lo, hi, rfl, rfl, hlh, hin, hB, hI1, hI2⟩ := hrel
    have I1 := Go.Lib.hid hI1
    have I2 := Go.Lib.hid hI2
    clear hI1 hI2
    by_cases hlt : lo < hi
    · have hm : (lo + hi) / 2 < xs.length := by omega
      obtain ⟨b, off, rfl, hb⟩ := H.out.at_ hm
      obtain ⟨f1, f2, f3, f4, _⟩ := (H.out.below hB).ent hm
      obtain ⟨y, hy⟩ : ∃ y, xs[(lo + hi) / 2] = y := ⟨_, rfl⟩
      rw [hy] at f1 f2 f3 f4
      have Y := Go.Lib.hid hy
      have HB := Go.Lib.hid hB
      clear hy hB
      go_wp2_with fail
      refine (findC_any y k _).mono ?_
      rintro r w1 ⟨rfl, hb1⟩
      have HB1 := Go.Lib.hid (HB.out.trans (hb1.mono HB.out.size))
      clear hb1 f1 f2 f3 f4
      by_cases hc : cmpB y.key k < 0
      · have hlt' := (cmpB_neg _ _).1 hc
        have HL := Go.Lib.hid hlt'
        clear hlt'
        go_wp2_with fail
        go_roundw
        case rel =>
          refine ⟨(lo + hi) / 2 + 1, hi, by first | go_num | (rw [show ((lo : Int) + (hi : Int)) / 2 + 1 = (((lo + hi) / 2 + 1 : Nat) : Int) by omega]), rfl, by omega, hin, HB1.out, fun t ht htl => ?_, I2.out⟩
          exact lt_iff HO.out (by omega) hm (by rw [Y.out]; exact HL.out)
        case measure => simp [intOf]; omega
      · have hge : ltB y.key k = false := by rw [Bool.eq_false_iff]; intro e; exact hc ((cmpB_neg _ _).2 e)
        have HL := Go.Lib.hid hge
        clear hge
        go_wp2_with fail
        go_roundw
        case rel =>
          refine ⟨lo, (lo + hi) / 2, rfl, by first | go_num | (rw [show ((lo : Int) + (hi : Int)) / 2 = (((lo + hi) / 2 : Nat) : Int) by omega]), by omega, by omega, HB1.out, I1.out, fun t ht htl => ?_⟩
          rw [Bool.eq_false_iff]
          intro e
          have := lt_iff HO.out htl ht e
          rw [Y.out, HL.out] at this
          cases this
        case measure => simp [intOf]; omega
    · obtain rfl : lo = hi := by omega
      have hlb : lbE xs k = lo := lbE_eq xs k lo hin I1.out (fun h => I2.out lo h (Nat.le_refl _))
      have HLB := Go.Lib.hid hlb
      have HB := Go.Lib.hid hB
      clear hlb hB
      by_cases hn : lo < xs.length
      · obtain ⟨b, off, rfl, hb⟩ := H.out.at_ hn
        obtain ⟨f1, f2, f3, f4, _⟩ := (H.out.below HB.out).ent hn
        have hhas := hasE_iff HO.out k
        rw [HLB.out] at hhas
        obtain ⟨y, hy⟩ : ∃ y, xs[lo] = y := ⟨_, rfl⟩
        rw [hy] at f1 f2 f3 f4
        have hh : hasE xs k = true ↔ cmpB y.key k = 0 := by rw [hhas, cmpB_zero, ← hy]; exact ⟨fun ⟨_, h⟩ => h, fun h => ⟨hn, h⟩⟩
        have HH := Go.Lib.hid hh
        clear hhas hy hh
        go_wp2_with fail
        refine (findC_any y k _).mono ?_
        rintro r w1 ⟨rfl, hb1⟩
        have HB1 := Go.Lib.hid (HB.out.trans (hb1.mono HB.out.size))
        clear hb1 f1 f2 f3 f4
        go_wp2_with fail
        go_ret2
        refine ⟨?_, HB1.out⟩
        have : hasE xs k = (cmpB y.key k == 0) := by rw [Bool.eq_iff_iff, HH.out, beq_iff_eq]
        rw [HLB.out, this]
        rfl
      · go_wp2_with fail
        go_ret2
        refine ⟨?_, HB.out⟩
        have : hasE xs k = false := by
          rw [Bool.eq_false_iff]
          intro e
          obtain ⟨h1, _⟩ := (hasE_iff HO.out k).1 e
          rw [HLB.out] at h1
          exact hn h1
        rw [this, HLB.out]
        rfl

set_option maxHeartbeats 400000 in
theorem find_any (v : Value) (xs : List Entry) (k : ByteArray) (w : World) (h : Sl entR w v xs) (hord : xs.Pairwise ltE) (hl : xs.length ≤ 4611686018427387903) :
    Calls Tryz.prog 75 #[v, .string k] w fun e w' => e = .returned (.tuple #[.int .i64 (lbE xs k : Nat), .bool (hasE xs k)]) ∧ Below w.heap.size w w' := by
  have H := Go.Lib.hid (bsearch_any v xs k w h hord hl)
  clear h hord
  go_enter Tryz.func75, Tryz.ntmps75
  go_wp2_with fail
  refine H.out.mono ?_
  rintro r w1 ⟨rfl, hb1⟩
  have HB1 := Go.Lib.hid hb1
  clear hb1
  go_wp2_with fail
  go_ret2
  exact ⟨rfl, HB1.out⟩
end Go.Proofs.YtcbkimbeljhbhaaGreatDoor

namespace Go.Proofs.YtcbkimbeljhbhaaGreatDoor
open Go.RowKit

theorem b4 {w w1 : World} (h : Below w.heap.size w w1) (a b c d : Value) :
    Below w.heap.size w ((((w1.setCell ⟨w.heap.size, 0, none⟩ a).setCell ⟨w.heap.size, 1, none⟩ b).setCell ⟨w.heap.size, 2, none⟩ c).setCell ⟨w.heap.size, 3, none⟩ d) :=
  (((h.setCell (Nat.le_refl _) _).setCell (Nat.le_refl _) _).setCell (Nat.le_refl _) _).setCell (Nat.le_refl _) _
def zeroE : Entry := ⟨⟨#[]⟩, 0, 0, ⟨#[]⟩⟩
def getS (xs : List Entry) (k : ByteArray) : Entry × Int :=
  if checkS xs = 0 then (match findE xs k with | some e => (e, 0) | none => (zeroE, 6)) else (zeroE, checkS xs)
theorem getS_bad {xs : List Entry} {k : ByteArray} (h : checkS xs ≠ 0) : getS xs k = (zeroE, checkS xs) := by unfold getS; rw [if_neg h]
theorem getS_none {xs : List Entry} {k : ByteArray} (h : checkS xs = 0) (h2 : hasE xs k = false) : getS xs k = (zeroE, 6) := by unfold getS; rw [if_pos h, findE_none h2]
theorem getS_some {xs : List Entry} {k : ByteArray} (h : checkS xs = 0) (h2 : hasE xs k = true) : ∃ hl : lbE xs k < xs.length, getS xs k = (xs[lbE xs k], 0) := by
  obtain ⟨hl, hk⟩ := (hasE_iff (okS_of h).ord k).1 h2
  exact ⟨hl, by unfold getS; rw [if_pos h, findE_some (okS_of h).ord k hl hk]⟩
theorem er2 {a b a' b' : Value} (h : a = b) (h' : a' = b') : Ending.returned (.tuple #[a, a']) = .returned (.tuple #[b, b']) := by rw [h, h']

set_option maxHeartbeats 1000000 in
theorem get_any (v : Value) (xs : List Entry) (k : ByteArray) (w : World) (h : Sl entR w v xs) :
    Calls Tryz.prog 39 #[v, .string k] w fun e w' => e = .returned (.tuple #[(getS xs k).1.val, .int .i64 (getS xs k).2]) ∧ Below w.heap.size w w' := by
  have hB0 : Below w.heap.size w (w.alloc (.cells #[.string ⟨#[]⟩, .int .i64 0, .int .i64 0, .string ⟨#[]⟩] 50)) := (Below.refl _ _).alloc (Nat.le_refl _) _
  have H0 := Go.Lib.hid (h.below hB0)
  obtain ⟨A, c, rfl⟩ := h.form
  have H := Go.Lib.hid h
  clear h hB0
  go_enter Tryz.func39, Tryz.ntmps39
  go_wp2_with fail
  refine (check_any _ xs _ H0.out).mono ?_
  rintro r w1 ⟨rfl, hb1⟩
  obtain ⟨hA, hN, hM, hS⟩ := pastAlloc hb1
  have HA := Go.Lib.hid hA
  have H1 := Go.Lib.hid (H.out.below hA)
  clear hA hb1 H0
  by_cases hc : checkS xs = 0
  · have t1 : (checkS xs != 0) = false := by simp [hc]
    have hok := okS_of hc
    have HOK := Go.Lib.hid hok
    have HC := Go.Lib.hid hc
    have hl60 := hok.len
    clear hok hc
    go_wp2_with fail
    refine (find_any _ xs k _ H1.out HOK.out.ord (by omega)).mono ?_
    rintro r w2 ⟨rfl, hb2⟩
    have hN2 : ∀ i, w2.cell? ⟨w.heap.size, i, none⟩ = #[Value.string ⟨#[]⟩, .int .i64 0, .int .i64 0, .string ⟨#[]⟩][i]? := fun i => (bAt hb2 hS i).trans (hN i)
    have hM2 : ∀ i, w2.frozen? ⟨w.heap.size, i, none⟩ = false := fun i => (bFz hb2 hS i).trans (hM i)
    have hS2 : w.heap.size < w2.heap.size := Nat.lt_of_lt_of_le hS hb2.size
    have HA2 := Go.Lib.hid (HA.out.trans (hb2.mono HA.out.size))
    have H2 := Go.Lib.hid (H.out.below HA2.out)
    clear hb2 hN hM
    rcases hh : hasE xs k with _ | _
    · have HH := Go.Lib.hid (getS_none HC.out hh)
      clear hh
      go_wp2_with fail
      refine bodyPost_ret (v := .tuple #[zeroE.val, .int .i64 6]) (by simp [results, Tryz.results39, go_sem, zeroE, Entry.val, *]) rfl ⟨by rw [HH.out], ?_⟩
      exact b4 HA2.out _ _ _ _
    · obtain ⟨hl, hg⟩ := getS_some HC.out hh
      obtain ⟨i, hi⟩ : ∃ i, lbE xs k = i := ⟨_, rfl⟩
      have HI := Go.Lib.hid hi
      have hl' : i < xs.length := by omega
      have hg' : getS xs k = (xs[i], 0) := by rw [hg]; simp only [hi]
      have HG := Go.Lib.hid hg'
      obtain ⟨b, off, rfl, hb⟩ := H.out.at_ hl
      obtain ⟨f1, f2, f3, f4, _⟩ := H2.out.ent hl'
      clear hh hg hg' hl
      rw [hi]
      clear hi
      go_wp2_with fail
      refine bodyPost_ret (v := .tuple #[xs[i].val, .int .i64 0]) (by simp [results, Tryz.results39, go_sem, Entry.val, *]) rfl ⟨by rw [HG.out], ?_⟩
      exact b4 HA2.out _ _ _ _
  · have t1 : (checkS xs != 0) = true := by simp [hc]
    have HG := Go.Lib.hid (getS_bad (k := k) hc)
    clear hc
    go_wp2_with fail
    refine bodyPost_ret (v := .tuple #[zeroE.val, .int .i64 (checkS xs)]) (by simp [results, Tryz.results39, go_sem, zeroE, Entry.val, *]) rfl ⟨by rw [HG.out], ?_⟩
    exact b4 HA.out _ _ _ _

theorem place_hit {xs : List Entry} {k : ByteArray} {p : Nat} (hp : p < xs.length) (h : ∀ j, (h : j < xs.length) → j < p → xs[j].key ≠ k) (he : xs[p].key = k) : placeE xs k = p := by
  unfold placeE
  have : (xs.findIdx? fun e => decide (e.key = k)) = some p := by
    rw [List.findIdx?_eq_some_iff_getElem]
    exact ⟨hp, decide_eq_true he, fun j hj => by have := h j (by omega) hj; simpa using this⟩
  rw [this]
theorem place_miss {xs : List Entry} {k : ByteArray} (h : ∀ j, (h : j < xs.length) → xs[j].key ≠ k) : placeE xs k = -1 := by
  refine placeE_none ?_
  unfold hasE
  rw [List.any_eq_false]
  intro e he
  obtain ⟨j, hj, rfl⟩ := List.getElem_of_mem he
  simpa using h j hj

set_option maxHeartbeats 1000000 in
theorem place_any (v : Value) (xs : List Entry) (k : ByteArray) (w : World) (h : Sl entR w v xs) :
    Calls Tryz.prog 69 #[v, .string k] w fun e w' => e = .returned (.int .i64 (placeE xs k)) ∧ w = w' := by
  have hl := h.len_le
  obtain ⟨A, c, rfl⟩ := h.form
  have H := Go.Lib.hid h
  clear h
  go_enter Tryz.func69, Tryz.ntmps69
  go_wp2_with fail
  go_loop [5] (fun i => ∃ p : Nat, p ≤ xs.length ∧ i = .int .i64 p ∧ ∀ j, (h : j < xs.length) → j < p → xs[j].key ≠ k) (fun i => xs.length - (intOf i).toNat)
  case atStart => exact ⟨0, Nat.zero_le _, rfl, fun j _ h => absurd h (by omega)⟩
  case round =>
    obtain ⟨p, hp, rfl, hall⟩ := hrel
    have HA := Go.Lib.hid hall
    clear hall
    by_cases hlt : p < xs.length
    · obtain ⟨b, off, rfl, hb⟩ := H.out.at_ hlt
      obtain ⟨f1, _, _, _, _⟩ := H.out.ent hlt
      go_wp2_with fail
      · go_ret
        have he : xs[p].key = k := by
          have := ‹(xs[p].key.toList == k.toList) = true›
          exact toList_inj (eq_of_beq this)
        exact ⟨ei (place_hit hlt HA.out he).symm, rfl⟩
      · go_round
        case rel =>
          refine ⟨p + 1, by omega, by go_num, fun j hj hjp => ?_⟩
          by_cases e : j = p
          · subst e
            intro he
            have := ‹(xs[j].key.toList == k.toList) = false›
            rw [he] at this
            simp at this
          · exact HA.out j hj (by omega)
        case measure => simp [intOf]; omega
    · go_wp2_with fail
      go_ret
      exact ⟨ei (place_miss fun j hj => HA.out j hj (by omega)).symm, rfl⟩

end Go.Proofs.YtcbkimbeljhbhaaGreatDoor
