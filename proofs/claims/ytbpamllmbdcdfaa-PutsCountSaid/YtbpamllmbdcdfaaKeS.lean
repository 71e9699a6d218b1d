/-
  Walks: slices.IndexFunc, slices.DeleteFunc over entries, with the closures of PutsCount.
-/
import Derived.Test.YtbpamllmbdcdfaaKeR
import Derived.Test.YtbpamllmbdcdfaaStQ
import Derived.Lib.SliceRun
namespace Go.Proofs.Ytbpamllmbdcdfaa
open Go.RowKit Go.Deep

def zeroV : Value := .agg #[.string ⟨#[]⟩, .int .i64 0, .int .i64 0, .string ⟨#[]⟩]
theorem zero_ent (w : World) : (zeroValue 39).run Try.prog w = .ok zeroV w := by
  go_simp
  rfl
/-- what clear lays -/
def zeros (n : Nat) : List Value := (Builtin.zeroCells zeroV.cells n).toList
theorem zeros_len (n : Nat) : (zeros n).length = n * 4 := by
  simp [zeros, Builtin.zeroCells, zeroV, Value.cells]
theorem run_clear_ent (w : World) (ty g o n c : Nat) (hn : 0 < n) (hc : ∀ j, j < n * 4 → (w.cell? ⟨g, o + j, none⟩).isSome = true) (hf : ∀ j, j < n * 4 → w.frozen? ⟨g, o + j, none⟩ = false) :
    (Builtin.clear_ #[35] ty #[.slice (some ⟨g, o, none⟩) n c]).run Try.prog w = .ok (.tuple #[]) (w.setCells g o (zeros n)) := by
  have hst := run_storeCells_cells (P := Try.prog) g o (zeros n) 0 w (by rw [zeros_len]; simpa using hc) (by rw [zeros_len]; simpa using hf) (by
    intro v hv
    unfold zeros Builtin.zeroCells at hv
    simp only [Array.toList_map, List.mem_map] at hv
    obtain ⟨i, hi, rfl⟩ := hv
    have h4 : i % 4 < 4 := Nat.mod_lt _ (by omega)
    show (zeroV.cells[i % 4]!).oneCell' = true
    obtain ⟨m, hm⟩ : ∃ m, i % 4 = m := ⟨_, rfl⟩
    rw [hm] at h4 ⊢
    match m, h4 with
    | 0, _ => rfl
    | 1, _ => rfl
    | 2, _ => rfl
    | 3, _ => rfl)
  simp only [Nat.add_zero] at hst
  obtain ⟨m, rfl⟩ : ∃ m, n = m + 1 := ⟨n - 1, by omega⟩
  unfold zeros zeroV at hst ⊢
  have ht := Try.underlying35
  simp [Builtin.clear_, run_underlying ht, zero_ent, zeroV, hst]

def askE (p : Entry → Bool) (fid : Nat) (cap : Value) (B : Nat) (w : World) : Prop := ∀ (x : Entry) (w' : World), Below B w w' → Calls Try.prog fid #[x.val, cap] w' fun e w'' => e = .returned (.bool (p x)) ∧ Below w'.heap.size w' w''
theorem askE.below {p : Entry → Bool} {fid : Nat} {cap : Value} {B : Nat} {w w' : World} (h : askE p fid cap B w) (hb : Below B w w') : askE p fid cap B w' := fun x w2 h2 => h x w2 (hb.trans h2)

set_option maxRecDepth 100000 in
set_option maxHeartbeats 1000000 in
theorem idxE2_any (p : Entry → Bool) (cap : Value) (v : Value) (xs : List Entry) (B : Nat) (w : World) (h : Sl entR w v xs) (hB : B ≤ w.heap.size) (hp : askE p 63 cap B w) :
    Calls Try.prog 100 #[v, .func (.func 63) #[] #[cap]] w fun e w' => (∃ n : Int, e = .returned (.int .i64 n) ∧ ((n = -1 ∧ ∀ j, (h : j < xs.length) → p xs[j] = false) ∨ ∃ k : Nat, n = (k : Int) ∧ (∃ h : k < xs.length, p xs[k] = true) ∧ ∀ j, (h : j < xs.length) → j < k → p xs[j] = false)) ∧ Below w.heap.size w w' := by
  have hlen := h.len_le
  obtain ⟨A, c, rfl⟩ := h.form
  have H := Go.Lib.hid h
  have HP := Go.Lib.hid hp
  clear h hp
  go_enter Try.func100, Try.ntmps100
  go_wp2_with fail
  go_loopw [5, 8] (fun _ i wr => ∃ k : Nat, k ≤ xs.length ∧ i = .int .i64 k ∧ Below w.heap.size w wr ∧ ∀ j, (h : j < xs.length) → j < k → p xs[j] = false) (fun _ i _ => xs.length - (intOf i).toNat)
  case atStart => exact ⟨0, Nat.zero_le _, rfl, Below.refl _ _, fun j _ h => absurd h (by omega)⟩
  case round =>
    obtain ⟨k, hk, rfl, hB', hall⟩ := hrel
    have HA := Go.Lib.hid hall
    have HB := Go.Lib.hid hB'
    clear hall
    by_cases hlt : k < xs.length
    · obtain ⟨b, off, rfl, hb⟩ := H.out.at_ hlt
      obtain ⟨f1, f2, f3, f4, _⟩ := (H.out.below hB').ent hlt
      have hcal := HP.out xs[k] wr (hB'.mono hB)
      unfold Entry.val at hcal
      have HC := Go.Lib.hid hcal
      have r0 : (0 : Int) ≤ (k : Int) := Int.natCast_nonneg _
      have r1 : (k : Int) < (xs.length : Int) := by omega
      clear hB' hcal
      go_wp2_with fail
      refine HC.out.mono ?_
      rintro e w1 ⟨rfl, hb1⟩
      have HB1 := Go.Lib.hid (HB.out.trans (hb1.mono HB.out.size))
      clear hb1
      rcases hp : p xs[k] with _ | _
      · have HPX := Go.Lib.hid hp
        clear hp
        go_wp2_with fail
        go_roundw
        case rel =>
          refine ⟨k + 1, by omega, by go_num, HB1.out, fun j hj hjk => ?_⟩
          by_cases e : j = k
          · subst e; exact HPX.out
          · exact HA.out j hj (by omega)
        case measure => simp [intOf]; omega
      · have HPX := Go.Lib.hid hp
        clear hp
        go_wp2_with fail
        go_ret
        exact ⟨⟨(k : Int), rfl, .inr ⟨k, rfl, ⟨hlt, HPX.out⟩, HA.out⟩⟩, HB1.out⟩
    · clear hB'
      go_wp2_with fail
      go_ret
      exact ⟨⟨-1, rfl, .inl ⟨rfl, fun j hj => HA.out j hj (by omega)⟩⟩, HB.out⟩
set_option maxRecDepth 100000 in
set_option maxHeartbeats 1000000 in
theorem idxE3_any (p : Entry → Bool) (cap : Value) (v : Value) (xs : List Entry) (B : Nat) (w : World) (h : Sl entR w v xs) (hB : B ≤ w.heap.size) (hp : askE p 64 cap B w) :
    Calls Try.prog 100 #[v, .func (.func 64) #[] #[cap]] w fun e w' => (∃ n : Int, e = .returned (.int .i64 n) ∧ ((n = -1 ∧ ∀ j, (h : j < xs.length) → p xs[j] = false) ∨ ∃ k : Nat, n = (k : Int) ∧ (∃ h : k < xs.length, p xs[k] = true) ∧ ∀ j, (h : j < xs.length) → j < k → p xs[j] = false)) ∧ Below w.heap.size w w' := by
  have hlen := h.len_le
  obtain ⟨A, c, rfl⟩ := h.form
  have H := Go.Lib.hid h
  have HP := Go.Lib.hid hp
  clear h hp
  go_enter Try.func100, Try.ntmps100
  go_wp2_with fail
  go_loopw [5, 8] (fun _ i wr => ∃ k : Nat, k ≤ xs.length ∧ i = .int .i64 k ∧ Below w.heap.size w wr ∧ ∀ j, (h : j < xs.length) → j < k → p xs[j] = false) (fun _ i _ => xs.length - (intOf i).toNat)
  case atStart => exact ⟨0, Nat.zero_le _, rfl, Below.refl _ _, fun j _ h => absurd h (by omega)⟩
  case round =>
    obtain ⟨k, hk, rfl, hB', hall⟩ := hrel
    have HA := Go.Lib.hid hall
    have HB := Go.Lib.hid hB'
    clear hall
    by_cases hlt : k < xs.length
    · obtain ⟨b, off, rfl, hb⟩ := H.out.at_ hlt
      obtain ⟨f1, f2, f3, f4, _⟩ := (H.out.below hB').ent hlt
      have hcal := HP.out xs[k] wr (hB'.mono hB)
      unfold Entry.val at hcal
      have HC := Go.Lib.hid hcal
      have r0 : (0 : Int) ≤ (k : Int) := Int.natCast_nonneg _
      have r1 : (k : Int) < (xs.length : Int) := by omega
      clear hB' hcal
      go_wp2_with fail
      refine HC.out.mono ?_
      rintro e w1 ⟨rfl, hb1⟩
      have HB1 := Go.Lib.hid (HB.out.trans (hb1.mono HB.out.size))
      clear hb1
      rcases hp : p xs[k] with _ | _
      · have HPX := Go.Lib.hid hp
        clear hp
        go_wp2_with fail
        go_roundw
        case rel =>
          refine ⟨k + 1, by omega, by go_num, HB1.out, fun j hj hjk => ?_⟩
          by_cases e : j = k
          · subst e; exact HPX.out
          · exact HA.out j hj (by omega)
        case measure => simp [intOf]; omega
      · have HPX := Go.Lib.hid hp
        clear hp
        go_wp2_with fail
        go_ret
        exact ⟨⟨(k : Int), rfl, .inr ⟨k, rfl, ⟨hlt, HPX.out⟩, HA.out⟩⟩, HB1.out⟩
    · clear hB'
      go_wp2_with fail
      go_ret
      exact ⟨⟨-1, rfl, .inl ⟨rfl, fun j hj => HA.out j hj (by omega)⟩⟩, HB.out⟩

/-- what the closures captured: the entry whose key is left out, and the function that asks -/
structure Caps (w : World) (b8 b16 : Nat) (key : ByteArray) : Prop where
  lt8 : b8 < w.heap.size
  lt16 : b16 < w.heap.size
  key : w.cell? ⟨b8, 0, none⟩ = some (.string key)
  fn : w.cell? ⟨b16, 0, none⟩ = some (.func (.func 60) #[] #[.pointer (some ⟨b8, 0, none⟩)])
theorem Caps.below {w w' : World} {B b8 b16 : Nat} {key : ByteArray} (h : Caps w b8 b16 key) (hb : Below B w w') (h1 : b8 < B) (h2 : b16 < B) : Caps w' b8 b16 key :=
  ⟨Nat.lt_of_lt_of_le h.lt8 hb.size, Nat.lt_of_lt_of_le h.lt16 hb.size, (bAt hb h1 0).trans h.key, (bAt hb h2 0).trans h.fn⟩

set_option maxHeartbeats 1000000 in
theorem putsC1_any (x : Entry) (b8 b16 : Nat) (key : ByteArray) (w : World) (h : Caps w b8 b16 key) :
    Calls Try.prog 60 #[x.val, .pointer (some ⟨b8, 0, none⟩)] w fun e w' => e = .returned (.bool (!(x.key.toList == key.toList))) ∧ Below w.heap.size w w' := by
  obtain ⟨h1, h2, h3, h4⟩ := h
  have hal : Below w.heap.size w (w.alloc (.cells #[.string x.key, .int .i64 x.version, .int .i64 x.origin, .string x.value] 39)) := (Below.refl _ _).alloc (Nat.le_refl _) _
  have h3' := (bAt hal h1 0).trans h3
  have HAL := Go.Lib.hid hal
  unfold Entry.val
  clear hal
  go_enter Try.func60, Try.ntmps60
  go_wp2_with fail
  go_ret
  exact ⟨rfl, HAL.out⟩
set_option maxHeartbeats 1000000 in
theorem putsC2_any (x : Entry) (b8 b16 : Nat) (key : ByteArray) (w : World) (h : Caps w b8 b16 key) :
    Calls Try.prog 63 #[x.val, .pointer (some ⟨b16, 0, none⟩)] w fun e w' => e = .returned (.bool (x.key.toList == key.toList)) ∧ Below w.heap.size w w' := by
  have hal : Below w.heap.size w (w.alloc (.cells #[.string x.key, .int .i64 x.version, .int .i64 x.origin, .string x.value] 39)) := (Below.refl _ _).alloc (Nat.le_refl _) _
  have HC := Go.Lib.hid (putsC1_any x b8 b16 key _ (h.below hal h.lt8 h.lt16))
  have f1 := (h.below hal h.lt8 h.lt16).fn
  have HAL := Go.Lib.hid hal
  unfold Entry.val at HC ⊢
  clear h hal
  go_enter Try.func63, Try.ntmps63
  go_wp2_with fail
  refine HC.out.mono ?_
  rintro e w1 ⟨rfl, hb1⟩
  have HB1 := Go.Lib.hid (HAL.out.trans (hb1.mono HAL.out.size))
  clear hb1
  go_wp2_with fail
  go_ret
  exact ⟨by first | rfl | exact eb (by simp), HB1.out⟩
theorem askE2 (b8 b16 : Nat) (key : ByteArray) (B : Nat) (w : World) (h : Caps w b8 b16 key) (h1 : b8 < B) (h2 : b16 < B) : askE (fun x => x.key.toList == key.toList) 63 (.pointer (some ⟨b16, 0, none⟩)) B w :=
  fun x w' hb => putsC2_any x b8 b16 key w' (h.below hb h1 h2)
set_option maxHeartbeats 1000000 in
theorem putsC3_any (x : Entry) (b8 b16 : Nat) (key : ByteArray) (w : World) (h : Caps w b8 b16 key) :
    Calls Try.prog 64 #[x.val, .pointer (some ⟨b16, 0, none⟩)] w fun e w' => e = .returned (.bool (x.key.toList == key.toList)) ∧ Below w.heap.size w w' := by
  have hal : Below w.heap.size w (w.alloc (.cells #[.string x.key, .int .i64 x.version, .int .i64 x.origin, .string x.value] 39)) := (Below.refl _ _).alloc (Nat.le_refl _) _
  have HC := Go.Lib.hid (putsC1_any x b8 b16 key _ (h.below hal h.lt8 h.lt16))
  have f1 := (h.below hal h.lt8 h.lt16).fn
  have HAL := Go.Lib.hid hal
  unfold Entry.val at HC ⊢
  clear h hal
  go_enter Try.func64, Try.ntmps64
  go_wp2_with fail
  refine HC.out.mono ?_
  rintro e w1 ⟨rfl, hb1⟩
  have HB1 := Go.Lib.hid (HAL.out.trans (hb1.mono HAL.out.size))
  clear hb1
  go_wp2_with fail
  go_ret
  exact ⟨by first | rfl | exact eb (by simp), HB1.out⟩
theorem askE3 (b8 b16 : Nat) (key : ByteArray) (B : Nat) (w : World) (h : Caps w b8 b16 key) (h1 : b8 < B) (h2 : b16 < B) : askE (fun x => x.key.toList == key.toList) 64 (.pointer (some ⟨b16, 0, none⟩)) B w :=
  fun x w' hb => putsC3_any x b8 b16 key w' (h.below hb h1 h2)
end Go.Proofs.Ytbpamllmbdcdfaa
