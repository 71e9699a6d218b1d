/-
  Tables of numbers in memory; reach, walked.
-/
import Derived.Test.YtcbkimbeljhbhaaGreatDoorGDoK
import Derived.Test.YtcbkimbeljhbhaaGreatDoorGWaA
import Derived.Deep.RegionLaw
set_option linter.unusedVariables false
set_option linter.unusedSimpArgs false
namespace Go.Proofs.YtcbkimbeljhbhaaGreatDoor
open Go Go.RowKit

/-- a table of 12 times 12 numbers -/
structure Mat (w : World) (B : Nat) (m : Nat → Nat → Int) : Prop where
  cell : ∀ i j, i < 12 → j < 12 → w.cell? ⟨B, i * 12 + j, none⟩ = some (.int .i64 (m i j))
  fz : ∀ o, w.frozen? ⟨B, o, none⟩ = false
  lt : B < w.heap.size
structure Vec (w : World) (B : Nat) (g : Nat → Int) : Prop where
  cell : ∀ i, i < 12 → w.cell? ⟨B, i, none⟩ = some (.int .i64 (g i))
  fz : ∀ o, w.frozen? ⟨B, o, none⟩ = false
  lt : B < w.heap.size
structure Bits (w : World) (B : Nat) (g : Nat → Bool) : Prop where
  cell : ∀ i, i < 12 → w.cell? ⟨B, i, none⟩ = some (.bool (g i))
  fz : ∀ o, w.frozen? ⟨B, o, none⟩ = false
  lt : B < w.heap.size
theorem Mat.keep {w w' : World} {B : Nat} {m : Nat → Nat → Int} (h : Mat w B m) (hk : w'.heap[B]? = w.heap[B]?) : Mat w' B m :=
  ⟨fun i j hi hj => (World.cell?_of_block (w := w) hk).trans (h.cell i j hi hj), fun o => (World.frozen?_of_block (w := w) hk).trans (h.fz o), lt_of_same h.lt hk⟩
theorem Vec.keep {w w' : World} {B : Nat} {m : Nat → Int} (h : Vec w B m) (hk : w'.heap[B]? = w.heap[B]?) : Vec w' B m :=
  ⟨fun i hi => (World.cell?_of_block (w := w) hk).trans (h.cell i hi), fun o => (World.frozen?_of_block (w := w) hk).trans (h.fz o), lt_of_same h.lt hk⟩
theorem Bits.keep {w w' : World} {B : Nat} {m : Nat → Bool} (h : Bits w B m) (hk : w'.heap[B]? = w.heap[B]?) : Bits w' B m :=
  ⟨fun i hi => (World.cell?_of_block (w := w) hk).trans (h.cell i hi), fun o => (World.frozen?_of_block (w := w) hk).trans (h.fz o), lt_of_same h.lt hk⟩
theorem Mat.below {w w' : World} {B : Nat} {m : Nat → Nat → Int} (h : Mat w B m) (hb : Below w.heap.size w w') : Mat w' B m := h.keep (hb.block B h.lt)
theorem Vec.below {w w' : World} {B : Nat} {m : Nat → Int} (h : Vec w B m) (hb : Below w.heap.size w w') : Vec w' B m := h.keep (hb.block B h.lt)
theorem Bits.below {w w' : World} {B : Nat} {m : Nat → Bool} (h : Bits w B m) (hb : Below w.heap.size w w') : Bits w' B m := h.keep (hb.block B h.lt)
theorem Mat.far {w : World} {B : Nat} {m : Nat → Nat → Int} (h : Mat w B m) {p : Addr} (hp : p.block ≠ B) (v : Value) : Mat (w.setCell p v) B m := h.keep (Below.heap_setCell _ _ _ _ (fun e => hp e.symm))
theorem Vec.far {w : World} {B : Nat} {m : Nat → Int} (h : Vec w B m) {p : Addr} (hp : p.block ≠ B) (v : Value) : Vec (w.setCell p v) B m := h.keep (Below.heap_setCell _ _ _ _ (fun e => hp e.symm))
theorem Bits.far {w : World} {B : Nat} {m : Nat → Bool} (h : Bits w B m) {p : Addr} (hp : p.block ≠ B) (v : Value) : Bits (w.setCell p v) B m := h.keep (Below.heap_setCell _ _ _ _ (fun e => hp e.symm))
theorem Mat.set {w : World} {B : Nat} {m m' : Nat → Nat → Int} (h : Mat w B m) {i j : Nat} (hi : i < 12) (hj : j < 12) (x : Int) (hm : ∀ a b, a < 12 → b < 12 → m' a b = if a = i ∧ b = j then x else m a b) : Mat (w.setCell ⟨B, i * 12 + j, none⟩ (.int .i64 x)) B m' := by
  refine ⟨fun a b ha hb => ?_, fun o => by rw [World.frozen?_setCell]; exact h.fz o, by simp [World.setCell]; exact h.lt⟩
  rw [hm a b ha hb]
  by_cases e : a = i ∧ b = j
  · obtain ⟨rfl, rfl⟩ := e
    rw [if_pos ⟨rfl, rfl⟩]
    exact World.cell?_setCell_same' w _ _ (by rw [h.cell a b ha hb]; rfl)
  · rw [if_neg e, World.cell?_setCell_other w _ _ _ (by intro e2; injection e2 with _ e3 _; exact e (by omega))]
    exact h.cell a b ha hb
theorem Vec.set {w : World} {B : Nat} {m m' : Nat → Int} (h : Vec w B m) {i : Nat} (hi : i < 12) (x : Int) (hm : ∀ a, a < 12 → m' a = if a = i then x else m a) : Vec (w.setCell ⟨B, i, none⟩ (.int .i64 x)) B m' := by
  refine ⟨fun a ha => ?_, fun o => by rw [World.frozen?_setCell]; exact h.fz o, by simp [World.setCell]; exact h.lt⟩
  rw [hm a ha]
  by_cases e : a = i
  · subst e
    rw [if_pos rfl]
    exact World.cell?_setCell_same' w _ _ (by rw [h.cell a ha]; rfl)
  · rw [if_neg e, World.cell?_setCell_other w _ _ _ (by intro e2; injection e2 with _ e3 _; exact e e3.symm)]
    exact h.cell a ha
theorem Bits.set {w : World} {B : Nat} {m m' : Nat → Bool} (h : Bits w B m) {i : Nat} (hi : i < 12) (x : Bool) (hm : ∀ a, a < 12 → m' a = if a = i then x else m a) : Bits (w.setCell ⟨B, i, none⟩ (.bool x)) B m' := by
  refine ⟨fun a ha => ?_, fun o => by rw [World.frozen?_setCell]; exact h.fz o, by simp [World.setCell]; exact h.lt⟩
  rw [hm a ha]
  by_cases e : a = i
  · subst e
    rw [if_pos rfl]
    exact World.cell?_setCell_same' w _ _ (by rw [h.cell a ha]; rfl)
  · rw [if_neg e, World.cell?_setCell_other w _ _ _ (by intro e2; injection e2 with _ e3 _; exact e e3.symm)]
    exact h.cell a ha
theorem Mat.eq {w : World} {B : Nat} {m m' : Nat → Nat → Int} (h : Mat w B m) (hm : ∀ a b, a < 12 → b < 12 → m' a b = m a b) : Mat w B m' := ⟨fun i j hi hj => by rw [hm i j hi hj]; exact h.cell i j hi hj, h.fz, h.lt⟩
theorem Vec.eq {w : World} {B : Nat} {m m' : Nat → Int} (h : Vec w B m) (hm : ∀ a, a < 12 → m' a = m a) : Vec w B m' := ⟨fun i hi => by rw [hm i hi]; exact h.cell i hi, h.fz, h.lt⟩
theorem Bits.eq {w : World} {B : Nat} {m m' : Nat → Bool} (h : Bits w B m) (hm : ∀ a, a < 12 → m' a = m a) : Bits w B m' := ⟨fun i hi => by rw [hm i hi]; exact h.cell i hi, h.fz, h.lt⟩
theorem Mat.drewN {w : World} {B : Nat} {m : Nat → Nat → Int} (h : Mat w B m) (n : Nat) : Mat (w.drewN n) B m := h.keep rfl
theorem Vec.drewN {w : World} {B : Nat} {m : Nat → Int} (h : Vec w B m) (n : Nat) : Vec (w.drewN n) B m := h.keep rfl
theorem Bits.drewN {w : World} {B : Nat} {m : Nat → Bool} (h : Bits w B m) (n : Nat) : Bits (w.drewN n) B m := h.keep rfl
theorem zero_mat : Tryz.zeroCells39 = Array.replicate 144 (.int .i64 0) := by kernel_rfl
theorem mat_zero (w : World) (T : TypeId) (B : Nat) (hB : B = w.heap.size) : Mat (w.alloc (.cells Tryz.zeroCells39 T)) B (fun _ _ => 0) := by
  refine ⟨fun i j hi hj => ?_, fun o => World.frozen?_alloc_at _ _ _ _ hB, by simp [hB]⟩
  rw [World.cell?_alloc_at _ _ _ _ hB, zero_mat, Array.getElem?_replicate, if_pos (by omega)]
theorem bits_zero (w : World) (T : TypeId) (B : Nat) (hB : B = w.heap.size) : Bits (w.alloc (.cells #[.bool false, .bool false, .bool false, .bool false, .bool false, .bool false, .bool false, .bool false, .bool false, .bool false, .bool false, .bool false] T)) B (fun _ => false) := by
  refine ⟨fun i hi => ?_, fun o => World.frozen?_alloc_at _ _ _ _ hB, by simp [hB]⟩
  rw [World.cell?_alloc_at _ _ _ _ hB]
  have : ∀ i, i < 12 → (#[Value.bool false, .bool false, .bool false, .bool false, .bool false, .bool false, .bool false, .bool false, .bool false, .bool false, .bool false, .bool false])[i]? = some (.bool false) := by
    intro i hi
    match i, hi with
    | 0, _ | 1, _ | 2, _ | 3, _ | 4, _ | 5, _ | 6, _ | 7, _ | 8, _ | 9, _ | 10, _ | 11, _ => rfl
    | n + 12, h => omega
  exact this i hi

theorem field_run (d : Bool) (A : Option Addr) (n c : Nat) (w : World) : (Instr.field 53 (.agg #[.bool d, .slice A n c]) 0).run Tryz.prog w = .ok (.bool d) w := by
  simp [Instr.field, asAgg, go_sem, Tryz.underlying53]

theorem vec_zero (w : World) (B : Nat) (hB : B = w.heap.size) : Vec (w.alloc (.cells #[.int .i64 0, .int .i64 0, .int .i64 0, .int .i64 0, .int .i64 0, .int .i64 0, .int .i64 0, .int .i64 0, .int .i64 0, .int .i64 0, .int .i64 0, .int .i64 0] 3)) B (fun _ => 0) := by
  refine ⟨fun i hi => ?_, fun o => World.frozen?_alloc_at _ _ _ _ hB, by simp [hB]⟩
  rw [World.cell?_alloc_at _ _ _ _ hB]
  match i, hi with
  | 0, _ | 1, _ | 2, _ | 3, _ | 4, _ | 5, _ | 6, _ | 7, _ | 8, _ | 9, _ | 10, _ | 11, _ => rfl
  | n + 12, h => omega
theorem make12 (w : World) : (Instr.makeSlice 35 (.int .i64 12) (.int .i64 12)).run Tryz.prog w = .ok (.slice (some ⟨w.heap.size, 0, none⟩) 12 12) (w.alloc (.cells #[.int .i64 0, .int .i64 0, .int .i64 0, .int .i64 0, .int .i64 0, .int .i64 0, .int .i64 0, .int .i64 0, .int .i64 0, .int .i64 0, .int .i64 0, .int .i64 0] 3)) := by kernel_rfl

/-- numbers that stay small -/
def Bd (n : Nat) (l : List Int) : Prop := l.length = 12 ∧ ∀ i, -1 ≤ gI l i ∧ gI l i ≤ 1000 * n
theorem Bd.mono {n m : Nat} {l : List Int} (h : Bd n l) (hm : n ≤ m) : Bd m l := ⟨h.1, fun i => ⟨(h.2 i).1, by have := (h.2 i).2; omega⟩⟩
section
variable {C : Nat → Nat → Nat} {D : Nat → Bool} {s : Nat} {F : Nat → Bool}
theorem relax_bd (hC : ∀ a b, C a b ≤ 1000) {n : Nat} {l : List Int} (h : Bd n l) (a b : Nat) (hb : b < 12) : Bd (n + 1) (relax C D s l a b) := by
  unfold relax
  split
  · exact h.mono (by omega)
  · rename_i hc
    split
    · refine ⟨by simp [h.1], fun i => ?_⟩
      rw [gI_set _ _ _ _ (by rw [h.1]; exact hb)]
      have := h.2 a
      have := hC a b
      split
      · refine ⟨?_, by omega⟩
        have : ¬ gI l a < 0 := fun e => hc (.inr (.inr (.inl e)))
        omega
      · have := h.2 i
        omega
    · exact h.mono (by omega)
theorem rowTo_bd (hC : ∀ a b, C a b ≤ 1000) {n : Nat} {l : List Int} (h : Bd n l) (a : Nat) : ∀ k, k ≤ 12 → Bd (n + k) (rowTo C D s l a k)
  | 0, _ => h
  | k + 1, hk => relax_bd hC (rowTo_bd hC h a k (by omega)) a k (by omega)
theorem rndTo_bd (hC : ∀ a b, C a b ≤ 1000) {n : Nat} {l : List Int} (h : Bd n l) : ∀ k, Bd (n + 12 * k) (rndTo C D s l k)
  | 0 => h
  | k + 1 => (rowTo_bd hC (rndTo_bd hC h k) k 12 (Nat.le_refl _)).mono (by omega)
theorem rnds_bd (hC : ∀ a b, C a b ≤ 1000) {n : Nat} {l : List Int} (h : Bd n l) : ∀ k, Bd (n + 144 * k) (rnds C D s l k)
  | 0 => h
  | k + 1 => (rndTo_bd hC (rnds_bd hC h k) 12).mono (by omega)
theorem iniB_bd (hC : ∀ a b, C a b ≤ 1000) : Bd 1 (iniB C s F) := by
  refine ⟨iniB_len, fun i => ?_⟩
  by_cases hi : i < 12
  · rw [iniB_at hi]
    have := hC s i
    split <;> omega
  · rw [gI_out (by rw [iniB_len]; omega)]; omega
end
/-- the first steps that a walk may take -/
def fstF (f : Int) (i : Nat) : Bool := decide (f < 0) || decide (f = i)
/-- the cheapest way's cost, by rounds -/
def best (xs : List Entry) (s : Nat) (f : Int) (r : Nat) : List Int := rnds (linkC xs) (fun a => (adjAt xs a).1) s (iniB (linkC xs) s (fstF f)) r

theorem ini_no {w : World} {B i : Nat} {l : List Int} (h : Vec w B (fun a => if a < i then gI l a else 0)) (hi : i < 12) (e : gI l i = -1) : Vec (w.setCell ⟨B, i, none⟩ (.int .i64 (-1))) B (fun a => if a < i + 1 then gI l a else 0) := by
  refine h.set hi _ (fun a _ => ?_)
  by_cases e1 : a = i
  · subst e1; rw [if_pos (by omega), if_pos rfl, e]
  · rw [if_neg e1]
    by_cases e2 : a < i
    · rw [if_pos e2, if_pos (by omega)]
    · rw [if_neg e2, if_neg (by omega)]
theorem ini_yes {w : World} {B i : Nat} {l : List Int} {x y : Int} (h : Vec w B (fun a => if a < i then gI l a else 0)) (hi : i < 12) (e : gI l i = x) : Vec ((w.setCell ⟨B, i, none⟩ (.int .i64 y)).setCell ⟨B, i, none⟩ (.int .i64 x)) B (fun a => if a < i + 1 then gI l a else 0) := by
  refine (h.set (m' := fun a => if a = i then y else if a < i then gI l a else 0) hi y (fun a _ => rfl)).set hi _ (fun a _ => ?_)
  by_cases e1 : a = i
  · subst e1; rw [if_pos (by omega), if_pos rfl, e]
  · rw [if_neg e1, if_neg e1]
    by_cases e2 : a < i
    · rw [if_pos e2, if_pos (by omega)]
    · rw [if_neg e2, if_neg (by omega)]
theorem set_gI {M : List Int} (h : M.length = 12) {b x : Nat} (hb : b < 12) (v : Int) : gI (M.set b v) x = if x = b then v else gI M x := by
  rw [gI_set _ _ _ _ (by omega)]
  by_cases e : x = b
  · rw [if_pos e, if_pos e.symm]
  · rw [if_neg e, if_neg (fun e2 => e e2.symm)]
theorem relax_no {C : Nat → Nat → Nat} {D : Nat → Bool} {s : Nat} {L : List Int} {a b : Nat} (h : a = s ∨ b = s ∨ gI (rowTo C D s L a b) a < 0 ∨ D a = true ∨ C a b = 0) : rowTo C D s L a (b + 1) = rowTo C D s L a b := if_pos h
theorem relax_keep {C : Nat → Nat → Nat} {D : Nat → Bool} {s : Nat} {L : List Int} {a b : Nat} (h : ¬ (gI (rowTo C D s L a b) b < 0 ∨ gI (rowTo C D s L a b) a + C a b < gI (rowTo C D s L a b) b)) : rowTo C D s L a (b + 1) = rowTo C D s L a b := by
  show relax C D s (rowTo C D s L a b) a b = _
  unfold relax
  rw [if_neg h]
  split <;> rfl
theorem relax_set {C : Nat → Nat → Nat} {D : Nat → Bool} {s : Nat} {L : List Int} {a b : Nat} (h0 : ¬ (a = s ∨ b = s ∨ gI (rowTo C D s L a b) a < 0 ∨ D a = true ∨ C a b = 0)) (h : gI (rowTo C D s L a b) b < 0 ∨ gI (rowTo C D s L a b) a + C a b < gI (rowTo C D s L a b) b) : rowTo C D s L a (b + 1) = (rowTo C D s L a b).set b (gI (rowTo C D s L a b) a + C a b) := by
  show relax C D s (rowTo C D s L a b) a b = _
  unfold relax
  rw [if_neg h0, if_pos h]


set_option maxRecDepth 50000 in
set_option maxHeartbeats 4000000 in
theorem reach_any (v : Value) (xs : List Entry) (s : Nat) (q : Nat) (f : Int) (w : World) (h : Sl entR w v xs) (hs : s < 12) (hq : q < 12) (hv : ∀ e ∈ xs, e.value.size < 4294967281) (hE : Env w) :
    Calls Tryz.prog 68 #[v, .int .i64 s, .int .i64 q, .int .i64 f] w fun e w' => e = .returned (.int .i64 (gI (best xs s f 12) q)) ∧ Below w.heap.size w w' := by
  have hmk := fun w => make12 w
  have hl := h.len_le
  obtain ⟨A, c, rfl⟩ := h.form
  have HIN := Go.Lib.hid (fun n hn w' (hb : Below w.heap.size w w') => adjIn_any (.slice A xs.length c) xs n w' (h.below hb) hn hv (hE.below hb))
  have HLK := Go.Lib.hid (fun a b ha hb w' (hb' : Below w.heap.size w w') => link_any (.slice A xs.length c) xs a b w' (h.below hb') ha hb hv (hE.below hb'))
  clear h hE hv
  have hfr := fun d A n c w => field_run d A n c w
  go_enter Tryz.func68, Tryz.ntmps68
  go_wp2_with fail
  go_loopw [11] (fun i wr => ∃ k : Nat, k ≤ 12 ∧ i = .int .i64 k ∧ Mat wr w.heap.size (fun a b => if a < k then (linkC xs a b : Nat) else 0) ∧ Bits wr (w.heap.size + 1) (fun a => if a < k then (adjAt xs a).1 else false) ∧ Below w.heap.size w wr) (fun i _ => 12 - (intOf i).toNat)
  case atStart =>
    have hb := (Below.refl w.heap.size w).alloc (Nat.le_refl _) (.cells Tryz.zeroCells39 39)
    refine ⟨0, Nat.zero_le _, rfl, ?_, ?_, hb.alloc hb.size _⟩
    · exact ((mat_zero w 39 w.heap.size rfl).below ((Below.refl _ _).alloc (Nat.le_refl _) _)).eq (fun a b _ _ => if_neg (Nat.not_lt_zero a))
    · exact (bits_zero _ _ _ (by simp)).eq (fun a _ => if_neg (Nat.not_lt_zero a))
  case round =>
    obtain ⟨k, hk, rfl, hm, hd, hB⟩ := hrel
    have HM := Go.Lib.hid hm
    have HD := Go.Lib.hid hd
    have HB := Go.Lib.hid hB
    clear hm hd hB
    by_cases hlt : k < 12
    · have hki : (k : Int) < 12 := by omega
      have HA := Go.Lib.hid (HIN.out k hlt)
      go_wp2_with (go_at_call 98; refine (HA.out _ HB.out).mono ?_; rintro e w1 ⟨⟨v1, rfl, hv1⟩, hb1⟩; obtain ⟨A1, c1, rfl⟩ := hv1.form; have HM1 := Go.Lib.hid (HM.out.below hb1); have HD1 := Go.Lib.hid (HD.out.below hb1); have HB1 := Go.Lib.hid (HB.out.trans (hb1.mono HB.out.size)); have d1 := HD1.out.cell k hlt; have d2 := HD1.out.fz k; clear hb1 hv1)
      go_loopw [12] (fun j wr => ∃ b : Nat, b ≤ 12 ∧ j = .int .i64 b ∧ Mat wr w.heap.size (fun x y => if x < k ∨ (x = k ∧ y < b) then (linkC xs x y : Nat) else 0) ∧ Bits wr (w.heap.size + 1) (fun a => if a < k + 1 then (adjAt xs a).1 else false) ∧ Below w.heap.size w wr) (fun j _ => 12 - (intOf j).toNat)
      case atStart =>
        refine ⟨0, Nat.zero_le _, rfl, ?_, ?_, HB1.out.setCell (p := ⟨w.heap.size + 1, k, none⟩) (by show w.heap.size ≤ w.heap.size + 1; omega) _⟩
        · refine (HM1.out.far (p := ⟨w.heap.size + 1, k, none⟩) (by show w.heap.size + 1 ≠ w.heap.size; omega) _).eq (fun a b _ _ => ?_)
          simp
        · refine HD1.out.set hlt _ (fun a _ => ?_)
          by_cases e : a = k
          · subst e; simp
          · rw [if_neg e]
            by_cases e2 : a < k
            · rw [if_pos e2, if_pos (by omega)]
            · rw [if_neg e2, if_neg (by omega)]
      case round =>
        obtain ⟨b, hb, rfl, hm, hd, hB⟩ := hrel
        have HM2 := Go.Lib.hid hm
        have HD2 := Go.Lib.hid hd
        have HB2 := Go.Lib.hid hB
        clear hm hd hB
        by_cases hltb : b < 12
        · have hbi : (b : Int) < 12 := by omega
          have HL := Go.Lib.hid (HLK.out k b hlt hltb)
          go_wp2_with fail
          go_region_with (go_at_call 99; refine (HL.out _ (HB2.out.drew)).mono ?_; rintro e w3 ⟨rfl, hb3⟩; have HM3 := Go.Lib.hid (HM2.out.below (Below.trans (Below.refl _ _).drew hb3)); have HD3 := Go.Lib.hid (HD2.out.below (Below.trans (Below.refl _ _).drew hb3)); have HB3 := Go.Lib.hid (HB2.out.trans ((Below.trans (Below.refl _ _).drew hb3).mono HB2.out.size)); have m1 := HM3.out.cell k b hlt hltb; have m2 := HM3.out.fz (k * 12 + b); clear hb3)
          all_goals
            go_wp2_with fail
            go_roundw
            case rel =>
              refine ⟨b + 1, by omega, by go_num, ?_, HD3.out.far (p := ⟨w.heap.size, k * 12 + b, none⟩) (by show w.heap.size ≠ w.heap.size + 1; omega) _, HB3.out.setCell (p := ⟨w.heap.size, k * 12 + b, none⟩) (Nat.le_refl _) _⟩
              refine HM3.out.set hlt hltb _ (fun x y _ _ => ?_)
              by_cases e : x = k ∧ y = b
              · obtain ⟨rfl, rfl⟩ := e; simp
              · rw [if_neg e]
                by_cases e2 : x < k ∨ (x = k ∧ y < b)
                · rw [if_pos e2, if_pos (by omega)]
                · rw [if_neg e2, if_neg (by omega)]
            case measure => simp [intOf]; omega
        · have hbi : ¬ (b : Int) < 12 := by omega
          go_wp2_with fail
          go_roundw
          case rel =>
            refine ⟨k + 1, by omega, by go_num, HM2.out.eq (fun x y _ hy => ?_), HD2.out, HB2.out⟩
            by_cases e : x < k + 1
            · rw [if_pos e, if_pos (by omega)]
            · rw [if_neg e, if_neg (by omega)]
          case measure => simp [intOf]; omega
    · have hki : ¬ (k : Int) < 12 := by omega
      have HM0 := Go.Lib.hid (HM.out.eq (m' := fun a b => (linkC xs a b : Nat)) (fun a b ha _ => (if_pos (by omega)).symm))
      have HD0 := Go.Lib.hid (HD.out.eq (m' := fun a => (adjAt xs a).1) (fun a ha => (if_pos (by omega)).symm))
      clear HM HD
      go_wp2_with fail
      have hsz := HD0.out.lt
      have hBw : w.heap.size ≤ wr.heap.size := by omega
      have hBM : wr.heap.size ≠ w.heap.size := by omega
      have hBD : wr.heap.size ≠ w.heap.size + 1 := by omega
      have hal := (Below.refl wr.heap.size wr).alloc (Nat.le_refl _) (.cells #[.int .i64 0, .int .i64 0, .int .i64 0, .int .i64 0, .int .i64 0, .int .i64 0, .int .i64 0, .int .i64 0, .int .i64 0, .int .i64 0, .int .i64 0, .int .i64 0] 3)
      have HV0 := Go.Lib.hid (vec_zero wr wr.heap.size rfl)
      have HM1 := Go.Lib.hid (HM0.out.below hal)
      have HD1 := Go.Lib.hid (HD0.out.below hal)
      have HB1 := Go.Lib.hid (HB.out.trans (hal.mono HB.out.size))
      clear hal HM0 HD0 HB hsz HIN HLK hmk hfr
      obtain ⟨W, hW⟩ : ∃ x, x = wr.alloc (.cells #[.int .i64 0, .int .i64 0, .int .i64 0, .int .i64 0, .int .i64 0, .int .i64 0, .int .i64 0, .int .i64 0, .int .i64 0, .int .i64 0, .int .i64 0, .int .i64 0] 3) := ⟨_, rfl⟩
      rw [← hW] at HV0 HM1 HD1 HB1
      rw [← hW]
      clear hW
      obtain ⟨B, hBe⟩ : ∃ x, x = wr.heap.size := ⟨_, rfl⟩
      rw [← hBe] at HV0 hBw hBM hBD
      rw [← hBe]
      clear hBe
      obtain ⟨C, hC⟩ : ∃ x, x = linkC xs := ⟨_, rfl⟩
      obtain ⟨D, hD⟩ : ∃ x, x = fun a => (adjAt xs a).1 := ⟨_, rfl⟩
      have HCB := Go.Lib.hid (fun a b => (by rw [hC]; exact linkC_le xs a b : C a b ≤ 1000))
      have HBE := Go.Lib.hid (fun r => (by rw [hC, hD]; rfl : best xs s f r = rnds C D s (iniB C s (fstF f)) r))
      rw [← hC] at HM1
      rw [← hD] at HD1
      clear hC hD
      go_loopw [14] (fun i wr => ∃ k : Nat, k ≤ 12 ∧ i = .int .i64 k ∧ Vec wr B (fun a => if a < k then gI (iniB C s (fstF f)) a else 0) ∧ Mat wr w.heap.size (fun a b => (C a b : Nat)) ∧ Bits wr (w.heap.size + 1) D ∧ Below w.heap.size w wr) (fun i _ => 12 - (intOf i).toNat)
      case atStart => exact ⟨0, Nat.zero_le _, rfl, HV0.out.eq (fun a _ => if_neg (Nat.not_lt_zero a)), HM1.out, HD1.out, HB1.out⟩
      case round =>
        clear HV0 HM1 HD1 HB1
        obtain ⟨i, hi, rfl, hv, hm, hd, hb⟩ := hrel
        have HV := Go.Lib.hid hv
        have HM2 := Go.Lib.hid hm
        have HD2 := Go.Lib.hid hd
        have HB2 := Go.Lib.hid hb
        clear hv hm hd hb
        by_cases hlt : i < 12
        · have hii : (i : Int) < 12 := by omega
          have hsi : (s : Int) < 12 := by omega
          have c1 := HV.out.cell i hlt
          have c2 := HV.out.fz i
          have c3 := (HM2.out.far (p := ⟨B, i, none⟩) hBM (.int .i64 (-1))).cell s i hs hlt
          have HG := Go.Lib.hid (iniB_at (C := C) (s := s) (F := fstF f) hlt)
          by_cases e1 : i = s
          · have f1 : ((i : Int) != (s : Int)) = false := by rw [bne_eq_false_iff_eq]; omega
            have HE := Go.Lib.hid (show gI (iniB C s (fstF f)) i = -1 by rw [HG.out, if_neg (fun h => h.1 e1)])
            clear e1
            go_wp2_with fail
            go_roundw
            case rel => exact ⟨i + 1, by omega, by go_num, ini_no HV.out hlt HE.out, HM2.out.far (p := ⟨B, i, none⟩) hBM _, HD2.out.far (p := ⟨B, i, none⟩) hBD _, HB2.out.setCell (p := ⟨B, i, none⟩) hBw _⟩
            case measure => simp [intOf]; omega
          · have f1 : ((i : Int) != (s : Int)) = true := by rw [bne_iff_ne]; omega
            by_cases e2 : C s i = 0
            · have f2 : decide (0 < C s i) = false := by rw [decide_eq_false_iff_not]; omega
              have HE := Go.Lib.hid (show gI (iniB C s (fstF f)) i = -1 by rw [HG.out, if_neg (fun h => h.2.1 e2)])
              clear e1 e2
              go_wp2_with fail
              go_roundw
              case rel => exact ⟨i + 1, by omega, by go_num, ini_no HV.out hlt HE.out, HM2.out.far (p := ⟨B, i, none⟩) hBM _, HD2.out.far (p := ⟨B, i, none⟩) hBD _, HB2.out.setCell (p := ⟨B, i, none⟩) hBw _⟩
              case measure => simp [intOf]; omega
            · have f2 : decide (0 < C s i) = true := by rw [decide_eq_true_eq]; omega
              by_cases e3 : f < 0
              · have f3 : decide (f < 0) = true := decide_eq_true e3
                have HE := Go.Lib.hid (show gI (iniB C s (fstF f)) i = (C s i : Int) by rw [HG.out, if_pos ⟨e1, e2, by unfold fstF; simp [e3]⟩])
                clear e1 e2 e3
                go_wp2_with fail
                go_roundw
                case rel => exact ⟨i + 1, by omega, by go_num, ini_yes HV.out hlt HE.out, (HM2.out.far (p := ⟨B, i, none⟩) hBM _).far (p := ⟨B, i, none⟩) hBM _, (HD2.out.far (p := ⟨B, i, none⟩) hBD _).far (p := ⟨B, i, none⟩) hBD _, (HB2.out.setCell (p := ⟨B, i, none⟩) hBw _).setCell (p := ⟨B, i, none⟩) hBw _⟩
                case measure => simp [intOf]; omega
              · have f3 : decide (f < 0) = false := decide_eq_false e3
                by_cases e4 : f = i
                · have f4 : (f == (i : Int)) = true := by rw [beq_iff_eq]; exact e4
                  have HE := Go.Lib.hid (show gI (iniB C s (fstF f)) i = (C s i : Int) by rw [HG.out, if_pos ⟨e1, e2, by unfold fstF; simp [e4]⟩])
                  clear e1 e2 e3 e4
                  go_wp2_with fail
                  go_roundw
                  case rel => exact ⟨i + 1, by omega, by go_num, ini_yes HV.out hlt HE.out, (HM2.out.far (p := ⟨B, i, none⟩) hBM _).far (p := ⟨B, i, none⟩) hBM _, (HD2.out.far (p := ⟨B, i, none⟩) hBD _).far (p := ⟨B, i, none⟩) hBD _, (HB2.out.setCell (p := ⟨B, i, none⟩) hBw _).setCell (p := ⟨B, i, none⟩) hBw _⟩
                  case measure => simp [intOf]; omega
                · have f4 : (f == (i : Int)) = false := by rw [beq_eq_false_iff_ne]; exact e4
                  have HE := Go.Lib.hid (show gI (iniB C s (fstF f)) i = -1 by rw [HG.out, if_neg (fun h => by have h2 := h.2.2; unfold fstF at h2; simp [e3, e4] at h2)])
                  clear e1 e2 e3 e4
                  go_wp2_with fail
                  go_roundw
                  case rel => exact ⟨i + 1, by omega, by go_num, ini_no HV.out hlt HE.out, HM2.out.far (p := ⟨B, i, none⟩) hBM _, HD2.out.far (p := ⟨B, i, none⟩) hBD _, HB2.out.setCell (p := ⟨B, i, none⟩) hBw _⟩
                  case measure => simp [intOf]; omega
        · have hii : ¬ (i : Int) < 12 := by omega
          have HV2 := Go.Lib.hid (HV.out.eq (m' := gI (best xs s f 0)) (fun a ha => by rw [if_pos (by omega), HBE.out]; rfl))
          clear HV
          go_wp2_with fail
          go_loopw [15] (fun i wr => ∃ r : Nat, r ≤ 12 ∧ i = .int .i64 r ∧ Vec wr B (gI (best xs s f r)) ∧ Mat wr w.heap.size (fun a b => (C a b : Nat)) ∧ Bits wr (w.heap.size + 1) D ∧ Below w.heap.size w wr) (fun i _ => 12 - (intOf i).toNat)
          case atStart => exact ⟨0, Nat.zero_le _, rfl, HV2.out, HM2.out, HD2.out, HB2.out⟩
          case round =>
            clear HV2 HM2 HD2 HB2
            obtain ⟨r, hr, rfl, hv, hm, hd, hb⟩ := hrel
            have HV := Go.Lib.hid hv
            have HM2 := Go.Lib.hid hm
            have HD2 := Go.Lib.hid hd
            have HB2 := Go.Lib.hid hb
            clear hv hm hd hb
            by_cases hlr : r < 12
            · have hri : (r : Int) < 12 := by omega
              go_wp2_with fail
              go_loopw [16] (fun i wr => ∃ a : Nat, a ≤ 12 ∧ i = .int .i64 a ∧ Vec wr B (gI (rndTo C D s (best xs s f r) a)) ∧ Mat wr w.heap.size (fun a b => (C a b : Nat)) ∧ Bits wr (w.heap.size + 1) D ∧ Below w.heap.size w wr) (fun i _ => 12 - (intOf i).toNat)
              case atStart => exact ⟨0, Nat.zero_le _, rfl, HV.out, HM2.out, HD2.out, HB2.out⟩
              case round =>
                clear HV HM2 HD2 HB2
                obtain ⟨a, ha, rfl, hv, hm, hd, hb⟩ := hrel
                have HV := Go.Lib.hid hv
                have HM2 := Go.Lib.hid hm
                have HD2 := Go.Lib.hid hd
                have HB2 := Go.Lib.hid hb
                clear hv hm hd hb
                by_cases hla : a < 12
                · have hai : (a : Int) < 12 := by omega
                  have HLB := Go.Lib.hid (show Bd 3000 (rndTo C D s (best xs s f r) a) by rw [HBE.out]; exact (rndTo_bd HCB.out (rnds_bd HCB.out (iniB_bd HCB.out) r) a).mono (by omega))
                  have HNX := Go.Lib.hid (show rndTo C D s (best xs s f r) (a + 1) = rowTo C D s (rndTo C D s (best xs s f r) a) a 12 from rfl)
                  obtain ⟨L, hL⟩ : ∃ x, x = rndTo C D s (best xs s f r) a := ⟨_, rfl⟩
                  rw [← hL] at HLB HNX HV
                  clear hL
                  go_wp2_with fail
                  go_loopw [17, 18] (fun i _ wr => ∃ b : Nat, b ≤ 12 ∧ i = .int .i64 b ∧ Vec wr B (gI (rowTo C D s L a b)) ∧ Mat wr w.heap.size (fun a b => (C a b : Nat)) ∧ Bits wr (w.heap.size + 1) D ∧ Below w.heap.size w wr) (fun i _ _ => 12 - (intOf i).toNat)
                  case atStart => exact ⟨0, Nat.zero_le _, rfl, HV.out, HM2.out, HD2.out, HB2.out⟩
                  case round =>
                    clear HV HM2 HD2 HB2
                    obtain ⟨b, hbl, rfl, hv, hm, hd, hb⟩ := hrel
                    have HV := Go.Lib.hid hv
                    have HM3 := Go.Lib.hid hm
                    have HD3 := Go.Lib.hid hd
                    have HB3 := Go.Lib.hid hb
                    clear hv hm hd hb
                    by_cases hb : b < 12
                    · have hbi : (b : Int) < 12 := by omega
                      have HRB := rowTo_bd (D := D) (s := s) HCB.out HLB.out a b (by omega)
                      have x1 := (HRB.2 a).1
                      have x2 := (HRB.2 a).2
                      have y1 := (HRB.2 b).1
                      have y2 := (HRB.2 b).2
                      have HL := Go.Lib.hid HRB.1
                      clear HRB
                      have x3 := HCB.out a b
                      have c1 := HV.out.cell a hla
                      have c2 := HV.out.cell b hb
                      have c3 := HV.out.fz b
                      have c4 := HM3.out.cell a b hla hb
                      have c5 := HD3.out.cell a hla
                      obtain ⟨X, hX⟩ : ∃ x, x = gI (rowTo C D s L a b) a := ⟨_, rfl⟩
                      obtain ⟨Y, hY⟩ : ∃ x, x = gI (rowTo C D s L a b) b := ⟨_, rfl⟩
                      have HX := Go.Lib.hid hX
                      have HY := Go.Lib.hid hY
                      rw [← hX] at x1 x2 c1
                      rw [← hY] at y1 y2 c2
                      by_cases e1 : a = s
                      · have f1 : ((a : Int) == (s : Int)) = true := by rw [beq_iff_eq]; omega
                        have HR := Go.Lib.hid (relax_no (a := a) (b := b) (s := s) (L := L) (C := C) (D := D) (.inl e1))
                        go_wp2_with fail
                        go_roundw
                        case rel => exact ⟨b + 1, by omega, by go_num, by rw [HR.out]; exact HV.out, HM3.out, HD3.out, HB3.out⟩
                        case measure => simp [intOf]; omega
                      · have f1 : ((a : Int) == (s : Int)) = false := by rw [beq_eq_false_iff_ne]; omega
                        by_cases e2 : b = s
                        · have f2 : ((b : Int) == (s : Int)) = true := by rw [beq_iff_eq]; omega
                          have HR := Go.Lib.hid (relax_no (a := a) (b := b) (s := s) (L := L) (C := C) (D := D) (.inr (.inl e2)))
                          go_wp2_with fail
                          go_roundw
                          case rel => exact ⟨b + 1, by omega, by go_num, by rw [HR.out]; exact HV.out, HM3.out, HD3.out, HB3.out⟩
                          case measure => simp [intOf]; omega
                        · have f2 : ((b : Int) == (s : Int)) = false := by rw [beq_eq_false_iff_ne]; omega
                          by_cases e3 : X < 0
                          · have f3 : decide (X < 0) = true := decide_eq_true e3
                            have HR := Go.Lib.hid (relax_no (a := a) (b := b) (s := s) (L := L) (C := C) (D := D) (.inr (.inr (.inl (hX ▸ e3)))))
                            go_wp2_with fail
                            go_roundw
                            case rel => exact ⟨b + 1, by omega, by go_num, by rw [HR.out]; exact HV.out, HM3.out, HD3.out, HB3.out⟩
                            case measure => simp [intOf]; omega
                          · have f3 : decide (X < 0) = false := decide_eq_false e3
                            by_cases e4 : D a = true
                            · rw [e4] at c5
                              have HR := Go.Lib.hid (relax_no (a := a) (b := b) (s := s) (L := L) (C := C) (D := D) (.inr (.inr (.inr (.inl e4)))))
                              go_wp2_with fail
                              go_roundw
                              case rel => exact ⟨b + 1, by omega, by go_num, by rw [HR.out]; exact HV.out, HM3.out, HD3.out, HB3.out⟩
                              case measure => simp [intOf]; omega
                            · have f4 : D a = false := by simpa using e4
                              rw [f4] at c5
                              by_cases e5 : C a b = 0
                              · have f5 : ((C a b : Int) == 0) = true := by rw [beq_iff_eq]; omega
                                have HR := Go.Lib.hid (relax_no (a := a) (b := b) (s := s) (L := L) (C := C) (D := D) (.inr (.inr (.inr (.inr e5)))))
                                go_wp2_with fail
                                go_roundw
                                case rel => exact ⟨b + 1, by omega, by go_num, by rw [HR.out]; exact HV.out, HM3.out, HD3.out, HB3.out⟩
                                case measure => simp [intOf]; omega
                              · have f5 : ((C a b : Int) == 0) = false := by rw [beq_eq_false_iff_ne]; omega
                                have h0 := Go.Lib.hid (show ¬ (a = s ∨ b = s ∨ gI (rowTo C D s L a b) a < 0 ∨ D a = true ∨ C a b = 0) by rw [← hX]; rintro (e | e | e | e | e) <;> contradiction)
                                clear e1 e2 e3 e4 e5
                                by_cases e6 : Y < 0
                                · have f6 : decide (Y < 0) = true := decide_eq_true e6
                                  have HR := Go.Lib.hid (relax_set (a := a) (b := b) (s := s) (L := L) (C := C) (D := D) h0.out (.inl (hY ▸ e6)))
                                  clear hX hY
                                  go_wp2_with fail
                                  go_quiet (fail)
                                  go_wp2_with fail
                                  go_roundw
                                  case rel => exact ⟨b + 1, by omega, by go_num, (HV.out.drewN nq).set hb _ (fun x hx => by rw [HR.out, set_gI HL.out hb, ← HX.out]), (HM3.out.drewN nq).far (p := ⟨B, b, none⟩) hBM _, (HD3.out.drewN nq).far (p := ⟨B, b, none⟩) hBD _, (bDrewN HB3.out nq).setCell (p := ⟨B, b, none⟩) hBw _⟩
                                  case measure => simp [intOf]; omega
                                · have f6 : decide (Y < 0) = false := decide_eq_false e6
                                  by_cases e7 : X + C a b < Y
                                  · have f7 : decide (X + C a b < Y) = true := decide_eq_true e7
                                    have HR := Go.Lib.hid (relax_set (a := a) (b := b) (s := s) (L := L) (C := C) (D := D) h0.out (.inr (hX ▸ hY ▸ e7)))
                                    clear hX hY
                                    go_wp2_with fail
                                    go_quiet (fail)
                                    go_wp2_with fail
                                    go_roundw
                                    case rel => exact ⟨b + 1, by omega, by go_num, (HV.out.drewN nq).set hb _ (fun x hx => by rw [HR.out, set_gI HL.out hb, ← HX.out]), (HM3.out.drewN nq).far (p := ⟨B, b, none⟩) hBM _, (HD3.out.drewN nq).far (p := ⟨B, b, none⟩) hBD _, (bDrewN HB3.out nq).setCell (p := ⟨B, b, none⟩) hBw _⟩
                                    case measure => simp [intOf]; omega
                                  · have f7 : decide (X + C a b < Y) = false := decide_eq_false e7
                                    have HR := Go.Lib.hid (relax_keep (b := b) (a := a) (s := s) (L := L) (C := C) (D := D) (by rw [← hX, ← hY]; rintro (e | e) <;> contradiction))
                                    clear hX hY
                                    go_wp2_with fail
                                    go_quiet (fail)
                                    go_wp2_with fail
                                    go_roundw
                                    case rel => exact ⟨b + 1, by omega, by go_num, by rw [HR.out]; exact HV.out.drewN nq, HM3.out.drewN nq, HD3.out.drewN nq, bDrewN HB3.out nq⟩
                                    case measure => simp [intOf]; omega
                    · have hbi : ¬ (b : Int) < 12 := by omega
                      obtain rfl : b = 12 := by omega
                      go_wp2_with fail
                      go_roundw
                      case rel => exact ⟨a + 1, by omega, by go_num, by rw [HNX.out]; exact HV.out, HM3.out, HD3.out, HB3.out⟩
                      case measure => simp [intOf]; omega
                · have hai : ¬ (a : Int) < 12 := by omega
                  obtain rfl : a = 12 := by omega
                  go_wp2_with fail
                  go_roundw
                  case rel => exact ⟨r + 1, by omega, by go_num, by rw [HBE.out]; rw [HBE.out] at HV; exact HV.out, HM2.out, HD2.out, HB2.out⟩
                  case measure => simp [intOf]; omega
            · have hri : ¬ (r : Int) < 12 := by omega
              obtain rfl : r = 12 := by omega
              have c1 := HV.out.cell q hq
              have hqi : (q : Int) < 12 := by omega
              go_wp2_with fail
              go_ret
              exact ⟨rfl, HB2.out⟩
end Go.Proofs.YtcbkimbeljhbhaaGreatDoor
