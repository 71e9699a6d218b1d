/-
  What a store tells, node by node. Plain lemmas, no program in sight.
  Told: what a store tells, walked.
-/
import Derived.Test.YtcbkimbeljhbhaaGreatDoorGTaE
import Derived.Test.YtcbkimbeljhbhaaGreatDoorGStE
import Derived.Test.YtcbkimbeljhbhaaGreatDoorGSrt2
import Derived.Test.YtcbkimbeljhbhaaGreatDoorGDoT
import Derived.Test.YtcbkimbeljhbhaaGreatDoorGTbG
import Derived.Deep.MidRow
set_option linter.unusedVariables false
set_option linter.unusedSimpArgs false
namespace Go.Proofs.YtcbkimbeljhbhaaGreatDoor
open Go

/-- what the nodes ahead of k tell -/
def toldTo (xs : List Entry) (k : Nat) : Gph := ⟨fun a b => if a < k ∧ a ≠ b then sideC (adjAt xs a).2 b else 0, fun a => if a < k then (adjAt xs a).1 else false, fun a => if a < k then prefsAt xs a else []⟩
theorem told_row {xs : List Entry} {k : Nat} (a b : Nat) : putSides (toldTo xs k).C k (adjAt xs k).2 a b = (toldTo xs (k + 1)).C a b := by
  have hl := adjAt_chk xs k
  show _ = if a < k + 1 ∧ a ≠ b then sideC (adjAt xs a).2 b else 0
  by_cases e : a = k
  · subst e
    by_cases e2 : b = a
    · subst e2
      rw [puts_self (by show (if b < b ∧ b ≠ b then _ else (0 : Int)) = 0; rw [if_neg (fun h => h.2 rfl)]) _ (fun x hx => by
        obtain ⟨i, hi, rfl⟩ := List.getElem_of_mem hx
        exact (sides_all hl i hi).1), if_neg (fun h => h.2 rfl)]
    · have := puts_take (C := (toldTo xs a).C) (n := a) (b := b) hl (by show (if a < a ∧ a ≠ b then _ else (0 : Int)) = 0; rw [if_neg (fun h => by omega)]) e2 (adjAt xs a).2.length (Nat.le_refl _)
      rw [List.take_length] at this
      rw [this, if_pos ⟨by omega, fun h => e2 h.symm⟩]
  · rw [puts_other e]
    show (if a < k ∧ a ≠ b then sideC (adjAt xs a).2 b else 0) = _
    have : (a < k ∧ a ≠ b) ↔ (a < k + 1 ∧ a ≠ b) := by omega
    simp only [this]
theorem told_drn {xs : List Entry} {k : Nat} (a : Nat) : (if a = k then (adjAt xs k).1 else (toldTo xs k).D a) = (toldTo xs (k + 1)).D a := by
  show _ = if a < k + 1 then (adjAt xs a).1 else false
  by_cases e : a = k
  · subst e; rw [if_pos rfl, if_pos (by omega)]
  · rw [if_neg e]
    show (if a < k then (adjAt xs a).1 else false) = _
    have : (a < k) ↔ (a < k + 1) := by omega
    simp only [this]
theorem told_prf {xs : List Entry} {k : Nat} (a : Nat) : (if a = k then prefsAt xs k else (toldTo xs k).P a) = (toldTo xs (k + 1)).P a := by
  show _ = if a < k + 1 then prefsAt xs a else []
  by_cases e : a = k
  · subst e; rw [if_pos rfl, if_pos (by omega)]
  · rw [if_neg e]
    show (if a < k then prefsAt xs a else []) = _
    have : (a < k) ↔ (a < k + 1) := by omega
    simp only [this]
theorem told_all {xs : List Entry} (h : checkS xs = 0) (a b : Nat) (ha : a < 12) (hb : b < 12) : symAll (toldTo xs 12).C a b = (linkC xs a b : Nat) := by
  obtain ⟨g1, _⟩ := graphS_links h
  obtain ⟨g2, _⟩ := gph_take (okS_of h) xs.length (Nat.le_refl _)
  rw [← g1 a b ha hb]
  show symAll (toldTo xs 12).C a b = symAll (gphTo xs xs.length).C a b
  have key : ∀ a b, a < 12 → b < 12 → (toldTo xs 12).C a b = (gphTo xs xs.length).C a b := by
    intro a b ha hb
    rw [g2 a b ha hb, List.take_length]
    show (if a < 12 ∧ a ≠ b then sideC (adjAt xs a).2 b else 0) = _
    by_cases e : a = b
    · rw [if_neg (fun h => h.2 e), if_pos e]
    · rw [if_pos ⟨ha, e⟩, if_neg e]
  unfold symAll
  rw [key a b ha hb, key b a hb ha]
theorem told_end {xs : List Entry} (a : Nat) (ha : a < 12) : (toldTo xs 12).D a = (adjAt xs a).1 ∧ (toldTo xs 12).P a = prefsAt xs a :=
  ⟨if_pos ha, if_pos ha⟩
/-- what Get finds of a node -/
theorem get_adj {xs : List Entry} (h : checkS xs = 0) (n : Nat) : ((getS xs (keyA n)).2 = 0 ∧ adjAt xs n = ((readAdj (getS xs (keyA n)).1.value.data.toList).1, (readAdj (getS xs (keyA n)).1.value.data.toList).2.1)) ∨
    ((getS xs (keyA n)).2 = 6 ∧ adjAt xs n = (false, [])) := by
  unfold getS adjAt
  rw [if_pos h]
  rcases hf : findE xs (keyA n) with _ | e
  · exact .inr ⟨rfl, rfl⟩
  · exact .inl ⟨rfl, rfl⟩
theorem get_pref {xs : List Entry} (h : checkS xs = 0) (n : Nat) : ((getS xs (keyP n)).2 = 0 ∧ prefsAt xs n = (readPrefs (getS xs (keyP n)).1.value.data.toList).1) ∨
    ((getS xs (keyP n)).2 = 6 ∧ prefsAt xs n = []) := by
  unfold getS prefsAt
  rw [if_pos h]
  rcases hf : findE xs (keyP n) with _ | e
  · exact .inr ⟨rfl, rfl⟩
  · exact .inl ⟨rfl, rfl⟩
theorem get_size {xs : List Entry} (h : checkS xs = 0) (k : ByteArray) : (getS xs k).1.value.size < 4294967281 ∧ (getS xs k).1.key.size ≤ maxLen := by
  have hs := sizes_of h
  unfold getS
  rw [if_pos h]
  rcases hf : findE xs k with _ | e
  · exact ⟨by decide, by decide⟩
  · have := hs e (findE_key hf).2
    exact ⟨this.2, by unfold maxLen; show e.key.size ≤ _; omega⟩
theorem dec_le {n : Nat} (h : n < 12) : (Lib.decDigits n).length ≤ 20 := Nat.le_trans (dec_len 1 n (by show _ < 100; omega)) (by omega)

/-- all that a store tells, as a value in cells -/
structure NetV (w : World) (cs : List Value) (xs : List Entry) : Prop where
  len : cs.length = 168
  one : ∀ v ∈ cs, v.oneCell' = true
  cost : ∀ a b, a < 12 → b < 12 → cs[a * 12 + b]? = some (.int .i64 (linkC xs a b : Nat))
  drn : ∀ a, a < 12 → cs[144 + a]? = some (.bool (adjAt xs a).1)
  prf : ∀ a, a < 12 → ∃ v, cs[156 + a]? = some v ∧ Sl prefR w v (prefsAt xs a)
end Go.Proofs.YtcbkimbeljhbhaaGreatDoor

namespace Go.Proofs.YtcbkimbeljhbhaaGreatDoor
open Go Go.RowKit Go.Deep

def zero168 : List Value := List.replicate 144 (.int .i64 0) ++ (List.replicate 12 (.bool false) ++ List.replicate 12 (.slice none 0 0))
theorem zero_net : Tryz.zeroCells44.toList = zero168 := by kernel_rfl
theorem zero168_one : ∀ v ∈ zero168, v.oneCell' = true := fun v hv => by
  unfold zero168 at hv
  rcases List.mem_append.1 hv with h | h
  · rw [(List.mem_replicate.1 h).2]; rfl
  · rcases List.mem_append.1 h with h | h
    · rw [(List.mem_replicate.1 h).2]; rfl
    · rw [(List.mem_replicate.1 h).2]; rfl
theorem zero168_len : zero168.length = 168 := zlen
theorem net_there {w : World} {B : Nat} (hB : B = w.heap.size) (T : TypeId) : (w.alloc (.cells Tryz.zeroCells44 T)).there B 0 168 := by
  intro j hj
  rw [Nat.zero_add]
  refine ⟨?_, World.frozen?_alloc_at _ _ _ _ hB⟩
  rw [World.cell?_alloc_at _ _ _ _ hB, ← Array.getElem?_toList, zero_net]
  rw [List.getElem?_eq_getElem (by rw [zero168_len]; exact hj)]; rfl
theorem net_run (w : World) (G : Nat) (ht : w.there G 0 168) : (storeCells ⟨G, 0, none⟩ Tryz.zeroCells44.toList).run Tryz.prog w = .ok () (w.setCells G 0 Tryz.zeroCells44.toList) := by
  refine run_storeCells_cells (P := Tryz.prog) G 0 _ 0 w (fun j hj => ?_) (fun j hj => ?_) (fun v hv => ?_)
  · have := (ht j (by rw [zero_net, zero168_len] at hj; exact hj)).1; simpa using this
  · have := (ht j (by rw [zero_net, zero168_len] at hj; exact hj)).2; simpa using this
  · rw [zero_net] at hv; exact zero168_one v hv
theorem net_gr {w : World} {G : Nat} (ht : w.there G 0 168) (hl : G < w.heap.size) (hf : ∀ o, w.frozen? ⟨G, o, none⟩ = false) (xs : List Entry) : Gr (w.setCells G 0 Tryz.zeroCells44.toList) G (toldTo xs 0) := by
  have hz : ∀ j, (hj : j < 168) → (w.setCells G 0 Tryz.zeroCells44.toList).cell? ⟨G, j, none⟩ = zero168[j]? := by
    intro j hj
    rw [zero_net]
    have := World.cell?_setCells_in G zero168 0 w (fun j hj => (ht j (by rw [zero168_len] at hj; exact hj)).1) j (by rw [zero168_len]; exact hj)
    rw [Nat.zero_add] at this
    rw [this, List.getElem?_eq_getElem]
  unfold zero168 at hz
  refine ⟨fun i j hi hj => ?_, fun i hi => ?_, fun i hi => ⟨.slice none 0 0, ?_, SlF.nil _ _ _⟩, fun o => by rw [World.frozen?_setCells]; exact hf o, ?_⟩
  · rw [hz _ (by omega), List.getElem?_append_left (by simp; omega), List.getElem?_replicate, if_pos (by omega)]; rw [show (toldTo xs 0).C i j = 0 by show (if i < 0 ∧ i ≠ j then sideC (adjAt xs i).2 j else 0) = 0; rw [if_neg (fun h => by omega)]]
  · rw [hz _ (by omega), List.getElem?_append_right (by simp), List.getElem?_append_left (by simp; omega), List.getElem?_replicate, if_pos (by simp; omega)]; rw [show (toldTo xs 0).D i = false by show (if i < 0 then (adjAt xs i).1 else false) = false; rw [if_neg (by omega)]]
  · rw [hz _ (by omega), List.getElem?_append_right (by simp; omega), List.getElem?_append_right (by simp; omega), List.getElem?_replicate, if_pos (by simp; omega)]
  · have := (World.keptBut_setCells G (may := fun p => p.block = G) Tryz.zeroCells44.toList 0 w (fun _ _ => rfl)).size
    omega
theorem results_cell {P : Program} {fn : Func} {a : Tmp} {t : TypeId} (h : fn.results = #[.cell a t]) {tmps : Array Value} {w : World} {ad : Addr} {v : Value} (hp : tmps.getD a undef = .pointer (some ad)) (hl : (loadVar t ad).run P w = .ok v w) : (results fn tmps).run P w = .ok v w := by
  have hp' : tmps[a]?.getD undef = .pointer (some ad) := by simpa using hp
  simp [results, h, hp', hl, asAddr]
theorem heap_setCells_other {g k : Nat} (h : k ≠ g) : ∀ (vs : List Value) (o : Nat) (w : World), (w.setCells g o vs).heap[k]? = w.heap[k]?
  | [], _, _ => rfl
  | v :: r, o, w => (heap_setCells_other h r (o + 1) (w.setCell ⟨g, o, none⟩ v)).trans (Below.heap_setCell _ _ _ _ (by exact h))
theorem size_setCellsK (g : Nat) : ∀ (vs : List Value) (o : Nat) (w : World), (w.setCells g o vs).heap.size = w.heap.size
  | [], _, _ => rfl
  | v :: r, o, w => (size_setCellsK g r (o + 1) (w.setCell ⟨g, o, none⟩ v)).trans (by simp [World.setCell])
/-- all that lies in the cells of a graph -/
theorem gr_cells {w : World} {G : Nat} {g : Gph} (h : Gr w G g) : ∃ cs : List Value, cs.length = 168 ∧ (∀ v ∈ cs, v.oneCell' = true) ∧ w.rangeAt G 0 cs ∧ (∀ a b, a < 12 → b < 12 → cs[a * 12 + b]? = some (.int .i64 (g.C a b))) ∧ (∀ a, a < 12 → cs[144 + a]? = some (.bool (g.D a))) ∧ ∀ a, a < 12 → ∃ v, cs[156 + a]? = some v ∧ SlF prefR (G + 1) w v (g.P a) := by
  have hv : ∀ a, a < 12 → ∃ v, w.cell? ⟨G, 156 + a, none⟩ = some v ∧ SlF prefR (G + 1) w v (g.P a) := h.prf
  obtain ⟨V, hV⟩ := choose_lt hv
  refine ⟨(List.range 144).map (fun i => Value.int .i64 (g.C (i / 12) (i % 12))) ++ ((List.range 12).map (fun a => Value.bool (g.D a)) ++ (List.range 12).map V), by simp, fun v hv => ?_, fun j v hj => ?_, fun a b ha hb => ?_, fun a ha => ?_, fun a ha => ⟨V a, ?_, (hV a ha).2⟩⟩
  · rcases List.mem_append.1 hv with h1 | h1
    · obtain ⟨i, _, rfl⟩ := List.mem_map.1 h1; rfl
    · rcases List.mem_append.1 h1 with h1 | h1
      · obtain ⟨i, _, rfl⟩ := List.mem_map.1 h1; rfl
      · obtain ⟨i, hi, rfl⟩ := List.mem_map.1 h1
        obtain ⟨_, _, e, _⟩ := (hV i (List.mem_range.1 hi)).2
        rw [e]; rfl
  · rw [Nat.zero_add]
    by_cases h1 : j < 144
    · rw [List.getElem?_append_left (by simpa using h1), List.getElem?_map, List.getElem?_range h1] at hj
      injection hj with hj
      subst hj
      have := h.cost (j / 12) (j % 12) (by omega) (by omega)
      rw [show j / 12 * 12 + j % 12 = j by omega] at this
      exact this
    · rw [List.getElem?_append_right (by simp; omega), List.length_map, List.length_range] at hj
      by_cases h2 : j < 156
      · rw [List.getElem?_append_left (by simp; omega), List.getElem?_map, List.getElem?_range (by omega)] at hj
        injection hj with hj
        subst hj
        have := h.drn (j - 144) (by omega)
        rw [show 144 + (j - 144) = j by omega] at this
        exact this
      · rw [List.getElem?_append_right (by simp; omega), List.length_map, List.length_range] at hj
        have h3 : j - 144 - 12 < 12 := by
          have := (List.getElem?_eq_some_iff.1 hj).1
          simpa using this
        rw [List.getElem?_map, List.getElem?_range h3] at hj
        injection hj with hj
        subst hj
        have := (hV (j - 144 - 12) h3).1
        rw [show 156 + (j - 144 - 12) = j by omega] at this
        exact this
  · rw [List.getElem?_append_left (by simp; omega), List.getElem?_map, List.getElem?_range (by omega)]
    show some (Value.int .i64 (g.C ((a * 12 + b) / 12) ((a * 12 + b) % 12))) = _
    rw [show (a * 12 + b) / 12 = a by omega, show (a * 12 + b) % 12 = b by omega]
  · rw [List.getElem?_append_right (by simp), List.getElem?_append_left (by simp; omega), List.getElem?_map, List.length_map, List.length_range, List.getElem?_range (by omega)]
    show some (Value.bool (g.D (144 + a - 144))) = _
    rw [show 144 + a - 144 = a by omega]
  · rw [List.getElem?_append_right (by simp; omega), List.getElem?_append_right (by simp; omega), List.getElem?_map, List.length_map, List.length_range, List.length_map, List.length_range, List.getElem?_range (by omega)]
    show some (V (156 + a - 144 - 12)) = _
    rw [show 156 + a - 144 - 12 = a by omega]


set_option maxRecDepth 100000 in
set_option maxHeartbeats 8000000 in
theorem told_any (v : Value) (xs : List Entry) (w : World) (h : Sl entR w v xs) (hc : checkS xs = 0) (hE : Env w) :
    Calls Tryz.prog 14 #[v] w fun e w' => ∃ cs : List Value, e = .returned (.agg cs.toArray) ∧ NetV w' cs xs ∧ Below w.heap.size w w' := by
  obtain ⟨A, c, rfl⟩ := h.form
  have HC := Go.Lib.hid hc
  have hal0 := (Below.refl w.heap.size w).alloc (Nat.le_refl _) (.cells Tryz.zeroCells44 44)
  have HAL0 := Go.Lib.hid hal0
  have H := Go.Lib.hid (h.below hal0)
  have HE := Go.Lib.hid (hE.below hal0)
  have HT0 := Go.Lib.hid (net_there (w := w) rfl 44)
  have hth := net_there (w := w.alloc (.cells Tryz.zeroCells44 44)) (B := w.heap.size + 1) (by simp) 44
  have hzr := net_run _ _ hth
  have HZ := Go.Lib.hid (net_gr hth (by simp) (fun o => World.frozen?_alloc_at _ _ _ _ (by simp)) xs)
  have HB0 := Go.Lib.hid (below_setCells ((Below.refl (w.alloc (.cells Tryz.zeroCells44 44)).heap.size (w.alloc (.cells Tryz.zeroCells44 44))).alloc (Nat.le_refl _) (.cells Tryz.zeroCells44 44)) (show (w.alloc (.cells Tryz.zeroCells44 44)).heap.size ≤ w.heap.size + 1 by simp) Tryz.zeroCells44.toList 0)
  clear h hE hc hal0 hth
  go_enter Tryz.func14, Tryz.ntmps14
  go_wp2_with fail
  clear hzr
  obtain ⟨W, hW⟩ : ∃ x, x = ((w.alloc (.cells Tryz.zeroCells44 44)).alloc (.cells Tryz.zeroCells44 44)).setCells (w.heap.size + 1) 0 Tryz.zeroCells44.toList := ⟨_, rfl⟩
  obtain ⟨G, hG⟩ : ∃ x, x = w.heap.size + 1 := ⟨_, rfl⟩
  rw [← hW, ← hG] at HZ
  rw [← hW] at HB0
  rw [← hW, ← hG]
  obtain ⟨w0, hw0⟩ : ∃ x, x = w.alloc (.cells Tryz.zeroCells44 44) := ⟨_, rfl⟩
  have HG := Go.Lib.hid (show w0.heap.size ≤ G by rw [hw0, hG]; simp)
  have HRG := Go.Lib.hid (show w.heap.size < G by omega)
  rw [← hw0] at HB0 H HE HAL0 HT0
  clear hW hG hw0
  go_loopw [16] (fun u wr => ∃ k : Nat, k ≤ 12 ∧ u = .int .i64 k ∧ Gr wr G (toldTo xs k) ∧ Below w0.heap.size w0 wr) (fun u _ => 12 - (intOf u).toNat)
  case atStart => exact ⟨0, Nat.zero_le _, rfl, HZ.out, HB0.out⟩
  case round =>
    obtain ⟨k, hk, rfl, hg, hb⟩ := hrel
    have HGR := Go.Lib.hid hg
    have HB := Go.Lib.hid hb
    clear hg hb HZ HB0
    by_cases hkl : k < 12
    · have hki : (k : Int) < 12 := by omega
      have hk0 : (0 : Int) ≤ (k : Int) := Int.natCast_nonneg k
      have HIT := Go.Lib.hid (fun w' (hb : Below w0.heap.size w0 w') => ((itoa_any (k : Int) w' (by unfold inR; omega) (HE.out.below hb).tab).mono (fun e w'' ⟨he, hb'⟩ => ⟨(by rw [he, itoa_nat]), hb'⟩) : Calls Tryz.prog 36 #[.int .i64 (k : Int)] w' fun e w'' => e = .returned (.string (bOf (Lib.decDigits k))) ∧ Below w'.heap.size w' w''))
      have hr1 := fun w => key_run k (dec_le hkl) w
      have hr2 := fun w => key_runP k (dec_le hkl) w
      have HA := Go.Lib.hid (get_any (.slice A xs.length c) xs (keyA k))
      have HAG := Go.Lib.hid (get_adj HC.out k)
      have HAS := Go.Lib.hid (get_size HC.out (keyA k))
      obtain ⟨ga, hga⟩ : ∃ g, g = getS xs (keyA k) := ⟨_, rfl⟩
      rw [← hga] at HAG HAS HA
      clear hga
      obtain ⟨ea, ca⟩ := ga
      go_wp2_with (go_at_call 36; refine (HIT.out _ HB.out).mono ?_; rintro e w1 ⟨rfl, hb1⟩; have HB1 := Go.Lib.hid (HB.out.trans (hb1.mono HB.out.size)); have HG1 := Go.Lib.hid (HGR.out.below hb1); clear hb1)
      refine (HA.out _ (H.out.below HB1.out)).mono ?_
      rintro e w2 ⟨rfl, hb2⟩
      unfold Entry.val
      have hal2 := (Below.refl w2.heap.size w2).alloc (Nat.le_refl _) (.cells #[.string ea.key, .int .i64 ea.version, .int .i64 ea.origin, .string ea.value] 50)
      have HG2 := Go.Lib.hid ((HG1.out.below hb2).below hal2)
      have HB2 := Go.Lib.hid ((HB1.out.trans (hb2.mono HB1.out.size)).trans (hal2.mono (by have := HB1.out.size; have := hb2.size; omega)))
      have p3 : (w2.alloc (.cells #[.string ea.key, .int .i64 ea.version, .int .i64 ea.origin, .string ea.value] 50)).cell? ⟨w2.heap.size, 3, none⟩ = some (.string ea.value) := by rw [World.cell?_alloc_at _ _ _ _ rfl]; rfl
      clear hb2 hal2 HG1
      by_cases hca : ca = 0
      · subst hca
        have had : adjAt xs k = ((readAdj ea.value.data.toList).1, (readAdj ea.value.data.toList).2.1) := by
          rcases HAG.out with h | h
          · exact h.2
          · exact absurd h.1 (by show ¬ (0 : Int) = 6; omega)
        have HAD := Go.Lib.hid had
        have HRA := Go.Lib.hid (fun w hE => readAdj_fr ea.value w HAS.out.1 hE)
        have HLC := Go.Lib.hid (readAdj_chk ea.value.data.toList)
        clear had
        go_wp2_with fail
        obtain ⟨W2, hW2⟩ : ∃ x, x = w2.alloc (.cells #[.string ea.key, .int .i64 ea.version, .int .i64 ea.origin, .string ea.value] 50) := ⟨_, rfl⟩
        rw [← hW2] at HG2 HB2
        rw [← hW2]
        clear hW2 p3
        refine (HRA.out W2 (HE.out.below HB2.out)).mono ?_
        rintro e w3 ⟨v3, rfl, hv3, hb3⟩
        obtain ⟨A3, c3, rfl⟩ := hv3.sl.form
        have hal3 := (Below.refl w3.heap.size w3).alloc (Nat.le_refl _) (.cells #[.bool (readAdj ea.value.data.toList).1, .slice A3 (readAdj ea.value.data.toList).2.1.length c3] 53)
        have HG3 := Go.Lib.hid ((HG2.out.below hb3).below hal3)
        have HV3 := Go.Lib.hid ((hv3.below hal3).mono (show G + 1 ≤ W2.heap.size from HG2.out.lt))
        have HB3 := Go.Lib.hid ((HB2.out.trans (hb3.mono HB2.out.size)).trans (hal3.mono (by have := HB2.out.size; have := hb3.size; omega)))
        have y0 := HG3.out.drn k hkl
        have y1 := HG3.out.fz (144 + k)
        have hlt3 := HG3.out.lt
        have hGW : ¬ G = w3.heap.size := by have := HG2.out.lt; have := hb3.size; omega
        have hWG : ¬ w3.heap.size = G := fun e => hGW e.symm
        clear hv3 hb3 hal3
        generalize (readAdj ea.value.data.toList).2.1 = L at *
        generalize (readAdj ea.value.data.toList).1 = d at *
        generalize (readAdj ea.value.data.toList).2.2 = n3 at *
        go_wp2_with fail
        clear y0 y1
        go_loopw [43] (fun u wr => ∃ j : Nat, j ≤ L.length ∧ u = .int .i64 j ∧ Gr wr G { C := putSides (toldTo xs k).C k (L.take j), D := fun a => if a = k then d else (toldTo xs k).D a, P := (toldTo xs k).P } ∧ Below w0.heap.size w0 wr ∧ SlF sideR (G + 1) wr (.slice A3 L.length c3) L) (fun u _ => L.length - (intOf u).toNat)
        case atStart => exact ⟨0, Nat.zero_le _, rfl, HG3.out.setD hkl d, HB3.out.setCell (p := ⟨G, 144 + k, none⟩) HG.out (.bool d), SlR.keep HV3.out (fun q hq => Below.heap_setCell _ _ _ _ (by show q ≠ G; omega)) (fun q hq => ⟨by simp only [World.setCell]; have := hq.1; simpa using this, hq.2⟩)⟩
        case round =>
          obtain ⟨j, hj, rfl, hg, hb, hv⟩ := hrel
          have HGR2 := Go.Lib.hid hg
          have HBB := Go.Lib.hid hb
          have HVV := Go.Lib.hid hv
          clear hg hb HG3 HB3 HV3
          have hll := hv.sl.len_le
          by_cases hjl : j < L.length
          · have hji : (j : Int) < (L.length : Int) := by omega
            obtain ⟨b3, o3, rfl, hb3⟩ := hv.sl.at_ hjl
            obtain ⟨g1, g2, g3, g4⟩ := hv.sl.side hjl
            obtain ⟨l1, l2, l3, l4⟩ := sides_all HLC.out j hjl
            obtain ⟨m, hm⟩ : ∃ m : Nat, L[j].node = m := ⟨L[j].node.toNat, by omega⟩
            have hml : m < 12 := by omega
            have hmi : (m : Int) < 12 := by omega
            have hm0 : (0 : Int) ≤ (m : Int) := Int.natCast_nonneg m
            have HPS := Go.Lib.hid (putSides_succ (C := (toldTo xs k).C) (n := k) hjl)
            have hs1 : ∀ C, sideC1 k C L[j] = if m = k then C else updC C k m L[j].cost := by
              intro C; unfold sideC1; rw [hm]
              by_cases e : m = k
              · rw [if_pos (by omega), if_pos e]
              · rw [if_neg (by omega), if_neg e]; rfl
            have HS1 := Go.Lib.hid hs1
            rw [hm] at g1
            have hal := (Below.refl wr.heap.size wr).alloc (Nat.le_refl _) (.cells #[.int .i64 m, .int .i64 L[j].cost] 57)
            have HALS := Go.Lib.hid hal
            clear hs1 hv g3 g4 hal
            generalize L[j].cost = cj at *
            clear l1 l2 l3 l4 hm
            by_cases e : m = k
            · have eb : ((m : Int) != (k : Int)) = false := by rw [bne_eq_false_iff_eq]; omega
              have HE1 := Go.Lib.hid e
              clear e
              go_wp2_with fail
              go_roundw
              case rel => exact ⟨j + 1, by omega, by go_num, by rw [HPS.out, HS1.out, if_pos HE1.out]; exact HGR2.out.below HALS.out, HBB.out.trans (HALS.out.mono HBB.out.size), HVV.out.below HALS.out⟩
              case measure => simp [intOf]; omega
            · have eb : ((m : Int) != (k : Int)) = true := by rw [bne_iff_ne]; omega
              have HE1 := Go.Lib.hid e
              clear e
              have HGR3 := Go.Lib.hid (HGR2.out.below HALS.out)
              have HBB3 := Go.Lib.hid (HBB.out.trans (HALS.out.mono HBB.out.size))
              have HVV3 := Go.Lib.hid (HVV.out.below HALS.out)
              go_wp2_with fail
              obtain ⟨W4, hW4⟩ : ∃ x, x = wr.alloc (.cells #[.int .i64 m, .int .i64 cj] 57) := ⟨_, rfl⟩
              obtain ⟨B4, hB4⟩ : ∃ x, x = wr.heap.size := ⟨_, rfl⟩
              have u0 : W4.cell? ⟨B4, 0, none⟩ = some (.int .i64 m) := by rw [hW4, hB4, World.cell?_alloc_at _ _ _ _ rfl]; rfl
              have u1 : W4.cell? ⟨B4, 1, none⟩ = some (.int .i64 cj) := by rw [hW4, hB4, World.cell?_alloc_at _ _ _ _ rfl]; rfl
              rw [← hW4] at HGR3 HBB3 HVV3
              rw [← hW4, ← hB4]
              clear hW4 hB4 g1 g2
              have y0 := HGR3.out.cost k m hkl hml
              have y1 := HGR3.out.fz (k * 12 + m)
              go_region
              all_goals go_wp2_with fail
              go_roundw
              case rel => exact ⟨j + 1, by omega, by go_num, by rw [HPS.out, HS1.out, if_neg HE1.out]; exact (HGR3.out.setC hkl hml cj).below (Below.refl _ _).drew, (HBB3.out.setCell (p := ⟨G, k * 12 + m, none⟩) HG.out _).drew, SlR.keep HVV3.out (fun q hq => Below.heap_setCell _ _ _ _ (by show q ≠ G; omega)) (fun q hq => ⟨by simp [World.setCell, World.drew]; exact hq.1, hq.2⟩)⟩
              case measure => simp [intOf]; omega
          · have hji : ¬ (j : Int) < (L.length : Int) := by omega
            obtain rfl : j = L.length := by omega
            rw [List.take_length] at HGR2
            have HGX := Go.Lib.hid (show Gr wr G { C := putSides (toldTo xs k).C k (adjAt xs k).2, D := fun a => if a = k then (adjAt xs k).1 else (toldTo xs k).D a, P := (toldTo xs k).P } by rw [HAD.out]; exact HGR2.out)
            have HBX := HBB
            clear hv HGR2
            have HP := Go.Lib.hid (get_any (.slice A xs.length c) xs (keyP k))
            have HPG := Go.Lib.hid (get_pref HC.out k)
            have HPS := Go.Lib.hid (get_size HC.out (keyP k))
            obtain ⟨gp, hgp⟩ : ∃ g, g = getS xs (keyP k) := ⟨_, rfl⟩
            rw [← hgp] at HPG HPS HP
            clear hgp
            obtain ⟨ep, cp⟩ := gp
            go_wp2_with (go_at_call 36; refine (HIT.out _ HBX.out).mono ?_; rintro e w5 ⟨rfl, hb5⟩; have HB5 := Go.Lib.hid (HBX.out.trans (hb5.mono HBX.out.size)); have HG5 := Go.Lib.hid (HGX.out.below hb5); clear hb5)
            refine (HP.out _ (H.out.below HB5.out)).mono ?_
            rintro e w6 ⟨rfl, hb6⟩
            unfold Entry.val
            have hal6 := (Below.refl w6.heap.size w6).alloc (Nat.le_refl _) (.cells #[.string ep.key, .int .i64 ep.version, .int .i64 ep.origin, .string ep.value] 50)
            have HG6 := Go.Lib.hid ((HG5.out.below hb6).below hal6)
            have HB6 := Go.Lib.hid ((HB5.out.trans (hb6.mono HB5.out.size)).trans (hal6.mono (by have := HB5.out.size; have := hb6.size; omega)))
            have q3 : (w6.alloc (.cells #[.string ep.key, .int .i64 ep.version, .int .i64 ep.origin, .string ep.value] 50)).cell? ⟨w6.heap.size, 3, none⟩ = some (.string ep.value) := by rw [World.cell?_alloc_at _ _ _ _ rfl]; rfl
            clear hb6 hal6
            by_cases hcp : cp = 0
            · subst hcp
              have hpf : prefsAt xs k = (readPrefs ep.value.data.toList).1 := by
                rcases HPG.out with h | h
                · exact h.2
                · exact absurd h.1 (by show ¬ (0 : Int) = 6; omega)
              have HPF := Go.Lib.hid hpf
              have HRP := Go.Lib.hid (fun w hE => readPrefs_fr ep.value w HPS.out.1 hE)
              clear hpf
              go_wp2_with fail
              obtain ⟨W6, hW6⟩ : ∃ x, x = w6.alloc (.cells #[.string ep.key, .int .i64 ep.version, .int .i64 ep.origin, .string ep.value] 50) := ⟨_, rfl⟩
              rw [← hW6] at HG6 HB6
              rw [← hW6]
              clear hW6 q3
              refine (HRP.out W6 (HE.out.below HB6.out)).mono ?_
              rintro e w7 ⟨v7, rfl, hv7, hb7⟩
              obtain ⟨A7, c7, hv⟩ := hv7.sl.form
              rw [← HPF.out] at hv hv7
              subst hv
              obtain ⟨u7, z1, _⟩ := (HG6.out.below hb7).prf k hkl
              have z2 := (HG6.out.below hb7).fz (156 + k)
              have HG7 := Go.Lib.hid (((HG6.out.below hb7).setP hkl (hv7.mono (show G + 1 ≤ W6.heap.size from HG6.out.lt))).eq (g' := toldTo xs (k + 1)) (fun a b _ _ => (told_row a b).symm) (fun a _ => (told_drn a).symm) (fun a _ => (told_prf a).symm))
              have HB7 := Go.Lib.hid ((HB6.out.trans (hb7.mono HB6.out.size)).setCell (p := ⟨G, 156 + k, none⟩) HG.out (.slice A7 (prefsAt xs k).length c7))
              clear hv7 hb7
              go_wp2_with fail
              go_roundw
              case rel => exact ⟨k + 1, by omega, by go_num, HG7.out, HB7.out⟩
              case measure => simp [intOf]; omega
            · have hpf : prefsAt xs k = [] := by
                rcases HPG.out with h | h
                · exact absurd h.1 hcp
                · exact h.2
              have hcpb : (cp == 0) = false := by rw [beq_eq_false_iff_ne]; exact hcp
              have HG7 := Go.Lib.hid (HG6.out.eq (g' := toldTo xs (k + 1)) (fun a b _ _ => (told_row a b).symm) (fun a _ => (told_drn a).symm) (fun a _ => by
                show (if a < k + 1 then prefsAt xs a else []) = (if a < k then prefsAt xs a else [])
                by_cases e : a = k
                · subst e; rw [if_pos (by omega), if_neg (by omega), hpf]
                · have : (a < k + 1) ↔ (a < k) := by omega
                  simp only [this]))
              have HB7 := HB6
              clear hpf hcp q3
              go_wp2_with fail
              go_roundw
              case rel => exact ⟨k + 1, by omega, by go_num, HG7.out, HB7.out⟩
              case measure => simp [intOf]; omega
      · have had : adjAt xs k = (false, []) := by
          rcases HAG.out with h | h
          · exact absurd h.1 hca
          · exact h.2
        have hcab : (ca == 0) = false := by rw [beq_eq_false_iff_ne]; exact hca
        have HGX := Go.Lib.hid (HG2.out.eq (g' := { C := putSides (toldTo xs k).C k (adjAt xs k).2, D := fun a => if a = k then (adjAt xs k).1 else (toldTo xs k).D a, P := (toldTo xs k).P }) (fun a b _ _ => by rw [had]; rfl) (fun a _ => by
          rw [had]
          show (if a = k then false else (toldTo xs k).D a) = (toldTo xs k).D a
          by_cases e : a = k
          · subst e; rw [if_pos rfl]; show false = if a < a then _ else false; rw [if_neg (by omega)]
          · rw [if_neg e]) (fun a _ => rfl))
        have HBX := HB2
        clear had hca p3 HG2
        have HP := Go.Lib.hid (get_any (.slice A xs.length c) xs (keyP k))
        have HPG := Go.Lib.hid (get_pref HC.out k)
        have HPS := Go.Lib.hid (get_size HC.out (keyP k))
        obtain ⟨gp, hgp⟩ : ∃ g, g = getS xs (keyP k) := ⟨_, rfl⟩
        rw [← hgp] at HPG HPS HP
        clear hgp
        obtain ⟨ep, cp⟩ := gp
        go_wp2_with (go_at_call 36; refine (HIT.out _ HBX.out).mono ?_; rintro e w5 ⟨rfl, hb5⟩; have HB5 := Go.Lib.hid (HBX.out.trans (hb5.mono HBX.out.size)); have HG5 := Go.Lib.hid (HGX.out.below hb5); clear hb5)
        refine (HP.out _ (H.out.below HB5.out)).mono ?_
        rintro e w6 ⟨rfl, hb6⟩
        unfold Entry.val
        have hal6 := (Below.refl w6.heap.size w6).alloc (Nat.le_refl _) (.cells #[.string ep.key, .int .i64 ep.version, .int .i64 ep.origin, .string ep.value] 50)
        have HG6 := Go.Lib.hid ((HG5.out.below hb6).below hal6)
        have HB6 := Go.Lib.hid ((HB5.out.trans (hb6.mono HB5.out.size)).trans (hal6.mono (by have := HB5.out.size; have := hb6.size; omega)))
        have q3 : (w6.alloc (.cells #[.string ep.key, .int .i64 ep.version, .int .i64 ep.origin, .string ep.value] 50)).cell? ⟨w6.heap.size, 3, none⟩ = some (.string ep.value) := by rw [World.cell?_alloc_at _ _ _ _ rfl]; rfl
        clear hb6 hal6
        by_cases hcp : cp = 0
        · subst hcp
          have hpf : prefsAt xs k = (readPrefs ep.value.data.toList).1 := by
            rcases HPG.out with h | h
            · exact h.2
            · exact absurd h.1 (by show ¬ (0 : Int) = 6; omega)
          have HPF := Go.Lib.hid hpf
          have HRP := Go.Lib.hid (fun w hE => readPrefs_fr ep.value w HPS.out.1 hE)
          clear hpf
          go_wp2_with fail
          obtain ⟨W6, hW6⟩ : ∃ x, x = w6.alloc (.cells #[.string ep.key, .int .i64 ep.version, .int .i64 ep.origin, .string ep.value] 50) := ⟨_, rfl⟩
          rw [← hW6] at HG6 HB6
          rw [← hW6]
          clear hW6 q3
          refine (HRP.out W6 (HE.out.below HB6.out)).mono ?_
          rintro e w7 ⟨v7, rfl, hv7, hb7⟩
          obtain ⟨A7, c7, hv⟩ := hv7.sl.form
          rw [← HPF.out] at hv hv7
          subst hv
          obtain ⟨u7, z1, _⟩ := (HG6.out.below hb7).prf k hkl
          have z2 := (HG6.out.below hb7).fz (156 + k)
          have HG7 := Go.Lib.hid (((HG6.out.below hb7).setP hkl (hv7.mono (show G + 1 ≤ W6.heap.size from HG6.out.lt))).eq (g' := toldTo xs (k + 1)) (fun a b _ _ => (told_row a b).symm) (fun a _ => (told_drn a).symm) (fun a _ => (told_prf a).symm))
          have HB7 := Go.Lib.hid ((HB6.out.trans (hb7.mono HB6.out.size)).setCell (p := ⟨G, 156 + k, none⟩) HG.out (.slice A7 (prefsAt xs k).length c7))
          clear hv7 hb7
          go_wp2_with fail
          go_roundw
          case rel => exact ⟨k + 1, by omega, by go_num, HG7.out, HB7.out⟩
          case measure => simp [intOf]; omega
        · have hpf : prefsAt xs k = [] := by
            rcases HPG.out with h | h
            · exact absurd h.1 hcp
            · exact h.2
          have hcpb : (cp == 0) = false := by rw [beq_eq_false_iff_ne]; exact hcp
          have HG7 := Go.Lib.hid (HG6.out.eq (g' := toldTo xs (k + 1)) (fun a b _ _ => (told_row a b).symm) (fun a _ => (told_drn a).symm) (fun a _ => by
            show (if a < k + 1 then prefsAt xs a else []) = (if a < k then prefsAt xs a else [])
            by_cases e : a = k
            · subst e; rw [if_pos (by omega), if_neg (by omega), hpf]
            · have : (a < k + 1) ↔ (a < k) := by omega
              simp only [this]))
          have HB7 := HB6
          clear hpf hcp q3
          go_wp2_with fail
          go_roundw
          case rel => exact ⟨k + 1, by omega, by go_num, HG7.out, HB7.out⟩
          case measure => simp [intOf]; omega
    · have hki : ¬ (k : Int) < 12 := by omega
      obtain rfl : k = 12 := by omega
      have HG0 := Go.Lib.hid (HGR.out.eq (g' := { C := symTo (toldTo xs 12).C 0 0, D := (toldTo xs 12).D, P := (toldTo xs 12).P }) (fun a b _ _ => sym_zero) (fun _ _ => rfl) (fun _ _ => rfl))
      have HAL12 := Go.Lib.hid (fun a b ha hb => told_all HC.out a b ha hb)
      have HEN := Go.Lib.hid (fun a ha => told_end (xs := xs) a ha)
      clear HGR
      generalize toldTo xs 12 = g at *
      obtain ⟨C, D, P⟩ := g
      go_wp2_with fail
      go_loopw [80] (fun u wr => ∃ i : Nat, i ≤ 12 ∧ u = .int .i64 i ∧ Gr wr G { C := symTo C i 0, D := D, P := P } ∧ Below w0.heap.size w0 wr) (fun u _ => 12 - (intOf u).toNat)
      case atStart => exact ⟨0, Nat.zero_le _, rfl, HG0.out, HB.out⟩
      case round =>
        clear HG0 HB
        obtain ⟨i, hi, rfl, hg, hb⟩ := hrel
        have HG1 := Go.Lib.hid hg
        have HB1 := Go.Lib.hid hb
        clear hg hb
        by_cases hil : i < 12
        · have hii : (i : Int) < 12 := by omega
          have hi0 : (0 : Int) ≤ (i : Int) := Int.natCast_nonneg i
          go_wp2_with fail
          go_loopw [84] (fun u wr => ∃ k : Nat, k ≤ i ∧ u = .int .i64 k ∧ Gr wr G { C := symTo C i k, D := D, P := P } ∧ Below w0.heap.size w0 wr) (fun u _ => i - (intOf u).toNat)
          case atStart => exact ⟨0, Nat.zero_le _, rfl, HG1.out, HB1.out⟩
          case round =>
            clear HG1 HB1
            obtain ⟨k, hk, rfl, hg, hb⟩ := hrel
            have HG1 := Go.Lib.hid hg
            have HB1 := Go.Lib.hid hb
            clear hg hb
            by_cases hkl : k < i
            · have hki : (k : Int) < (i : Int) := by omega
              have hk12 : k < 12 := by omega
              have hki2 : (k : Int) < 12 := by omega
              have hk0 : (0 : Int) ≤ (k : Int) := Int.natCast_nonneg k
              have e1 : symTo C i k i k = C i k := by unfold symTo; rw [if_neg (fun h => by omega)]
              have e2 : symTo C i k k i = C k i := by unfold symTo; rw [if_neg (fun h => by omega)]
              have y0 : wr.cell? ⟨G, i * 12 + k, none⟩ = some (.int .i64 (C i k)) := by
                have h := HG1.out.cost i k hil hk12
                rw [show ({ C := symTo C i k, D := D, P := P } : Gph).C i k = C i k from e1] at h; exact h
              have y1 : wr.cell? ⟨G, k * 12 + i, none⟩ = some (.int .i64 (C k i)) := by
                have h := HG1.out.cost k i hk12 hil
                rw [show ({ C := symTo C i k, D := D, P := P } : Gph).C k i = C k i from e2] at h; exact h
              have y2 := HG1.out.fz (i * 12 + k)
              have y3 := HG1.out.fz (k * 12 + i)
              clear e1 e2
              by_cases c1 : C i k = 0
              · have HSC := Go.Lib.hid (fun a b => sym_cut (C := C) (a := a) (b := b) (.inl c1) hkl)
                have d1 : (C i k == 0) = true := by rw [beq_iff_eq]; exact c1
                clear c1
                go_wp2_with fail
                go_region
                all_goals go_wp2_with fail
                go_roundw
                case rel => exact ⟨k + 1, by omega, by go_num, (((HG1.out.setC hil hk12 0).setC hk12 hil 0).eq (g' := { C := symTo C i (k + 1), D := D, P := P }) (fun a b _ _ => by show symTo C i (k + 1) a b = _; rw [HSC.out a b]; exact upd2 (symTo C i k)) (fun _ _ => rfl) (fun _ _ => rfl)).below (Below.refl _ _).drew, ((HB1.out.setCell (p := ⟨G, i * 12 + k, none⟩) HG.out _).setCell (p := ⟨G, k * 12 + i, none⟩) HG.out _).drew⟩
                case measure => simp [intOf]; omega
              · have d1 : (C i k == 0) = false := by rw [beq_eq_false_iff_ne]; exact c1
                by_cases c2 : C k i = 0
                · have HSC := Go.Lib.hid (fun a b => sym_cut (C := C) (a := a) (b := b) (.inr c2) hkl)
                  have d2 : (C k i == 0) = true := by rw [beq_iff_eq]; exact c2
                  clear c1 c2
                  go_wp2_with fail
                  go_region
                  all_goals go_wp2_with fail
                  go_roundw
                  case rel => exact ⟨k + 1, by omega, by go_num, (((HG1.out.setC hil hk12 0).setC hk12 hil 0).eq (g' := { C := symTo C i (k + 1), D := D, P := P }) (fun a b _ _ => by show symTo C i (k + 1) a b = _; rw [HSC.out a b]; exact upd2 (symTo C i k)) (fun _ _ => rfl) (fun _ _ => rfl)).below (Below.refl _ _).drew, ((HB1.out.setCell (p := ⟨G, i * 12 + k, none⟩) HG.out _).setCell (p := ⟨G, k * 12 + i, none⟩) HG.out _).drew⟩
                  case measure => simp [intOf]; omega
                · have HSC := Go.Lib.hid (fun a b => sym_same (C := C) (a := a) (b := b) (show ¬ (C i k = 0 ∨ C k i = 0) by rintro (e | e) <;> contradiction) hkl)
                  have d2 : (C k i == 0) = false := by rw [beq_eq_false_iff_ne]; exact c2
                  clear c1 c2
                  go_wp2_with fail
                  go_roundw
                  case rel => exact ⟨k + 1, by omega, by go_num, HG1.out.eq (fun a b _ _ => HSC.out a b) (fun _ _ => rfl) (fun _ _ => rfl), HB1.out⟩
                  case measure => simp [intOf]; omega
            · have hki : ¬ (k : Int) < (i : Int) := by omega
              obtain rfl : k = i := by omega
              go_wp2_with fail
              go_roundw
              case rel => exact ⟨k + 1, by omega, by go_num, HG1.out.eq (fun a b _ _ => sym_row) (fun _ _ => rfl) (fun _ _ => rfl), HB1.out⟩
              case measure => simp [intOf]; omega
        · have hii : ¬ (i : Int) < 12 := by omega
          obtain rfl : i = 12 := by omega
          obtain ⟨cs, z1, z2, z3, z4, z5, z6⟩ := gr_cells HG1.out
          have HZ2 := Go.Lib.hid z2
          have HZ3 := Go.Lib.hid z3
          have HZ4 := Go.Lib.hid z4
          have HZ5 := Go.Lib.hid z5
          have HZ6 := Go.Lib.hid z6
          have HZ1 := Go.Lib.hid z1
          have htr : wr.there w.heap.size 0 cs.toArray.size := by
            intro j hj
            have hj' : j < 168 := by rw [List.size_toArray] at hj; omega
            obtain ⟨h1, h2⟩ := HT0.out j hj'
            exact ⟨by rw [(bAt HB1.out (show w.heap.size < w0.heap.size by have := HAL0.out.size; have := HT0.out 0 (by omega); exact (World.block_lt_of_cell? w0 _ (Option.isSome_iff_exists.1 this.1).choose_spec)) _)]; exact h1, by rw [(bFz HB1.out (show w.heap.size < w0.heap.size by have := HT0.out 0 (by omega); exact (World.block_lt_of_cell? w0 _ (Option.isSome_iff_exists.1 this.1).choose_spec)) _)]; exact h2⟩
          have HTR := Go.Lib.hid htr
          have hinf : (Tryz.prog.info? 44).map (·.size) = some 168 := by kernel_rfl
          have HIF := Go.Lib.hid (show (Tryz.prog.info? 44).map (·.size) = some cs.length by rw [z1]; exact hinf)
          have HIA := Go.Lib.hid (show (Tryz.prog.info? 44).map (·.size) = some cs.toArray.size by rw [List.size_toArray, z1]; exact hinf)
          clear z1 z2 z3 z4 z5 z6 htr hinf
          go_wp2_with (first
            | (refine wpList_load_mid rfl 44 (.tmp 3) rfl G 0 rfl cs _ HZ3.out Tryz.underlying44 rfl HIF.out ?_)
            | (refine wpList_store_mid rfl 44 (.tmp 2) (.tmp 115) rfl w.heap.size 0 cs.toArray rfl rfl HTR.out HIA.out (all_oneCell_toArray HZ2.out) ?_))
          have hld := run_loadVar_mid (P := Tryz.prog) (wr.setCells w.heap.size 0 cs) w.heap.size 0 44 cs _ (World.rangeAt_setCells_same wr w.heap.size 0 cs (by have h := HTR.out; rw [List.size_toArray] at h; exact h)) Tryz.underlying44 rfl HIF.out
          refine bodyPost_ret (v := .agg cs.toArray) (results_cell Tryz.results14 rfl hld) rfl ⟨cs, rfl, ⟨HZ1.out, HZ2.out, fun a b ha hb => ?_, fun a ha => ?_, fun a ha => ?_⟩, below_setCells (HAL0.out.trans (HB1.out.mono HAL0.out.size)) (Nat.le_refl _) _ _⟩
          · have h := HZ4.out a b ha hb
            rw [show symTo C 12 0 a b = symAll C a b from sym_end ha hb, show symAll C a b = (linkC xs a b : Nat) from HAL12.out a b ha hb] at h
            exact h
          · have h := HZ5.out a ha
            rw [show D a = (adjAt xs a).1 from (HEN.out a ha).1] at h
            exact h
          · obtain ⟨v, h1, h2⟩ := HZ6.out a ha
            refine ⟨v, h1, ?_⟩
            rw [show P a = prefsAt xs a from (HEN.out a ha).2] at h2
            exact SlR.keep h2 (fun q hq => heap_setCells_other (by have := hq.2; have := HRG.out; omega) _ _ _) (fun q hq => by rw [size_setCellsK]; exact hq.1)
end Go.Proofs.YtcbkimbeljhbhaaGreatDoor
