/-
  slices.Insert of one route, walked, over the cells themselves.
-/
import Derived.Test.YtcbkimbeljhbhaaGreatDoorGRibT
import Derived.Test.YtcbkimbeljhbhaaGreatDoorGIns2
set_option linter.unusedVariables false
set_option linter.unusedSimpArgs false
namespace Go.Proofs.YtcbkimbeljhbhaaGreatDoor
open Go.RowKit Go.Deep

def RawK (k : Nat) (x : List Value) : Prop := x.length = k ∧ ∀ u ∈ x, u.oneCell' = true
/-- the cells themselves -/
def cellR (k : Nat) : Rep (List Value) :=
  { size := k, holds := fun _ _ cs x => cs = x ∧ RawK k x, len := fun h => by rw [h.1]; exact h.2.1, one := fun h => by rw [h.1]; exact h.2.2, keep := fun h _ _ => h }
theorem OwR.of_raw {k : Nat} {E base : Nat} {w : World} {v : Value} {xs : List (List Value)} (h : w.ownsRow base E k v xs.length xs.flatten) (hok : ∀ x ∈ xs, RawK k x) (hb : base ≤ w.heap.size) : OwR (cellR k) E base w v xs := by
  refine ⟨xs, rfl, ?_, h, hb⟩
  intro i cs x hc hx
  rw [hc] at hx; injection hx with hx; subst hx
  exact ⟨rfl, hok cs (List.mem_of_getElem? hc)⟩
theorem OwR.to_raw {k : Nat} {E base : Nat} {w : World} {v : Value} {xs : List (List Value)} (h : OwR (cellR k) E base w v xs) : w.ownsRow base E k v xs.length xs.flatten ∧ (∀ x ∈ xs, RawK k x) ∧ base ≤ w.heap.size := by
  obtain ⟨css, g1, g2, g3, g4⟩ := h
  have : css = xs := by
    refine List.ext_getElem g1 fun i hi hi' => ?_
    exact (g2 i css[i] xs[i] (List.getElem?_eq_getElem hi) (List.getElem?_eq_getElem hi')).1
  subst this
  refine ⟨g3, fun x hx => ?_, g4⟩
  obtain ⟨i, hi, rfl⟩ := List.getElem_of_mem hx
  exact (g2 i css[i] css[i] (List.getElem?_eq_getElem hi) (List.getElem?_eq_getElem hi)).2
/-- the cells of a row of whatever -/
theorem OwR.css {α : Type} {r : Rep α} {E base : Nat} {w : World} {v : Value} {xs : List α} (h : OwR r E base w v xs) :
    ∃ css : List (List Value), css.length = xs.length ∧ (∀ (i : Nat) (cs : List Value) (x : α), css[i]? = some cs → xs[i]? = some x → r.holds w (fun k => k < w.heap.size ∧ v.ownBlock ≠ some k) cs x) ∧ OwR (cellR r.size) E base w v css := by
  obtain ⟨css, g1, g2, g3, g4⟩ := h
  refine ⟨css, g1, g2, OwR.of_raw (by rw [g1]; exact g3) (fun cs hc => ?_) g4⟩
  obtain ⟨i, hi, rfl⟩ := List.getElem_of_mem hc
  have hh := g2 i css[i] (xs[i]'(by omega)) (List.getElem?_eq_getElem hi) (List.getElem?_eq_getElem (by omega))
  exact ⟨r.len hh, r.one hh⟩
theorem OwR.of_css {α : Type} {r : Rep α} {E base : Nat} {w : World} {v : Value} {xs : List α} {css : List (List Value)} (h1 : css.length = xs.length)
    (h2 : ∀ (i : Nat) (cs : List Value) (x : α), css[i]? = some cs → xs[i]? = some x → r.holds w (fun k => k < w.heap.size ∧ v.ownBlock ≠ some k) cs x) (h : OwR (cellR r.size) E base w v css) : OwR r E base w v xs := by
  obtain ⟨g1, _, g3⟩ := OwR.to_raw h
  exact ⟨css, h1, h2, by rw [← h1]; exact g1, g3⟩
theorem flatK_len {k : Nat} : ∀ {xs : List (List Value)}, (∀ x ∈ xs, RawK k x) → xs.flatten.length = xs.length * k
  | [], _ => by simp
  | a :: xs, h => by
    rw [List.flatten_cons, List.length_append, (h a (by simp)).1, flatK_len (xs := xs) (fun x hx => h x (by simp [hx])), List.length_cons, Nat.succ_mul]; omega
theorem flatK_take {k : Nat} : ∀ {xs : List (List Value)}, (∀ x ∈ xs, RawK k x) → ∀ i, (xs.take i).flatten = xs.flatten.take (i * k)
  | [], _, i => by simp
  | a :: xs, h, i => by
    have ha := (h a (by simp)).1
    cases i with
    | zero => simp
    | succ i =>
      rw [List.take_succ_cons, List.flatten_cons, List.flatten_cons, flatK_take (xs := xs) (fun x hx => h x (by simp [hx])), List.take_append, ha, List.take_of_length_le (l := a) (by rw [ha, Nat.succ_mul]; omega), show (i + 1) * k - k = i * k by rw [Nat.succ_mul]; omega]
theorem flatK_drop {k : Nat} : ∀ {xs : List (List Value)}, (∀ x ∈ xs, RawK k x) → ∀ i, (xs.drop i).flatten = xs.flatten.drop (i * k)
  | [], _, i => by simp
  | a :: xs, h, i => by
    have ha := (h a (by simp)).1
    cases i with
    | zero => simp
    | succ i =>
      rw [List.drop_succ_cons, List.flatten_cons, flatK_drop (xs := xs) (fun x hx => h x (by simp [hx])), List.drop_append, ha, List.drop_of_length_le (l := a) (by rw [ha, Nat.succ_mul]; omega), List.nil_append, show (i + 1) * k - k = i * k by rw [Nat.succ_mul]; omega]
theorem flatK_one {k : Nat} {xs : List (List Value)} (h : ∀ x ∈ xs, RawK k x) : ∀ u ∈ xs.flatten, u.oneCell' = true := by
  intro u hu
  obtain ⟨l, hl, hu⟩ := List.mem_flatten.1 hu
  exact (h l hl).2 u hu

theorem sizeOf_route : (Tryz.prog.info? 64).map (·.size) = some 5 := by kernel_rfl

def InsPostR (base : Nat) (w : World) (v : Value) (ys : List (List Value)) (e : Ending) (w' : World) : Prop :=
  ∃ v', e = .returned v' ∧ OwR (cellR 5) 64 base w' v' ys ∧ GrowTo w v w' v'

/-- a new entry in a block of its own -/
theorem sl_raw {w : World} {vb : Nat} {x : List Value} (hvb : w.heap[vb]? = some (.cells x.toArray 64 (0, 0))) (hx : RawK 5 x) : Sl (cellR 5) w (.slice (some ⟨vb, 0, none⟩) 1 1) [x] := by
  have hlt : vb < w.heap.size := by
    rcases Nat.lt_or_ge vb w.heap.size with h | h
    · exact h
    · rw [Array.getElem?_eq_none h] at hvb; cases hvb
  refine ⟨some ⟨vb, 0, none⟩, 1, rfl, Nat.le_refl _, by decide, fun i y hy => ?_⟩
  match i, hy with
  | 0, hy =>
    simp at hy; subst hy
    refine ⟨vb, 0, x, rfl, hlt, hlt, ⟨rfl, hx⟩, fun j u hu => ?_⟩
    simp only [Nat.zero_mul, Nat.add_zero, Nat.zero_add]
    rw [cell_of_row w vb j _ _ _ hvb]
    simpa using hu
  | i + 1, hy => simp at hy

set_option maxRecDepth 100000 in
set_option maxHeartbeats 1000000 in
/-- at the end -/
theorem insert_endR (v : Value) (xs : List (List Value)) (x : List Value) (w : World) (vb base : Nat) (h : OwR (cellR 5) 64 base w v xs) (hl : xs.length ≤ 1000)
    (hvb : w.heap[vb]? = some (.cells x.toArray 64 (0, 0))) (hx : RawK 5 x) :
    Calls Tryz.prog 58 #[v, .int .i64 (xs.length : Nat), .slice (some ⟨vb, 0, none⟩) 1 1] w (InsPostR base w v (xs ++ [x])) := by
  have hsl := sl_raw hvb hx
  have HSL := Go.Lib.hid hsl
  have H := Go.Lib.hid h
  obtain ⟨h1, h2, h3⟩ := OwR.to_raw h
  have hform : ∃ A n c, v = .slice A n c ∧ n = xs.length ∧ xs.length ≤ c ∧ c ≤ 9223372036854775807 ∧ (A = none → c = 0) ∧ (∀ a, A = some a → ∃ g, a = ⟨g, 0, none⟩) := by
    rcases h1.2 with ⟨rfl, hn⟩ | ⟨g, cap, cur, rfl, _, _, hnc, hcm, _, _⟩
    · exact ⟨none, 0, 0, rfl, hn.symm, (by omega), (by omega), (fun _ => rfl), (fun a ha => by cases ha)⟩
    · exact ⟨some ⟨g, 0, none⟩, xs.length, cap, rfl, rfl, hnc, (by unfold maxLen at hcm; omega), (fun e => by cases e), (fun a ha => ⟨g, by injection ha with ha; exact ha.symm⟩)⟩
  obtain ⟨A, n, c, rfl, rfl, hc1, hc2, hA1, hA2⟩ := hform
  have HA1 := Go.Lib.hid hA1
  have HA2 := Go.Lib.hid hA2
  clear h h1 h2 h3 hsl hvb hA1 hA2
  rcases A with _ | a
  · have hc0 := HA1.out rfl
    subst hc0
    have hx0 : xs = [] := List.eq_nil_of_length_eq_zero (by omega)
    subst hx0
    go_enter Tryz.func58, Tryz.ntmps58
    go_wp2_with (at_builtin; refine wpList_own_append (base := base) rfl (.tmp 23) (.tmp 24) rfl elt_route H.out HSL.out rfl rfl (fun _ _ h => h) (by simp; decide) (by simp) ?_; intro v1 w1 ho1 hg1 hb1)
    go_ret
    exact ⟨v1, rfl, ho1, GrowTo.of_at hg1 hb1⟩
  · obtain ⟨g, rfl⟩ := HA2.out _ rfl
    go_enter Tryz.func58, Tryz.ntmps58
    go_wp2_with (at_builtin; refine wpList_own_append (base := base) rfl (.tmp 23) (.tmp 24) rfl elt_route H.out HSL.out rfl rfl (fun _ _ h => h) (by simp; unfold maxLen; omega) (by simp; omega) ?_; intro v1 w1 ho1 hg1 hb1)
    all_goals
      go_ret
      exact ⟨v1, rfl, ho1, GrowTo.of_at hg1 hb1⟩

theorem ov_apartR (w : World) (vb g o lb cb : Nat) (cx cur : Array Value) (hvb : w.heap[vb]? = some (.cells cx 64 (0, 0))) (hg : w.heap[g]? = some (.cells cur 64 (0, 0))) (hne : vb ≠ g) (hcur : cur.size ≠ 0) :
    (callFunc 88 #[.slice (some ⟨vb, 0, none⟩) 1 1, .slice (some ⟨g, o, none⟩) lb cb]).run Tryz.prog w = .ok (.value (.bool false)) w := by
  rw [run_callFunc_extern Tryz.func88 (by kernel_rfl) (by kernel_rfl) (by kernel_rfl) (e := Extern.SlicesOverlaps.overlaps #[23, 23] #[4]) (by kernel_rfl),
    Lib.run_overlaps_apart w 23 4 64 Tryz.underlying23 5 Tryz.sizeOf64 ⟨vb, 0, none⟩ ⟨g, o, none⟩ 1 1 lb cb hne 64 64 cx.size cur.size (by simp [World.shape?, hvb]) (by simp [World.shape?, hg]) hcur (by simp [World.frozen?, hvb]) (by simp [World.frozen?, hvb])]
  rfl

set_option maxRecDepth 100000 in
set_option maxHeartbeats 2000000 in
/-- there is room -/
theorem insert_shiftR (xs : List (List Value)) (x : List Value) (i : Nat) (w : World) (vb base g cap : Nat) (cur : Array Value) (hi : i < xs.length) (hl : xs.length ≤ 1000) (hroom : xs.length + 1 ≤ cap) (hcap : cap ≤ 9223372036854775807)
    (hbg : base ≤ g) (hg : w.heap[g]? = some (.cells cur 64 (0, 0))) (hcs : cur.size = cap * 5) (htake : cur.toList.take (xs.length * 5) = xs.flatten) (hok : ∀ e ∈ xs, RawK 5 e) (hbw : base ≤ w.heap.size)
    (hvb : w.heap[vb]? = some (.cells x.toArray 64 (0, 0))) (hne : vb ≠ g) (hx : RawK 5 x) :
    Calls Tryz.prog 58 #[.slice (some ⟨g, 0, none⟩) xs.length cap, .int .i64 (i : Nat), .slice (some ⟨vb, 0, none⟩) 1 1] w (InsPostR base w (.slice (some ⟨g, 0, none⟩) xs.length cap) (xs.take i ++ x :: xs.drop i)) := by
  obtain ⟨C, hC⟩ : ∃ C, xs.flatten = C := ⟨_, rfl⟩
  have hCl : C.length = xs.length * 5 := by rw [← hC, flatK_len hok]
  have hC1 : ∀ u ∈ C, u.oneCell' = true := by rw [← hC]; exact flatK_one hok
  rw [hC] at htake
  have hov := fun lb cb => ov_apartR w vb g ((i + 1) * 5) lb cb _ cur hvb hg hne (by omega)
  have hdl : (C.drop (i * 5)).length = (xs.length - i) * 5 := by rw [List.length_drop, hCl]; omega
  have hcell : ∀ j u, C[j]? = some u → w.cell? ⟨g, j, none⟩ = some u := by
    intro j u hj
    rw [cell_of_row w g j _ _ _ hg]
    have hjl : j < xs.length * 5 := by rw [← hCl]; exact (List.getElem?_eq_some_iff.1 hj).1
    rw [← htake, List.getElem?_take, if_pos hjl] at hj
    simpa using hj
  have hcp1 : ∀ ty, (Builtin.copy_ #[23, 23] ty #[.slice (some ⟨g, (i + 1) * 5, none⟩) (xs.length + 1 - (i + 1)) (cap - (i + 1)), .slice (some ⟨g, i * 5, none⟩) (xs.length + 1 - i) (cap - i)]).run Tryz.prog w.drew = .ok (goInt (Nat.min (xs.length + 1 - i) (xs.length + 1 - (i + 1)))) (w.drew.setRow g (splice cur.toList ((i + 1) * 5) (C.drop (i * 5))).toArray) := fun ty =>
    run_copyK w.drew _ _ ty 64 5 g ((i + 1) * 5) _ _ ⟨g, i * 5, none⟩ _ _ cur 64 (C.drop (i * 5)) Tryz.underlying23 sizeOf_route hg
      (by rw [hdl]; simp only [Nat.min_def]; split <;> omega)
      (fun j u hj => by
        have e : ((⟨g, i * 5, none⟩ : Addr).add j) = ⟨g, i * 5 + j, none⟩ := by unfold Addr.add; split <;> simp_all
        rw [e, World.cell?_drew]
        exact hcell (i * 5 + j) u (by rwa [List.getElem?_drop] at hj))
      (by rw [hdl, hcs]; omega) (fun u hu => hC1 u (List.mem_of_mem_drop hu))
  obtain ⟨R1, hR1⟩ : ∃ R1, splice cur.toList ((i + 1) * 5) (C.drop (i * 5)) = R1 := ⟨_, rfl⟩
  have hR1l : R1.length = cap * 5 := by 
    have hct : cur.toList.length = cur.size := Array.length_toList
    rw [← hR1, length_splice _ _ _ (by rw [hdl]; omega)]; omega
  rw [hR1] at hcp1
  obtain ⟨W1, hW1⟩ : ∃ W1, w.drew.setRow g R1.toArray = W1 := ⟨_, rfl⟩
  have hg1 : W1.heap[g]? = some (.cells R1.toArray 64 (0, 0)) := by rw [← hW1]; exact setRow_heap w.drew g cur _ _ _ hg
  have hvb1 : W1.heap[vb]? = some (.cells x.toArray 64 (0, 0)) := by rw [← hW1, setRow_other w.drew g vb _ hne]; exact hvb
  have hcp2 : ∀ ty dc, (Builtin.copy_ #[23, 23] ty #[.slice (some ⟨g, i * 5, none⟩) (xs.length + 1 - i) dc, .slice (some ⟨vb, 0, none⟩) 1 1]).run Tryz.prog W1 = .ok (goInt (Nat.min 1 (xs.length + 1 - i))) (W1.setRow g (splice R1 (i * 5) x).toArray) := fun ty dc => by
    have := run_copyK (P := Tryz.prog) W1 23 23 ty 64 5 g (i * 5) (xs.length + 1 - i) dc ⟨vb, 0, none⟩ 1 1 R1.toArray 64 x Tryz.underlying23 sizeOf_route hg1
      (by rw [hx.1]; simp only [Nat.min_def]; split <;> omega)
      (fun j u hj => by
        have e : ((⟨vb, 0, none⟩ : Addr).add j) = ⟨vb, j, none⟩ := by unfold Addr.add; split <;> simp_all
        rw [e, cell_of_row W1 vb j _ _ _ hvb1]
        simpa using hj)
      (by rw [hx.1]; simp [hR1l]; omega) (fun u hu => hx.2 u hu)
    simpa using this
  have hfin : InsPostR base w (.slice (some ⟨g, 0, none⟩) xs.length cap) (xs.take i ++ x :: xs.drop i) (.returned (.slice (some ⟨g, 0, none⟩) (xs.length + 1) cap)) (W1.setRow g (splice R1 (i * 5) x).toArray) := by
    have hlen : (xs.take i ++ x :: xs.drop i).length = xs.length + 1 := by simp; omega
    have hall : ∀ e ∈ xs.take i ++ x :: xs.drop i, RawK 5 e := by
      intro e he
      rw [List.mem_append, List.mem_cons] at he
      rcases he with he | rfl | he
      · exact hok e (List.mem_of_mem_take he)
      · exact hx
      · exact hok e (List.mem_of_mem_drop he)
    refine ⟨_, rfl, OwR.of_raw ?_ ?_ ?_, ⟨⟨?_, ?_, ?_, ?_, ?_⟩, fun k hk => .inl hk⟩⟩
    · rw [hlen]
      have hfl : (xs.take i ++ x :: xs.drop i).flatten = C.take (i * 5) ++ (x ++ C.drop (i * 5)) := by
        rw [List.flatten_append, List.flatten_cons, flatK_take hok, flatK_drop hok, hC]
      refine ⟨by rw [flatK_len hall, hlen], .inr ⟨g, cap, _, rfl, hbg, setRow_heap W1 g R1.toArray _ _ _ hg1, hroom, by unfold maxLen; omega, ?_, ?_⟩⟩
      · simp only [List.size_toArray]
        rw [length_splice _ _ _ (by rw [hx.1]; omega), hR1l]
      · rw [hfl, ← hR1]
        have hcur : cur.toList = C ++ cur.toList.drop (xs.length * 5) := by rw [← htake, List.take_append_drop]
        have := splice_ins C (cur.toList.drop (xs.length * 5)) x (i * 5) 5 (xs.length * 5) hCl hx.1 (by omega) (by rw [List.length_drop, Array.length_toList, hcs]; omega)
        rw [← hcur] at this
        rw [show (i + 1) * 5 = i * 5 + 5 by omega, show (xs.length + 1) * 5 = xs.length * 5 + 5 by omega]
        exact this
    · intro e he
      rw [List.mem_append, List.mem_cons] at he
      rcases he with he | rfl | he
      · exact hok e (List.mem_of_mem_take he)
      · exact hx
      · exact hok e (List.mem_of_mem_drop he)
    · rw [← hW1]; simpa using hbw
    · rw [← hW1]; rfl
    · rw [← hW1]; rfl
    · rw [← hW1]; rfl
    · rw [← hW1]; simp
    · intro k hk hne'
      have hkg : k ≠ g := fun e => hne' (by rw [e]; rfl)
      rw [setRow_other W1 g k _ hkg, ← hW1, setRow_other w.drew g k _ hkg]
      rfl
  have HFIN := Go.Lib.hid hfin
  have hz2 : ¬ ((i : Int) = (xs.length : Int)) := by omega
  have hw1 : IntKind.i64.wrap ((i : Int) + 1) = (i : Int) + 1 := by rw [IntKind.wrap_i64]; omega
  have hb1 : (0 : Int) ≤ (i : Int) + 1 := by omega
  have hin : i ≤ xs.length := by omega
  have htn : ((i : Int) + 1).toNat = i + 1 := by omega
  have hb2 : ¬ (cap = i + 1) := by omega
  have hb3 : (i : Int) ≤ (xs.length : Int) + 1 := by omega
  have hb4 : ¬ (cap = i) := by omega
  rw [hW1] at hcp1
  clear hC hCl hC1 htake hdl hcell hR1 hR1l hg1 hvb1 hfin hok hx hcs hg hvb
  go_enter Tryz.func58, Tryz.ntmps58
  go_wp2_with (simp only [hov])
  go_region_law (refine step_copyK rfl (.tmp 73) (.tmp 76) 23 23 rfl _ _ (by simp [Act.eval, Act.put]) (by simp [Act.eval, Act.put]) (hcp1 _) ?_)
  go_wp2_with (at_builtin; refine wpList_copyK rfl (.tmp 80) (.tmp 81) 23 23 rfl _ _ rfl rfl (hcp2 _ _) ?_)
  go_ret
  exact HFIN.out

set_option maxRecDepth 100000 in
set_option maxHeartbeats 2000000 in
/-- there is no room -/
theorem insert_growR (xs : List (List Value)) (x : List Value) (i : Nat) (w : World) (vb base g cap : Nat) (cur : Array Value) (hi : i < xs.length) (hl : xs.length ≤ 1000) (hnc : xs.length ≤ cap) (hroom : cap < xs.length + 1)
    (hg : w.heap[g]? = some (.cells cur 64 (0, 0))) (htake : cur.toList.take (xs.length * 5) = xs.flatten) (hok : ∀ e ∈ xs, RawK 5 e) (hbw : base ≤ w.heap.size)
    (hvb : w.heap[vb]? = some (.cells x.toArray 64 (0, 0))) (hx : RawK 5 x) :
    Calls Tryz.prog 58 #[.slice (some ⟨g, 0, none⟩) xs.length cap, .int .i64 (i : Nat), .slice (some ⟨vb, 0, none⟩) 1 1] w (InsPostR base w (.slice (some ⟨g, 0, none⟩) xs.length cap) (xs.take i ++ x :: xs.drop i)) := by
  obtain ⟨ii, z, q1, q2, q3, q4, q5⟩ := elt_route.info
  obtain ⟨C, hC⟩ : ∃ C, xs.flatten = C := ⟨_, rfl⟩
  have hCl : C.length = xs.length * 5 := by rw [← hC, flatK_len hok]
  have hC1 : ∀ u ∈ C, u.oneCell' = true := by rw [← hC]; exact flatK_one hok
  rw [hC] at htake
  have hlt : ∀ {k : Nat} {o : Obj}, w.heap[k]? = some o → k < w.heap.size := by
    intro k o h
    rcases Nat.lt_or_ge k w.heap.size with h' | h'
    · exact h'
    · rw [Array.getElem?_eq_none h'] at h; cases h
  have hgl := hlt hg
  have hvl := hlt hvb
  have hdl : (C.drop (i * 5)).length = (xs.length - i) * 5 := by rw [List.length_drop, hCl]; omega
  have htl : (C.take (i * 5)).length = i * 5 := by rw [List.length_take, hCl]; omega
  have hcell : ∀ j u, C[j]? = some u → w.cell? ⟨g, j, none⟩ = some u := by
    intro j u hj
    rw [cell_of_row w g j _ _ _ hg]
    have hjl : j < xs.length * 5 := by rw [← hCl]; exact (List.getElem?_eq_some_iff.1 hj).1
    rw [← htake, List.getElem?_take, if_pos hjl] at hj
    simpa using hj
  have hold : (Builtin.firstCells ii.size i (.slice (some ⟨g, 0, none⟩) i cap)).run Tryz.prog w.drew = .ok (C.take (i * 5)).toArray w.drew := by
    rw [q3]
    exact run_firstCells_some w.drew 5 i ⟨g, 0, none⟩ i cap (C.take (i * 5)) htl (fun j u hj => by
      have e : ((⟨g, 0, none⟩ : Addr).add j) = ⟨g, j, none⟩ := by unfold Addr.add; split <;> simp_all
      rw [e, World.cell?_drew]
      rw [List.getElem?_take] at hj
      split at hj
      · exact hcell j u hj
      · cases hj)
  have hkk : (xs.length : Int) + 1 - (i : Int) = ((xs.length + 1 - i : Nat) : Int) := by omega
  have hik : i + (xs.length + 1 - i) = xs.length + 1 := by omega
  obtain ⟨G, hG⟩ : ∃ G, G = grownCap w (xs.length + 1) cap 64 := ⟨_, rfl⟩
  obtain ⟨ROW, hROW⟩ : ∃ ROW : Array Value, ROW = (C.take (i * 5)).toArray ++ Builtin.zeroCells z.cells (xs.length + 1 - i) ++ Builtin.zeroCells z.cells (G - (xs.length + 1)) := ⟨_, rfl⟩
  have hGn : xs.length + 1 ≤ G := by rw [hG]; exact grownCap_ge w _ _ _
  have hGm : G ≤ maxLen := by rw [hG]; exact grownCap_le_maxLen w _ _ _ (by unfold maxLen; omega)
  have hrz : ∀ ty, (Builtin.append_ #[23, 3] ty #[.slice (some ⟨g, 0, none⟩) i cap, .int .i64 ((xs.length : Int) + 1 - (i : Int))]).run Tryz.prog w =
      .ok (.slice (some ⟨w.heap.size, 0, none⟩) (xs.length + 1) G) (w.drew.alloc (.cells ROW 64)) := fun ty => by
    have h := Lib.run_append_grow_zeros (P := Tryz.prog) w 23 3 ty 64 ii z .i64 .i64 Tryz.underlying23 Tryz.underlying3 q1 q2 (some ⟨g, 0, none⟩) i cap (C.take (i * 5)) hold (xs.length + 1 - i) (by omega) (by omega) (by omega) (by omega) (by rw [q4]; omega) (by rw [q4, hik]; exact growslice_fits hroom (by omega))
    rw [hik, ← hG, ← hROW] at h
    rw [hkk]
    exact h
  have hRl : ROW.size = G * 5 := by
    rw [hROW]
    simp only [Array.size_append, List.size_toArray, htl, size_zeroCells, q5]
    omega
  have hRt : ROW.toList.take (i * 5) = C.take (i * 5) := by
    rw [hROW, Array.toList_append, Array.toList_append, List.append_assoc, List.take_append_of_le_length (by rw [List.toList_toArray, htl]; exact Nat.le_refl _), List.toList_toArray, List.take_of_length_le (by rw [htl]; exact Nat.le_refl _)]
  obtain ⟨W1, hW1⟩ : ∃ W1, w.drew.alloc (.cells ROW 64) = W1 := ⟨_, rfl⟩
  rw [hW1] at hrz
  have hN : W1.heap[w.heap.size]? = some (.cells ROW 64 (0, 0)) := by rw [← hW1]; exact heap_alloc_new w.drew _
  have hvb1 : W1.heap[vb]? = some (.cells x.toArray 64 (0, 0)) := by rw [← hW1]; exact (Below.heap_alloc w.drew _ vb hvl).trans hvb
  have hg1 : W1.heap[g]? = some (.cells cur 64 (0, 0)) := by rw [← hW1]; exact (Below.heap_alloc w.drew _ g hgl).trans hg
  have hcpA : ∀ ty dc, (Builtin.copy_ #[23, 23] ty #[.slice (some ⟨w.heap.size, i * 5, none⟩) (xs.length + 1 - i) dc, .slice (some ⟨vb, 0, none⟩) 1 1]).run Tryz.prog W1 = .ok (goInt (Nat.min 1 (xs.length + 1 - i))) (W1.setRow w.heap.size (splice ROW.toList (i * 5) x).toArray) := fun ty dc => by
    have := run_copyK (P := Tryz.prog) W1 23 23 ty 64 5 w.heap.size (i * 5) (xs.length + 1 - i) dc ⟨vb, 0, none⟩ 1 1 ROW 64 x Tryz.underlying23 sizeOf_route hN
      (by rw [hx.1]; simp only [Nat.min_def]; split <;> omega)
      (fun j u hj => by
        have e : ((⟨vb, 0, none⟩ : Addr).add j) = ⟨vb, j, none⟩ := by unfold Addr.add; split <;> simp_all
        rw [e, cell_of_row W1 vb j _ _ _ hvb1]
        simpa using hj)
      (by rw [hx.1]; omega) (fun u hu => hx.2 u hu)
    exact this
  obtain ⟨R2, hR2⟩ : ∃ R2, splice ROW.toList (i * 5) x = R2 := ⟨_, rfl⟩
  have hRt' : ROW.toList.length = ROW.size := Array.length_toList
  have hR2l : R2.length = G * 5 := by
    rw [← hR2, length_splice _ _ _ (by rw [hx.1]; omega)]; omega
  rw [hR2] at hcpA
  obtain ⟨W2, hW2⟩ : ∃ W2, W1.setRow w.heap.size R2.toArray = W2 := ⟨_, rfl⟩
  rw [hW2] at hcpA
  have hN2 : W2.heap[w.heap.size]? = some (.cells R2.toArray 64 (0, 0)) := by rw [← hW2]; exact setRow_heap W1 w.heap.size ROW _ _ _ hN
  have hg2 : W2.heap[g]? = some (.cells cur 64 (0, 0)) := by rw [← hW2, setRow_other W1 w.heap.size g _ (by omega)]; exact hg1
  have hcpB : ∀ ty dc sc, (Builtin.copy_ #[23, 23] ty #[.slice (some ⟨w.heap.size, (i + 1) * 5, none⟩) (xs.length + 1 - (i + 1)) dc, .slice (some ⟨g, i * 5, none⟩) (xs.length - i) sc]).run Tryz.prog W2.drew = .ok (goInt (Nat.min (xs.length - i) (xs.length + 1 - (i + 1)))) (W2.drew.setRow w.heap.size (splice R2 ((i + 1) * 5) (C.drop (i * 5))).toArray) := fun ty dc sc => by
    have := run_copyK (P := Tryz.prog) W2.drew 23 23 ty 64 5 w.heap.size ((i + 1) * 5) (xs.length + 1 - (i + 1)) dc ⟨g, i * 5, none⟩ (xs.length - i) sc R2.toArray 64 (C.drop (i * 5)) Tryz.underlying23 sizeOf_route hN2
      (by rw [hdl]; simp only [Nat.min_def]; split <;> omega)
      (fun j u hj => by
        have e : ((⟨g, i * 5, none⟩ : Addr).add j) = ⟨g, i * 5 + j, none⟩ := by unfold Addr.add; split <;> simp_all
        rw [e, World.cell?_drew, cell_of_row W2 g _ _ _ _ hg2, ← cell_of_row w g _ _ _ _ hg]
        exact hcell (i * 5 + j) u (by rwa [List.getElem?_drop] at hj))
      (by rw [hdl, List.size_toArray]; omega) (fun u hu => hC1 u (List.mem_of_mem_drop hu))
    simpa using this
  have hfin : InsPostR base w (.slice (some ⟨g, 0, none⟩) xs.length cap) (xs.take i ++ x :: xs.drop i) (.returned (.slice (some ⟨w.heap.size, 0, none⟩) (xs.length + 1) G)) (W2.drew.setRow w.heap.size (splice R2 ((i + 1) * 5) (C.drop (i * 5))).toArray) := by
    have hlen : (xs.take i ++ x :: xs.drop i).length = xs.length + 1 := by simp; omega
    have hall : ∀ e ∈ xs.take i ++ x :: xs.drop i, RawK 5 e := by
      intro e he
      rw [List.mem_append, List.mem_cons] at he
      rcases he with he | rfl | he
      · exact hok e (List.mem_of_mem_take he)
      · exact hx
      · exact hok e (List.mem_of_mem_drop he)
    refine ⟨_, rfl, OwR.of_raw ?_ ?_ ?_, ⟨⟨?_, ?_, ?_, ?_, ?_⟩, fun k hk => ?_⟩⟩
    · rw [hlen]
      have hfl : (xs.take i ++ x :: xs.drop i).flatten = C.take (i * 5) ++ (x ++ C.drop (i * 5)) := by
        rw [List.flatten_append, List.flatten_cons, flatK_take hok, flatK_drop hok, hC]
      refine ⟨by rw [flatK_len hall, hlen], .inr ⟨w.heap.size, G, _, rfl, hbw, setRow_heap W2.drew w.heap.size R2.toArray _ _ _ hN2, hGn, hGm, ?_, ?_⟩⟩
      · simp only [List.size_toArray]
        rw [length_splice _ _ _ (by rw [hdl]; omega), hR2l]
      · rw [hfl]
        show (splice R2 ((i + 1) * 5) (C.drop (i * 5))).take _ = _
        unfold splice
        have e1 : R2.take ((i + 1) * 5) = C.take (i * 5) ++ x := by
          rw [← hR2]
          unfold splice
          rw [hRt, ← List.append_assoc, List.take_append_of_le_length (by rw [List.length_append, htl]; rw [hx.1]; omega), List.take_of_length_le (by rw [List.length_append, htl]; rw [hx.1]; omega)]
        rw [e1, ← List.append_assoc, List.take_append_of_le_length (by simp only [List.length_append, htl, hdl]; rw [hx.1]; omega), List.take_of_length_le (by simp only [List.length_append, htl, hdl]; rw [hx.1]; omega), List.append_assoc]
    · intro e he
      rw [List.mem_append, List.mem_cons] at he
      rcases he with he | rfl | he
      · exact hok e (List.mem_of_mem_take he)
      · exact hx
      · exact hok e (List.mem_of_mem_drop he)
    · rw [← hW2, ← hW1]; simp; omega
    · rw [← hW2, ← hW1]; rfl
    · rw [← hW2, ← hW1]; rfl
    · rw [← hW2, ← hW1]; rfl
    · rw [← hW2, ← hW1]; simp
    · intro k hk hne'
      have hkg : k ≠ w.heap.size := by omega
      rw [setRow_other W2.drew w.heap.size k _ hkg]
      show W2.heap[k]? = _
      rw [← hW2, setRow_other W1 w.heap.size k _ hkg, ← hW1]
      exact Below.heap_alloc w.drew _ k hk
    · injection hk with hk
      exact .inr (Nat.le_of_eq hk)
  have HFIN := Go.Lib.hid hfin
  have hz2 : ¬ ((i : Int) = (xs.length : Int)) := by omega
  have hz3 : (cap : Int) < (xs.length : Int) + 1 := by omega
  have hw1 : IntKind.i64.wrap ((i : Int) + 1) = (i : Int) + 1 := by rw [IntKind.wrap_i64]; omega
  have hb1 : (0 : Int) ≤ (i : Int) + 1 := by omega
  have hin : i ≤ xs.length := by omega
  have htn : ((i : Int) + 1).toNat = i + 1 := by omega
  have hGi : ¬ (G = i) := by omega
  have hGim : ¬ (G = i + 1) := by omega
  have hci : ¬ (cap = i) := by omega
  have hb3 : (i : Int) ≤ (xs.length : Int) := by omega
  have hG63 : G ≤ 9223372036854775807 := by unfold maxLen at hGm; omega
  clear hC hCl hC1 htake hdl hcell hR2 hR2l hg1 hvb1 hfin hok hx hg hvb hkk hik hold hROW hG hRl hRt hRt' hN hN2 hg2 hW1 hW2 htl q1 q2 q3 q4 q5 hGm
  go_enter Tryz.func58, Tryz.ntmps58
  go_wp2_with (first
    | (at_builtin; refine Lib.wpList_append_run _ rfl _ _ _ _ rfl _ _ rfl rfl _ _ (hrz _) ?_)
    | (at_builtin; refine wpList_copyK rfl (.tmp 43) (.tmp 44) 23 23 rfl _ _ rfl rfl (hcpA _ _) ?_))
  go_region_law (refine step_copyK rfl (.tmp 50) (.tmp 53) 23 23 rfl (.slice (some ⟨w.heap.size, (i + 1) * 5, none⟩) (xs.length + 1 - (i + 1)) (G - (i + 1))) (.slice (some ⟨g, i * 5, none⟩) (xs.length - i) (cap - i)) (by simp [Act.eval, Act.put]) (by simp [Act.eval, Act.put]) (hcpB 3 (G - (i + 1)) (cap - i)) ?_)
  go_wp2
  go_ret
  exact HFIN.out

set_option maxRecDepth 100000 in
/-- slices.Insert of one entry, wherever -/
theorem insert_anyR (v : Value) (xs : List (List Value)) (x : List Value) (i : Nat) (w : World) (vb base : Nat) (h : OwR (cellR 5) 64 base w v xs) (hi : i ≤ xs.length) (hl : xs.length ≤ 1000)
    (hvb : w.heap[vb]? = some (.cells x.toArray 64 (0, 0))) (hne : v.ownBlock ≠ some vb) (hx : RawK 5 x) :
    Calls Tryz.prog 58 #[v, .int .i64 (i : Nat), .slice (some ⟨vb, 0, none⟩) 1 1] w (InsPostR base w v (xs.take i ++ x :: xs.drop i)) := by
  rcases Nat.lt_or_ge i xs.length with hlt | hge
  · obtain ⟨h1, h2, h3⟩ := OwR.to_raw h
    rcases h1.2 with ⟨rfl, hn⟩ | ⟨g, cap, cur, rfl, hbg, hg, hnc, hcm, hcs, htake⟩
    · omega
    · by_cases hroom : xs.length + 1 ≤ cap
      · exact insert_shiftR xs x i w vb base g cap cur hlt hl hroom (by unfold maxLen at hcm; omega) hbg hg hcs htake h2 h3 hvb (fun e => hne (by rw [e]; rfl)) hx
      · exact insert_growR xs x i w vb base g cap cur hlt hl hnc (by omega) hg htake h2 h3 hvb hx
  · have e : i = xs.length := by omega
    subst e
    rw [List.take_length, List.drop_length]
    exact insert_endR v xs x w vb base h hl hvb hx
end Go.Proofs.YtcbkimbeljhbhaaGreatDoor
