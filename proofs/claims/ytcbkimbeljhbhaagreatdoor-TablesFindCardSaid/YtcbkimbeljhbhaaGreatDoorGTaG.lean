/-
  What is found in a table that is made: the route of most bits; what it costs. Plain lemmas, no program in sight.
-/
import Derived.Test.YtcbkimbeljhbhaaGreatDoorGPaA
set_option linter.unusedVariables false
set_option linter.unusedSimpArgs false
namespace Go.Proofs.YtcbkimbeljhbhaaGreatDoor
open Go

theorem tab_at {xs : List Entry} {s : Nat} (hs : s < 12) (p : Prefix) : atP (tabTo xs s 12) p = refRoute xs s p := by
  rw [(tab_find (xs := xs) (s := s) (fun n => (prefs_fine (prefsAt_chk xs n)).2.2) 12).2 p, acc_ref hs p]
theorem way_self (xs : List Entry) (s : Nat) : (wayTo xs s s).cost = 0 := by unfold wayTo; rw [if_pos rfl]
theorem way_pos {xs : List Entry} {s q : Nat} (h : q ≠ s) : (wayTo xs s q).cost ≠ 0 := by
  rcases cost_cases xs h with ⟨r1, _⟩ | ⟨m, r1, r2⟩
  · omega
  · have := r2.1.lt.2.2; omega
/-- the least that a prefix costs: some node that tells it costs so much, and none less -/
theorem ref_least {xs : List Entry} {s : Nat} {p : Prefix} {r : Route} (hs : s < 12) (h : refRoute xs s p = some r) :
    r.pre = p ∧ (∃ k, k < 12 ∧ p ∈ prefsAt xs k ∧ 0 ≤ (wayTo xs s k).cost ∧ (wayTo xs s k).cost = r.cost) ∧ (∀ k, k < 12 → p ∈ prefsAt xs k → 0 ≤ (wayTo xs s k).cost → r.cost ≤ (wayTo xs s k).cost) ∧ (r.here = true ↔ r.cost = 0) := by
  unfold refRoute at h
  split at h
  · rename_i hin
    injection h with h; subst h
    exact ⟨rfl, ⟨s, hs, (inP_iff _ _).1 hin, by rw [way_self]; exact Int.le_refl _, way_self xs s⟩, fun k _ _ h0 => h0, by simp⟩
  · rename_i hin
    split at h
    · cases h
    · rename_i hc
      injection h with h; subst h
      obtain ⟨hb, hle⟩ := refCost_ok (xs := xs) (s := s) (p := p) 12
      have hex : ∀ n, 0 ≤ refCost xs s p n → ∃ k, k < n ∧ okN xs s p k = true ∧ (wayTo xs s k).cost = refCost xs s p n := by
        intro n
        induction n with
        | zero => intro h0; unfold refCost at h0; omega
        | succ n ih =>
          intro h0
          unfold refCost at h0 ⊢
          split
          · rename_i hk
            exact ⟨n, by omega, hk.1, rfl⟩
          · rename_i hk
            rw [if_neg hk] at h0
            obtain ⟨k, h1, h2, h3⟩ := ih h0
            exact ⟨k, by omega, h2, h3⟩
      obtain ⟨k, h1, h2, h3⟩ := hex 12 (by omega)
      have h2' := h2
      unfold okN at h2'
      simp only [Bool.and_eq_true, decide_eq_true_eq] at h2'
      refine ⟨rfl, ⟨k, h1, (inP_iff _ _).1 h2'.2, h2'.1.2, h3⟩, fun j hj hp h0 => ?_, ?_⟩
      · have hjs : j ≠ s := fun e => by subst e; exact hin ((inP_iff _ _).2 hp)
        exact (hle j hj (by unfold okN; simp [hjs, h0, (inP_iff _ _).2 hp])).2
      · have hne := way_pos (xs := xs) h2'.1.1
        show (false = true ↔ refCost xs s p 12 = 0)
        rw [← h3]
        exact Iff.intro (fun e => by cases e) (fun e => absurd e hne)
theorem ref_some {xs : List Entry} {s : Nat} {p : Prefix} {k : Nat} (hk : k < 12) (hp : p ∈ prefsAt xs k) (h0 : 0 ≤ (wayTo xs s k).cost) : ∃ r, refRoute xs s p = some r := by
  unfold refRoute
  split
  · exact ⟨_, rfl⟩
  · rename_i hin
    have hks : k ≠ s := fun e => by subst e; exact hin ((inP_iff _ _).2 hp)
    have := (refCost_ok (xs := xs) (s := s) (p := p) 12).2 k hk (by unfold okN; simp [hks, h0, (inP_iff _ _).2 hp])
    rw [if_neg (by omega)]
    exact ⟨_, rfl⟩

/-- what Lookup answers, by the routes that are there -/
theorem look_cases {t : List Route} {addr : Int} (hc : chkRoutes t = 0) (h2 : 0 ≤ addr ∧ addr ≤ 255) :
    (lookS t addr = (zeroR, 6) ∧ ∀ x ∈ t, matchR addr x = false) ∨ ∃ r, lookS t addr = (r, 0) ∧ r ∈ t ∧ matchR addr r = true ∧ ∀ x ∈ t, matchR addr x = true → x.pre.bits ≤ r.pre.bits := by
  cases hb : bestTo t addr t.length with
  | none =>
    left
    refine ⟨look_none hc h2 hb, fun x hx => ?_⟩
    obtain ⟨i, hi, rfl⟩ := List.getElem_of_mem hx
    have := best_none t addr t.length hb i hi
    rwa [List.getD_eq_getElem?_getD, List.getElem?_eq_getElem hi] at this
  | some j =>
    right
    obtain ⟨h3, h4, h5⟩ := best_some t addr t.length j hb
    refine ⟨t[j], look_some hc h2 hb h3, List.getElem_mem h3, ?_, fun x hx hm => ?_⟩
    · rwa [List.getD_eq_getElem?_getD, List.getElem?_eq_getElem h3] at h4
    · obtain ⟨i, hi, rfl⟩ := List.getElem_of_mem hx
      have h6 := h5 i hi (by rw [List.getD_eq_getElem?_getD, List.getElem?_eq_getElem hi]; exact hm)
      rw [List.getD_eq_getElem?_getD, List.getElem?_eq_getElem hi, List.getD_eq_getElem?_getD, List.getElem?_eq_getElem h3] at h6
      simp only [Option.getD_some] at h6
      omega
theorem match_pre {addr : Int} {x y : Route} (hx : matchR addr x = true) (hy : matchR addr y = true) (hb : x.pre.bits = y.pre.bits) : x.pre = y.pre := by
  unfold matchR at hx hy
  rw [beq_iff_eq] at hx hy
  have : x.pre.addr = y.pre.addr := by rw [← hx, ← hy, hb]
  cases hxp : x.pre; cases hyp : y.pre
  rw [hxp, hyp] at this hb
  simp at this hb
  rw [this, hb]

/-- the longest prefix that matches, and what it costs, looked for node by node -/
def matchP (addr : Int) (p : Prefix) : Bool := addr - addr % spanN p.bits == p.addr
def scanStep (addr cost : Int) (st : Int × Int) (p : Prefix) : Int × Int :=
  if matchP addr p = true ∧ 0 ≤ cost then (if st.1 < p.bits ∨ (p.bits = st.1 ∧ cost < st.2) then (p.bits, cost) else st) else st
def scanTo (xs : List Entry) (s : Nat) (addr : Int) : Nat → Int × Int
  | 0 => (-1, -1)
  | k + 1 => (prefsAt xs k).foldl (scanStep addr (wayTo xs s k).cost) (scanTo xs s addr k)
/-- st is the best of what Q tells -/
def Best (Q : Prefix → Int → Prop) (st : Int × Int) : Prop :=
  (st.1 = -1 ∧ ∀ p c, ¬ Q p c) ∨ (0 ≤ st.1 ∧ (∃ p, Q p st.2 ∧ p.bits = st.1) ∧ ∀ p c, Q p c → p.bits < st.1 ∨ (p.bits = st.1 ∧ st.2 ≤ c))
theorem best_step {Q : Prefix → Int → Prop} {addr cost : Int} {st : Int × Int} {p : Prefix} (h : Best Q st) (hp : 0 ≤ p.bits) :
    Best (fun q c => Q q c ∨ (q = p ∧ c = cost ∧ matchP addr p = true ∧ 0 ≤ cost)) (scanStep addr cost st p) := by
  unfold scanStep
  by_cases hm : matchP addr p = true ∧ 0 ≤ cost
  · rw [if_pos hm]
    by_cases hb : st.1 < p.bits ∨ (p.bits = st.1 ∧ cost < st.2)
    · rw [if_pos hb]
      refine .inr ⟨hp, ⟨p, .inr ⟨rfl, rfl, hm⟩, rfl⟩, fun q c hq => ?_⟩
      rcases hq with hq | ⟨rfl, rfl, _⟩
      · rcases h with ⟨_, h2⟩ | ⟨_, _, h3⟩
        · exact absurd hq (h2 q c)
        · have := h3 q c hq
          show q.bits < p.bits ∨ (q.bits = p.bits ∧ cost ≤ c)
          omega
      · exact .inr ⟨rfl, Int.le_refl _⟩
    · rw [if_neg hb]
      rcases h with ⟨h1, _⟩ | ⟨h1, ⟨q, h2, h3⟩, h4⟩
      · exact absurd (.inl (by omega)) hb
      · refine .inr ⟨h1, ⟨q, .inl h2, h3⟩, fun q c hq => ?_⟩
        rcases hq with hq | ⟨rfl, rfl, _⟩
        · exact h4 q c hq
        · omega
  · rw [if_neg hm]
    rcases h with ⟨h1, h2⟩ | ⟨h1, ⟨q, h2, h3⟩, h4⟩
    · refine .inl ⟨h1, fun q c hq => ?_⟩
      rcases hq with hq | ⟨_, _, hx⟩
      · exact h2 q c hq
      · exact hm hx
    · refine .inr ⟨h1, ⟨q, .inl h2, h3⟩, fun q c hq => ?_⟩
      rcases hq with hq | ⟨_, _, hx⟩
      · exact h4 q c hq
      · exact absurd hx hm
theorem best_congr {Q R : Prefix → Int → Prop} {st : Int × Int} (h : ∀ p c, Q p c ↔ R p c) (hb : Best Q st) : Best R st := by
  have : Q = R := by funext p c; exact propext (h p c)
  rw [← this]; exact hb
theorem best_row {addr cost : Int} : ∀ (ps : List Prefix) (Q : Prefix → Int → Prop) (st : Int × Int), Best Q st → (∀ p ∈ ps, 0 ≤ p.bits) →
    Best (fun q c => Q q c ∨ (q ∈ ps ∧ c = cost ∧ matchP addr q = true ∧ 0 ≤ cost)) (ps.foldl (scanStep addr cost) st)
  | [], Q, st, h, _ => best_congr (fun p c => by simp) h
  | p :: ps, Q, st, h, hp => by
    refine best_congr (fun q c => ?_) (best_row ps _ _ (best_step (addr := addr) (cost := cost) h (hp p (by simp))) (fun q hq => hp q (by simp [hq])))
    rw [List.mem_cons]
    constructor
    · rintro ((h | ⟨rfl, h⟩) | ⟨h, h'⟩)
      · exact .inl h
      · exact .inr ⟨.inl rfl, h⟩
      · exact .inr ⟨.inr h, h'⟩
    · rintro (h | ⟨rfl | h, h'⟩)
      · exact .inl (.inl h)
      · exact .inl (.inr ⟨rfl, h'⟩)
      · exact .inr ⟨h, h'⟩
theorem scan_best (xs : List Entry) (s : Nat) (addr : Int) : ∀ n, Best (fun p c => ∃ k, k < n ∧ p ∈ prefsAt xs k ∧ c = (wayTo xs s k).cost ∧ matchP addr p = true ∧ 0 ≤ c) (scanTo xs s addr n)
  | 0 => .inl ⟨rfl, fun p c => by rintro ⟨k, hk, _⟩; omega⟩
  | n + 1 => by
    have hb := (prefs_fine (prefsAt_chk xs n)).2.1
    refine best_congr (fun p c => ?_) (best_row (addr := addr) (cost := (wayTo xs s n).cost) (prefsAt xs n) _ _ (scan_best xs s addr n) (fun p hp => (prefBad_ok (hb p hp)).1))
    constructor
    · rintro (⟨k, h1, h2⟩ | ⟨h1, rfl, h2, h3⟩)
      · exact ⟨k, by omega, h2⟩
      · exact ⟨n, by omega, h1, rfl, h2, h3⟩
    · rintro ⟨k, h1, h2, rfl, h3, h4⟩
      by_cases e : k = n
      · subst e; exact .inr ⟨h2, rfl, h3, h4⟩
      · exact .inl ⟨k, by omega, h2, rfl, h3, h4⟩
/-- WHAT IS FOUND IN A TABLE LEADS TO A NODE THAT HAS A PREFIX OF THE ADDRESS -/
theorem tables_find (xs : List Entry) {s : Nat} (hs : s < 12) {addr : Int} (h2 : 0 ≤ addr ∧ addr ≤ 255) :
    ((scanTo xs s addr 12).1 < 0 ∧ lookS (tabTo xs s 12) addr = (zeroR, 6)) ∨
    (0 ≤ (scanTo xs s addr 12).1 ∧ ∃ r, lookS (tabTo xs s 12) addr = (r, 0) ∧ r.pre.bits = (scanTo xs s addr 12).1 ∧ r.cost = (scanTo xs s addr 12).2 ∧ (r.here = true ↔ (scanTo xs s addr 12).2 = 0)) := by
  have hin : ∀ r ∈ tabTo xs s 12, refRoute xs s r.pre = some r := fun r hr => by
    rw [← tab_at hs]; exact mem_atP (sorted_tab xs s 12) hr
  have hback : ∀ p r, refRoute xs s p = some r → r ∈ tabTo xs s 12 := fun p r h => by
    rw [← tab_at hs] at h; exact (atP_mem h).1
  have hsc := scan_best xs s addr 12
  rcases look_cases (t := tabTo xs s 12) (chk_tab hs) h2 with ⟨h3, h4⟩ | ⟨r, h3, h4, h5, h6⟩
  · left
    rcases hsc with ⟨g1, _⟩ | ⟨_, ⟨p, ⟨k, k1, k2, k3, k4, k5⟩, _⟩, _⟩
    · exact ⟨by omega, h3⟩
    · obtain ⟨r, hr⟩ := ref_some (xs := xs) (s := s) k1 k2 (by omega)
      have hm := h4 r (hback p r hr)
      have hp := (ref_least hs hr).1
      unfold matchR at hm
      rw [hp] at hm
      unfold matchP at k4
      rw [hm] at k4; cases k4
  · right
    obtain ⟨hp, ⟨k, k1, k2, k3, k4⟩, k5, k6⟩ := ref_least hs (hin r h4)
    have hmr : matchP addr r.pre = true := h5
    rcases hsc with ⟨_, g2⟩ | ⟨g1, ⟨p, ⟨j, j1, j2, j3, j4, j5⟩, g3⟩, g4⟩
    · exact absurd ⟨k, k1, k2, rfl, hmr, k3⟩ (g2 r.pre (wayTo xs s k).cost)
    · obtain ⟨q, hq⟩ := ref_some (xs := xs) (s := s) j1 j2 (by omega)
      have hqp := (ref_least hs hq).1
      have hqm : matchR addr q = true := by unfold matchR; rw [hqp]; exact j4
      have hle := h6 q (hback p q hq) hqm
      have hge := g4 r.pre (wayTo xs s k).cost ⟨k, k1, k2, rfl, hmr, k3⟩
      have hbits : r.pre.bits = (scanTo xs s addr 12).1 := by rw [hqp] at hle; omega
      have hpe : p = r.pre := by rw [← hqp]; exact match_pre hqm h5 (by rw [hqp]; omega)
      have hc1 := k5 j j1 (by rw [← hpe]; exact j2) (by omega)
      have hcost : r.cost = (scanTo xs s addr 12).2 := by omega
      exact ⟨g1, r, h3, hbits, hcost, by rw [← hcost]; exact k6⟩
end Go.Proofs.YtcbkimbeljhbhaaGreatDoor
