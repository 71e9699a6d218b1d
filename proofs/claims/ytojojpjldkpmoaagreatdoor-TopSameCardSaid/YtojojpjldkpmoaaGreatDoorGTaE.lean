/-
  
-/
import Derived.Test.YtojojpjldkpmoaaGreatDoorGTaB
import Derived.Lib.SlicesCompact
import Derived.Test.YtojojpjldkpmoaaGreatDoorGWaF
import Derived.Test.YtojojpjldkpmoaaGreatDoorGRibC
set_option linter.unusedVariables false
set_option linter.unusedSimpArgs false
set_option maxHeartbeats 16000000
namespace Go.Proofs.YtojojpjldkpmoaaGreatDoor
section
open Go
theorem compact_mem {zs : List Int} {x : Int} : x ∈ Lib.compact zs ↔ x ∈ zs := by
 unfold Lib.compact Lib.compactUpTo
 rw [zbm]
 constructor
 · rintro ⟨j, hj, rfl⟩
   have hl := zbn.1 (zaY.1 hj).1
   rw [getElem!_pos _ j (by simpa using hl)]
   exact zas _
 · intro hx
   have key : ∀ n j, j < n -> (hj : j < zs.length) -> zs[j] = x -> ∃ i, ∃ hi : i < zs.length, zs[i] = x /\ Lib.keeps zs.toArray i = true := by
    intro n
    induction n with
    | zero => intro j h; omega
    | succ n ih =>
      intro j hjn hj he
      by_cases hk : Lib.keeps zs.toArray j = true
      · exact ⟨j, hj, he, hk⟩
      · have h0 : j ≠ 0 := fun e => hk (by subst e; exact Lib.keeps_lt_one _ 0 (by omega))
        have h1 : zs.toArray[j]! = zs.toArray[j - 1]! := Classical.byContradiction fun hne => hk (Lib.keeps_pos hne)
        rw [getElem!_pos _ j (by simpa using hj), getElem!_pos _ (j - 1) (by simp; omega)] at h1
        exact ih (j - 1) (by omega) (by omega) (by rw [<- he]; exact h1.symm)
   obtain ⟨j, hj, he⟩ := zaj hx
   obtain ⟨i, hi, h1, h2⟩ := key (j + 1) j (by omega) hj he
   refine ⟨i, zaY.2 ⟨zbn.2 hi, h2⟩, ?_⟩
   rw [getElem!_pos _ i (by simpa using hi)]; exact h1
theorem compact_lt {zs : List Int} (hs : zs.Pairwise (· <= ·)) : (Lib.compact zs).Pairwise (· < ·) := by
 unfold Lib.compact Lib.compactUpTo
 rw [List.pairwise_map]
 have hr : (List.range zs.length).Pairwise (· < ·) := List.pairwise_lt_range
 have hp := List.Pairwise.filter (Lib.keeps zs.toArray) hr
 refine List.Pairwise.imp_of_mem ?_ hp
 intro i j hi hj hij
 have hjl := zbn.1 (zaY.1 hj).1
 have hk := (zaY.1 hj).2
 rw [getElem!_pos _ i (by simp; omega), getElem!_pos _ j (by simpa using hjl)]
 have hne : zs[j] ≠ zs[j - 1]'(by omega) := by
  intro e
  have hf := Lib.keeps_neg (d := zs.toArray) (m := j) (by omega) (by rw [getElem!_pos _ j (by simpa using hjl), getElem!_pos _ (j - 1) (by simp; omega)]; exact e)
  rw [hf] at hk; cases hk
 have h1 : zs[j - 1]'(by omega) <= zs[j] := zaF.1 hs (j - 1) j (by omega) hjl (by omega)
 have h2 : zs[i]'(by omega) <= zs[j - 1]'(by omega) := by
  by_cases e : i = j - 1
  · subst e; exact zbS _
  · exact zaF.1 hs i (j - 1) (by omega) (by omega) (by omega)
 show zs[i]'(by omega) < zs[j]
 omega
theorem strict_ext : ∀ {l m : List Int}, l.Pairwise (· < ·) -> m.Pairwise (· < ·) -> (∀ x, x ∈ l ↔ x ∈ m) -> l = m
 | [], [], _, _, _ => rfl
 | [], y :: m, _, _, h => by have := (h y).2 (by simp); cases this
 | x :: l, [], _, _, h => by have := (h x).1 (by simp); cases this
 | x :: l, y :: m, hl, hm, h => by
   obtain ⟨h1, h2⟩ := zaA.1 hl
   obtain ⟨g1, g2⟩ := zaA.1 hm
   have hxy : x = y := by
    rcases zaB.1 ((h x).1 (by simp)) with e | e
    · exact e
    · rcases zaB.1 ((h y).2 (by simp)) with e2 | e2
      · exact e2.symm
      · have := g1 x e; have := h1 y e2; omega
   subst hxy
   have : l = m := strict_ext h2 g2 (fun z => by
    have hz := h z
    rw [zaB, zaB] at hz
    constructor
    · intro hl
      rcases hz.1 (.inr hl) with e | e
      · have := h1 z hl; omega
      · exact e
    · intro hm
      rcases hz.2 (.inr hm) with e | e
      · have := g1 z hm; omega
      · exact e)
   rw [this]
theorem nodes12_lt : nodes12.Pairwise (· < ·) := by decide
theorem nodes12_mem {k : Int} : k ∈ nodes12 ↔ 0 <= k /\ k <= 11 := by
 unfold nodes12
 rw [zbm]
 constructor
 · rintro ⟨n, hn, rfl⟩
   have := zbn.1 hn; omega
 · intro h
   exact ⟨k.toNat, zbn.2 (by omega), by omega⟩
theorem join_sort {a b : List Int} (ha : ∀ x ∈ a, 0 <= x /\ x <= 11) (hb : ∀ x ∈ b, 0 <= x /\ x <= 11) :
  Lib.compact ((a ++ b).mergeSort fun x y => decide (x <= y)) = joinS a b := by
 have hs : ((a ++ b).mergeSort fun x y => decide (x <= y)).Pairwise (· <= ·) := by
  have := List.pairwise_mergeSort (le := fun (x y : Int) => decide (x <= y)) (fun x y z h1 h2 => by simp at *; omega) (fun x y => by simp; omega) (a ++ b)
  exact this.imp (fun h => by simpa using h)
 refine strict_ext (compact_lt hs) (nodes12_lt.filter _) (fun x => ?_)
 unfold joinS
 rw [compact_mem, List.mem_mergeSort, zaI, zaY, nodes12_mem]
 simp only [Bool.or_eq_true, List.contains_iff_mem]
 constructor
 · rintro (h | h)
   · exact ⟨ha x h, .inl h⟩
   · exact ⟨hb x h, .inr h⟩
 · rintro ⟨_, h | h⟩
   · exact .inl h
   · exact .inr h
theorem canon_in {l : List Int} (h : Canon l) : ∀ x ∈ l, 0 <= x /\ x <= 11 := by
 intro x hx
 rw [<- h] at hx
 exact nodes12_mem.1 (zaY.1 hx).1
theorem canon_join (a b : List Int) : Canon (joinS a b) := canon_filter _
theorem key_iffP (e : Entry) {n : Nat} (hn : n < 12) : (kindE e = [112] /\ nodeE e = n) ↔ e.key = keyP n := by
 unfold kindE nodeE
 constructor
 · rintro ⟨h1, h2⟩
   obtain ⟨m, h3, _, h5⟩ := num_inv (s := (cutB 58 e.key.data.toList).2.1) (most := 11) (by omega)
   have hm : m = n := by omega
   subst hm
   rcases cutB_form 58 e.key.data.toList with h | h
   · unfold keyP
     rw [h1, h3] at h
     rw [<- bOf_data e.key, h]; rfl
   · rw [h] at h3
     exact absurd h3.symm (dec_ne m)
 · intro h
   have hc : cutB 58 e.key.data.toList = ([112], Lib.decDigits n, true) := by
    rw [h]; unfold keyP; rw [bOf_list]
    exact cutB_at (a := [112]) (Lib.decDigits n) (by decide)
   rw [hc]
   exact ⟨rfl, num_dec n 11 (by omega) (by omega)⟩
theorem prefsAt_take {xs : List Entry} (h : OkS xs) {k : Nat} (hk : k < xs.length) (n : Nat) : prefsAt (xs.take (k + 1)) n = if xs[k].key = keyP n then (readPrefs xs[k].value.data.toList).1 else prefsAt (xs.take k) n := by
 unfold prefsAt
 rw [find_takeE h.ord hk]
 by_cases e : xs[k].key = keyP n
 · rw [if_pos e, if_pos e]
 · rw [if_neg e, if_neg e]
theorem prf_take {xs : List Entry} (h : OkS xs) : ∀ k, k <= xs.length -> ∀ a, a < 12 -> (gphTo xs k).P a = prefsAt (xs.take k) a
 | 0, _, a, _ => rfl
 | k + 1, hk, a, ha => by
   have hk' : k < xs.length := hk
   have ih := prf_take h k (by omega) a ha
   rw [gphTo_succ hk', prefsAt_take h hk']
   have hno : stepE (gphTo xs k) xs[k] = gphTo xs k ∨ True := .inr trivial
   rcases nodeE_cases xs[k] with hn | ⟨n, hn, hn12⟩
   · rw [if_neg (fun e => by have := ((key_iffP xs[k] ha).2 e).2; omega)]
     have hs : stepE (gphTo xs k) xs[k] = gphTo xs k := by unfold stepE; rw [if_pos hn]
     rw [hs]; exact ih
   · have hnn : ¬ nodeE xs[k] < 0 := by omega
     have hnt : (nodeE xs[k]).toNat = n := by omega
     by_cases hk1 : kindE xs[k] = [97]
     · have hs : stepE (gphTo xs k) xs[k] = stepA (gphTo xs k) n xs[k].value.data.toList := by unfold stepE; rw [if_neg hnn, if_pos hk1, hnt]
       rw [hs, if_neg (fun e => by have := ((key_iffP xs[k] ha).2 e).1; rw [hk1] at this; cases this)]
       exact ih
     · by_cases hk2 : kindE xs[k] = [112]
       · have hs : stepE (gphTo xs k) xs[k] = stepP (gphTo xs k) n xs[k].value.data.toList := by unfold stepE; rw [if_neg hnn, if_neg hk1, if_pos hk2, hnt]
         rw [hs]
         show (if a = n then (readPrefs xs[k].value.data.toList).1 else (gphTo xs k).P a) = _
         by_cases e : a = n
         · subst e
           rw [if_pos rfl, if_pos ((key_iffP xs[k] ha).1 ⟨hk2, hn⟩)]
         · rw [if_neg e, if_neg (fun e2 => by have := ((key_iffP xs[k] ha).2 e2).2; omega)]
           exact ih
       · have hs : stepE (gphTo xs k) xs[k] = gphTo xs k := by unfold stepE; rw [if_neg hnn, if_neg hk1, if_neg hk2]
         rw [hs, if_neg (fun e => hk2 ((key_iffP xs[k] ha).2 e).1)]
         exact ih
theorem graphS_prefs {xs : List Entry} (h : checkS xs = 0) : ∀ a, a < 12 -> (graphS xs).P a = prefsAt xs a := by
 intro a ha
 have := prf_take (okS_of h) xs.length (zab _) a ha
 rw [zaP] at this
 exact this
theorem len_addR : ∀ (l : List Route) (r : Route), (addR l r).length <= l.length + 1
 | [], _ => by simp [addR]
 | x :: l, r => by
   unfold addR
   have := len_addR l r
   split
   · simp; exact this
   · split <;> simp
theorem len_row {xs : List Entry} {s n : Nat} : ∀ (ps : List Prefix) (l : List Route), (rowN xs s n l ps).length <= l.length + ps.length
 | [], l => by simp [rowN]
 | p :: ps, l => by
   have h1 := len_row (xs := xs) (s := s) (n := n) ps (addN xs s n l p)
   have h2 : (addN xs s n l p).length <= l.length + 1 := by
    unfold addN; split
    · omega
    · exact len_addR _ _
   show (rowN xs s n (addN xs s n l p) ps).length <= _
   simp only [zaw]; omega
theorem len_tab (xs : List Entry) (s : Nat) : ∀ n, (tabTo xs s n).length <= 6 * n
 | 0 => zab _
 | n + 1 => by
   have h1 := len_tab xs s n
   have h2 := len_row (xs := xs) (s := s) (n := n) (prefsAt xs n) (tabTo xs s n)
   have h3 := (prefs_fine (prefsAt_chk xs n)).1
   show (rowN xs s n (tabTo xs s n) (prefsAt xs n)).length <= _
   omega
section
variable {C : Nat -> Nat -> Nat} {D : Nat -> Bool}
end
theorem cost_cases (xs : List Entry) {s i : Nat} (hi : i ≠ s) :
  ((wayTo xs s i).cost = -1 /\ ∀ c, ¬ Pth (linkC xs) (fun a => (adjAt xs a).1) s (fun _ => True) i c) ∨
  ∃ m : Nat, (wayTo xs s i).cost = m /\ Mn (linkC xs) (fun a => (adjAt xs a).1) s (fun _ => True) i m := by
 have hall : ∀ c, Pth (linkC xs) (fun a => (adjAt xs a).1) s (fun k => fstF (-1) k = true) i c ↔ Pth (linkC xs) (fun a => (adjAt xs a).1) s (fun _ => True) i c := fun c => Pth.same fst_all
 have hw : (wayTo xs s i).cost = gI (rnds (linkC xs) (fun a => (adjAt xs a).1) s (iniB (linkC xs) s (fstF (-1))) 12) i := by
  unfold wayTo; rw [if_neg hi]; rfl
 rw [hw]
 rcases rounds_find (C := linkC xs) (D := fun a => (adjAt xs a).1) (s := s) (F := fstF (-1)) i with ⟨r1, r2⟩ | ⟨m, r1, r2⟩
 · exact .inl ⟨r1, fun c h => r2 c ((hall c).2 h)⟩
 · exact .inr ⟨m, r1, (hall m).1 r2.1, fun c h => r2.2 c ((hall c).2 h)⟩
theorem best_iff (xs : List Entry) {s i m : Nat} (hm : Mn (linkC xs) (fun a => (adjAt xs a).1) s (fun _ => True) i m) (k : Nat) :
  gI (best xs s (k : Int) 12) i = m ↔ Pth (linkC xs) (fun a => (adjAt xs a).1) s (· = k) i m := by
 have hone : ∀ c, Pth (linkC xs) (fun a => (adjAt xs a).1) s (fun j => fstF (k : Int) j = true) i c ↔ Pth (linkC xs) (fun a => (adjAt xs a).1) s (· = k) i c := fun c => Pth.same (fst_one k)
 show gI (rnds (linkC xs) (fun a => (adjAt xs a).1) s (iniB (linkC xs) s (fstF (k : Int))) 12) i = m ↔ _
 rcases rounds_find (C := linkC xs) (D := fun a => (adjAt xs a).1) (s := s) (F := fstF (k : Int)) i with ⟨r1, r2⟩ | ⟨m', r1, r2⟩
 · rw [r1]
   exact ⟨fun e => by omega, fun h => absurd ((hone m).2 h) (r2 m)⟩
 · rw [r1]
   constructor
   · intro e
     have : m' = m := by omega
     rw [<- this]; exact (hone m').1 r2.1
   · intro h
     have h1 := r2.2 m ((hone m).2 h)
     have h2 := hm.2 m' (((hone m').1 r2.1).mono (fun _ _ => trivial))
     omega
theorem hopsTo_list (xs : List Entry) (s q : Nat) (c : Int) : ∀ k, hopsTo xs s q c k = ((List.range k).map fun (i : Nat) => (i : Int)).filter fun i => decide (gI (best xs s i 12) q = c)
 | 0 => rfl
 | k + 1 => by
   unfold hopsTo
   rw [zcb, zbf, zbC, <- hopsTo_list xs s q c k]
   by_cases e : gI (best xs s (k : Int) 12) q = c
   · rw [if_pos e]; simp [e]
   · rw [if_neg e]; simp [e]
theorem dij_ex {C : Nat -> Nat -> Nat} {D : Nat -> Bool} {s : Nat} (hC : ∀ a b, C a b <= 1000) (hs : s < 12) : ∀ (n : Nat) (st : Ds) (R : Nat -> Nat -> Prop), mu st <= n -> Inv C D s R st -> Cov C D s 0 12 R st ->
  ∃ st' R', Inv C D s R' st' /\ Cov C D s 0 12 R' st' /\ st'.heap = [] := by
 intro n
 induction n with
 | zero =>
   intro st R hm hi hc
   refine ⟨st, R, hi, hc, zat ?_⟩
   unfold mu at hm; omega
 | succ n ih =>
   intro st R hm hi hc
   by_cases hl : 0 < st.heap.length
   · obtain ⟨_, _, ⟨R', h1, h2⟩, h3, _⟩ := step_inv hC hs hi hc hl
     exact ih _ R' (by omega) h1 h2
   · exact ⟨st, R, hi, hc, zat (by omega)⟩
theorem way_le (xs : List Entry) {s q : Nat} (hs : s < 12) (hq : q < 12) : -1 <= (wayTo xs s q).cost /\ (wayTo xs s q).cost <= 1048576 := by
 obtain ⟨h1, h2⟩ := ini_inv (linkC xs) (fun a => (adjAt xs a).1) hs
 obtain ⟨st, R, g1, g2, g3⟩ := dij_ex (linkC_le xs) hs _ _ _ (zab _) h1 h2
 rw [<- ways_agree hs (fun _ _ => rfl) (fun _ => rfl) g1 g2 g3 hq]
 show -1 <= costW st q /\ costW st q <= 1048576
 have := g1.nn hq
 unfold costW
 split <;> omega
theorem way_hops {xs : List Entry} {s q : Nat} (hq : q ≠ s) (hc : 0 <= (wayTo xs s q).cost) : (wayTo xs s q).hops ≠ [] := by
 rcases cost_cases xs hq with ⟨r1, _⟩ | ⟨m, r1, r2⟩
 · omega
 · obtain ⟨k, _, hk12, _, _, hk5⟩ := r2.1.first
   have hw : (wayTo xs s q).hops = hopsFor xs s q (wayTo xs s q).cost 12 := by unfold wayTo; rw [if_neg hq]
   rw [hw, r1]
   unfold hopsFor
   rw [if_neg (by omega), hopsTo_list]
   intro e
   have : (k : Int) ∈ (((List.range 12).map fun (i : Nat) => (i : Int)).filter fun i => decide (gI (best xs s i 12) q = (m : Int))) :=
    zaY.2 ⟨zbm.2 ⟨k, zbn.2 hk12, rfl⟩, by simpa using (best_iff xs r2 k).2 hk5⟩
   rw [e] at this; cases this
theorem seq_zero {α : Type} {bad : α -> Int} {ord : α -> α -> Bool} (l : List α) (h1 : ∀ x ∈ l, bad x = 0) (h2 : l.Pairwise fun a b => ord a b = true) : ∀ n k, seqChk bad ord l n k = 0
 | 0, _ => rfl
 | n + 1, k => by
   unfold seqChk
   by_cases hk : k < l.length
   · rw [zac hk]
     simp only
     rw [if_neg (by rw [h1 _ (zas hk)]; simp)]
     cases k with
     | zero => simp; exact seq_zero l h1 h2 n 1
     | succ j =>
       have hj : l[j]? = some l[j] := zac (by omega)
       have ho : ord l[j] l[j + 1] = true := zaF.1 h2 j (j + 1) (by omega) hk (by omega)
       simp [hj, ho]
       exact seq_zero l h1 h2 n (j + 1 + 1)
   · rw [zbG (by omega)]
theorem hops_ok {l : List Int} (h1 : ∀ x ∈ l, 0 <= x /\ x <= 11) (h2 : l.Pairwise (· < ·)) : ∀ n k, hopsAt l n k = true
 | 0, _ => rfl
 | n + 1, k => by
   unfold hopsAt
   by_cases hk : k < l.length
   · rw [zac hk]
     have hb := h1 _ (zas hk)
     cases k with
     | zero => simp [hb]; exact hops_ok h1 h2 n 1
     | succ j =>
       have hj : l[j]? = some l[j] := zac (by omega)
       have ho : l[j] < l[j + 1] := zaF.1 h2 j (j + 1) (by omega) hk (by omega)
       simp [hj, ho, hb]
       exact hops_ok h1 h2 n (j + 1 + 1)
   · rw [zbG (by omega)]
theorem canon_ok {l : List Int} (h : Canon l) : hopsOk l = true :=
 hops_ok (canon_in h) (by rw [<- h]; exact nodes12_lt.filter _) _ _
structure GoodR (r : Route) : Prop where
 pre : prefBad r.pre = 0
 c0 : 0 <= r.cost
 c1 : r.cost <= 1048576
 canon : Canon r.hops
 kind : (r.here = true /\ r.cost = 0 /\ r.hops = []) ∨ (r.here = false /\ r.hops ≠ [])
theorem GoodR.ok {r : Route} (h : GoodR r) : routeBad r = 0 := by
 unfold routeBad
 rw [canon_ok h.canon]
 have : routeForm r = true := by
  rcases routeForm_cases r with ⟨h1, _⟩ | ⟨_, h1 | h1 | h1⟩
  · exact h1
  · exact absurd h.pre h1
  · have := h.c0; have := h.c1; omega
  · obtain ⟨_, _, _, h2⟩ := h1
    rcases h.kind with ⟨k1, k2, k3⟩ | ⟨k1, k2⟩
    · rcases h2 with ⟨_, h2⟩ | ⟨_, _, h2⟩ | ⟨h2, _⟩
      · exact absurd k2 h2
      · rw [k3] at h2; simp at h2
      · rw [k1] at h2; cases h2
    · rcases h2 with ⟨h2, _⟩ | ⟨h2, _, _⟩ | ⟨_, h2⟩
      · rw [k1] at h2; cases h2
      · rw [k1] at h2; cases h2
      · exact absurd (zat h2) k2
 rw [this]; rfl
theorem good_upd {x r : Route} (hx : GoodR x) (hr : GoodR r) (he : x.pre = r.pre) : GoodR (updR x r) := by
 unfold updR
 split
 · exact hr
 · split
   · rename_i h2
     simp only [Bool.and_eq_true, beq_iff_eq, Bool.not_eq_true'] at h2
     have hxf : x.here = false := h2.1
     refine ⟨hx.pre, hx.c0, hx.c1, canon_join _ _, .inr ⟨hxf, ?_⟩⟩
     rcases hx.kind with ⟨k1, _⟩ | ⟨_, k2⟩
     · rw [hxf] at k1; cases k1
     · intro e
       cases hh : x.hops with
       | nil => exact k2 hh
       | cons a l =>
         have ha := canon_in hx.canon a (by rw [hh]; simp)
         have : a ∈ joinS x.hops r.hops := zaY.2 ⟨nodes12_mem.2 ha, by rw [hh]; simp⟩
         rw [show joinS x.hops r.hops = [] from e] at this; cases this
   · exact hx
theorem good_add {r : Route} (hr : GoodR r) : ∀ {l : List Route}, (∀ x ∈ l, GoodR x) -> ∀ y ∈ addR l r, GoodR y
 | [], _, y, hy => by simp [addR] at hy; rw [hy]; exact hr
 | x :: l, h, y, hy => by
   unfold addR at hy
   split at hy
   · rcases zaB.1 hy with e | e
     · rw [e]; exact h x (by simp)
     · exact good_add hr (fun z hz => h z (by simp [hz])) y e
   · split at hy
     · rename_i hs
       rcases zaB.1 hy with e | e
       · rw [e]; exact good_upd (h x (by simp)) hr ((sameP_iff _ _).1 hs)
       · exact h y (by simp [e])
     · rcases zaB.1 hy with e | e
       · rw [e]; exact hr
       · exact h y e
theorem canon_nil : Canon [] := by unfold Canon; simp
theorem good_of {xs : List Entry} {s n : Nat} (hs : s < 12) (hn : n < 12) {p : Prefix} (hp : prefBad p = 0) {r : Route} (h : routeOfN xs s n p = some r) : GoodR r := by
 unfold routeOfN at h
 split at h
 · injection h with h; subst h
   exact ⟨hp, zbS _, (by show (0 : Int) <= 1048576; omega), canon_nil, .inl ⟨rfl, rfl, rfl⟩⟩
 · rename_i hne
   split at h
   · rename_i hc
     injection h with h; subst h
     exact ⟨hp, hc, (way_le xs hs hn).2, canon_way _ _ _, .inr ⟨rfl, way_hops hne hc⟩⟩
   · cases h
theorem good_addN {xs : List Entry} {s n : Nat} (hs : s < 12) (hn : n < 12) {l : List Route} (hl : ∀ x ∈ l, GoodR x) {p : Prefix} (hp : prefBad p = 0) : ∀ y ∈ addN xs s n l p, GoodR y := by
 unfold addN
 split
 · exact hl
 · rename_i r hr
   exact good_add (good_of hs hn hp hr) hl
theorem good_row {xs : List Entry} {s n : Nat} (hs : s < 12) (hn : n < 12) : ∀ (ps : List Prefix) (l : List Route), (∀ p ∈ ps, prefBad p = 0) -> (∀ x ∈ l, GoodR x) -> ∀ y ∈ rowN xs s n l ps, GoodR y
 | [], _, _, hl => hl
 | p :: ps, l, hp, hl => good_row hs hn ps (addN xs s n l p) (fun q hq => hp q (by simp [hq])) (good_addN hs hn hl (hp p (by simp)))
theorem good_tab {xs : List Entry} {s : Nat} (hs : s < 12) : ∀ n, n <= 12 -> ∀ y ∈ tabTo xs s n, GoodR y
 | 0, _ => fun y hy => by cases hy
 | n + 1, hn => good_row hs (by omega) _ _ (prefs_fine (prefsAt_chk xs n)).2.1 (good_tab hs n (by omega))
theorem sorted_tab (xs : List Entry) (s n : Nat) : SortedR (tabTo xs s n) := (tab_find (fun n => (prefs_fine (prefsAt_chk xs n)).2.2) n).1
theorem chk_sorted {l : List Route} (h1 : ∀ x ∈ l, GoodR x) (h2 : SortedR l) (h3 : l.length <= 200) : chkRoutes l = 0 := by
 unfold chkRoutes
 rw [if_neg (by omega)]
 exact seq_zero l (fun x hx => (h1 x hx).ok) h2 _ _
theorem chk_tab {xs : List Entry} {s : Nat} (hs : s < 12) : chkRoutes (tabTo xs s 12) = 0 :=
 chk_sorted (good_tab hs 12 (zab _)) (sorted_tab xs s 12) (by have := len_tab xs s 12; omega)
end
end Go.Proofs.YtojojpjldkpmoaaGreatDoor
