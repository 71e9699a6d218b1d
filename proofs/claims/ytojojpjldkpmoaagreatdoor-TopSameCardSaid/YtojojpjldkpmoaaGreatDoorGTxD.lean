/-
  
-/
import Derived.Test.YtojojpjldkpmoaaGreatDoorGTxB
set_option linter.unusedVariables false
set_option linter.unusedSimpArgs false
set_option maxHeartbeats 16000000
namespace Go.Proofs.YtojojpjldkpmoaaGreatDoor
section
open Go Go.RowKit
section
variable {α : Type} {bad : α -> Int} {ord : α -> α -> Bool}
theorem sc_zero (l : List α) : ∀ (n k : Nat), seqChk bad ord l n k = 0 -> k + n = l.length -> ∀ i, k <= i -> (h : i < l.length) -> bad l[i] = 0 /\ (∀ j, (hj : j + 1 = i) -> ord (l[j]'(by omega)) l[i] = true)
 | 0, k, _, hk, i, hi, h => by omega
 | n + 1, k, hs, hk, i, hi, h => by
   have hlt : k < l.length := by omega
   have hb : bad l[k] = 0 := by
    rcases Classical.em (bad l[k] = 0) with e | e
    · exact e
    · have := sc_bad (bad := bad) (ord := ord) l k hlt e
      rw [show l.length - k = n + 1 by omega, hs] at this
      exact absurd this.symm e
   have hnext : seqChk bad ord l n (k + 1) = 0 /\ ∀ j, (hj : j + 1 = k) -> ord (l[j]'(by omega)) l[k] = true := by
    rcases zaJ k with h0 | h0
    · subst h0
      have := sc_first (bad := bad) (ord := ord) l hlt hb
      rw [show l.length - 0 = n + 1 by omega, hs, show l.length - 1 = n by omega] at this
      exact ⟨this.symm, fun j hj => by omega⟩
    · obtain ⟨m, rfl⟩ : ∃ m, k = m + 1 := ⟨k - 1, by omega⟩
      rcases ho : ord l[m] l[m + 1] with _ | _
      · have := sc_order (bad := bad) (ord := ord) l m hlt hb ho
        rw [show l.length - (m + 1) = n + 1 by omega, hs] at this
        cases this
      · have := sc_next (bad := bad) (ord := ord) l m hlt hb ho
        rw [show l.length - (m + 1) = n + 1 by omega, hs, show l.length - (m + 1 + 1) = n by omega] at this
        refine ⟨this.symm, fun j hj => ?_⟩
        obtain rfl : j = m := by omega
        exact ho
   rcases zbu k i with hki | hki
   · exact sc_zero l n (k + 1) hnext.1 (by omega) i hki h
   · obtain rfl : i = k := by omega
     exact ⟨hb, hnext.2⟩
end
theorem sides_all {l : List Side} (h : chkSides l = 0) : ∀ i, (hi : i < l.length) -> 0 <= l[i].node /\ l[i].node <= 11 /\ 1 <= l[i].cost /\ l[i].cost <= 1000 := by
 intro i hi
 have h1 := (sc_zero l (l.length - 0) 0 h (by omega) i (zak _) hi).1
 unfold sideBad at h1
 split at h1
 · assumption
 · cases h1
theorem sides_ord {l : List Side} (h : chkSides l = 0) : ∀ i, (hi : i + 1 < l.length) -> l[i].node < l[i + 1].node := by
 intro i hi
 have h1 := (sc_zero l (l.length - 0) 0 h (by omega) (i + 1) (zak _) hi).2 i rfl
 unfold sideOrd at h1
 exact of_decide_eq_true h1
theorem sides_node {l : List Side} (h : chkSides l = 0) : ∀ (i : Nat) (hi : i < l.length), (i : Int) <= l[i].node
 | 0, hi => (sides_all h 0 hi).1
 | i + 1, hi => by
   have h1 := sides_node h i (by omega)
   have h2 := sides_ord h i hi
   omega
theorem sides_len {l : List Side} (h : chkSides l = 0) : l.length <= 12 := by
 rcases zbu 12 l.length with h1 | h1
 · have h2 := sides_node h 12 h1
   have h3 := (sides_all h 12 h1).2.1
   omega
 · exact h1
theorem prefs_len {l : List Prefix} (h : chkPrefs l = 0) : l.length <= 6 := by
 unfold chkPrefs at h
 split at h
 · cases h
 · omega
theorem prefs_all {l : List Prefix} (h : chkPrefs l = 0) : ∀ i, (hi : i < l.length) -> 0 <= l[i].bits /\ l[i].bits <= 8 /\ 0 <= l[i].addr /\ l[i].addr <= 255 := by
 intro i hi
 have h0 := prefs_len h
 unfold chkPrefs at h
 rw [if_neg (by omega)] at h
 have h1 := (sc_zero l (l.length - 0) 0 h (by omega) i (zak _) hi).1
 unfold prefBad at h1
 split at h1
 · assumption
 · cases h1
theorem join_len (m : Nat) : ∀ l : List (List UInt8), (∀ x ∈ l, x.length <= m) -> (Lib.join l [44]).length <= l.length * (m + 1)
 | [], _ => by simp [Lib.join_nil]
 | [x], h => by rw [Lib.join_one]; have := h x (by simp); simp; omega
 | x :: y :: l, h => by
   have e : Lib.join (x :: y :: l) [44] = x ++ 44 :: Lib.join (y :: l) [44] := by simp [Lib.join, List.intercalate]
   have h1 := join_len m (y :: l) (fun z hz => h z (by simp [hz]))
   have h2 := h x (by simp)
   rw [e, zah, zaw, zaw, zbZ]
   omega
theorem pair_len (b : UInt8) (x y : Int) (hx : 0 <= x) (hx2 : x <= 1000) (hy : 0 <= y) (hy2 : y <= 1000) : (pairT b x y).length <= 20 := by
 unfold pairT
 have h1 := dec_len 4 x.toNat (by omega)
 have h2 := dec_len 4 y.toNat (by omega)
 simp; omega
theorem itoa_pos {n : Int} (h : 0 <= n) : Lib.itoa n = Lib.decDigits n.toNat := by
 obtain ⟨m, rfl⟩ := zaZ h
 rw [itoa_nat]; rfl
theorem pair_cat (b : UInt8) (x y : Int) : bOf (Lib.decDigits x.toNat) ++ ⟨#[b]⟩ ++ bOf (Lib.decDigits y.toNat) = bOf (pairT b x y) := by
 unfold pairT bOf
 rw [Go.ByteArray.mk_append_mk (Lib.decDigits x.toNat) [b], Go.ByteArray.mk_append_mk]
 simp
theorem not_dec {b : UInt8} (hb : ¬ isD b) (n : Nat) : b ∉ Lib.decDigits n := fun h => hb (dec_dig n b h)
theorem pair_read {b : UInt8} (hb : ¬ isD b) {x y : Int} (hx : 0 <= x) (hx2 : x <= 100000) (hy : 0 <= y) (hy2 : y <= 100000) : pairD b (pairT b x y) = some (x, y) := by
 obtain ⟨m, rfl⟩ := zaZ hx
 obtain ⟨n, rfl⟩ := zaZ hy
 unfold pairD pairT
 rw [cutB_at _ (not_dec hb _)]
 simp only [zaL]
 rw [num_dec m 100000 hx2 (by omega), num_dec n 100000 hy2 (by omega), if_pos ⟨trivial, hx, hy⟩]
theorem pairs_read {b : UInt8} (hb : ¬ isD b) : ∀ {l : List (Int × Int)}, (∀ z ∈ l, 0 <= z.1 /\ z.1 <= 100000 /\ 0 <= z.2 /\ z.2 <= 100000) -> pairsD b (l.map fun z => pairT b z.1 z.2) = some l
 | [], _ => rfl
 | z :: l, h => by
   obtain ⟨h1, h2, h3, h4⟩ := h z (by simp)
   rw [zaH]
   unfold pairsD
   rw [pair_read hb h1 h2 h3 h4, pairs_read hb (l := l) (fun y hy => h y (by simp [hy]))]
theorem join_ne {x : List UInt8} {l : List (List UInt8)} (h : x ≠ []) : Lib.join (x :: l) [44] ≠ [] := by
 rw [Lib.join_cons]
 intro e
 exact h (List.append_eq_nil_iff.1 e).1
theorem parts_join {l : List (List UInt8)} (h : ∀ x ∈ l, x ≠ [] /\ (44 : UInt8) ∉ x) : partsC (Lib.join l [44]) = l := by
 rcases l with _ | ⟨x, l⟩
 · rfl
 · unfold partsC
   rw [if_neg (join_ne (h x (by simp)).1), split_join (by simp) (fun y hy => (h y hy).2)]
theorem pair_ne (b : UInt8) (x y : Int) : pairT b x y ≠ [] := by unfold pairT; simp
theorem pair_44 {b : UInt8} (hb : b ≠ 44) (x y : Int) : (44 : UInt8) ∉ pairT b x y := by
 have h44 : ¬ isD 44 := by decide
 unfold pairT
 intro h
 rcases zaI.1 h with h | h
 · exact not_dec h44 _ h
 · rcases zaB.1 h with h | h
   · exact hb h.symm
   · exact not_dec h44 _ h
theorem pair_head {b : UInt8} {x y : Int} : ∃ c r, pairT b x y = c :: r /\ isD c := by
 unfold pairT
 obtain ⟨c, r, e⟩ := List.exists_cons_of_ne_nil (dec_ne x.toNat)
 refine ⟨c, r ++ b :: Lib.decDigits y.toNat, by rw [e]; rfl, dec_dig x.toNat c (by rw [e]; simp)⟩
theorem prefs_read {l : List Prefix} (h : chkPrefs l = 0) : readPrefs (prefsT l) = (l, 0) := by
 have ha := prefs_all h
 have e : l.map prefT = (l.map fun p => (p.addr, p.bits)).map fun z => pairT 47 z.1 z.2 := by rw [List.map_map]; rfl
 have hm : (l.map fun p => (p.addr, p.bits)).map (fun z => (⟨z.1, z.2⟩ : Prefix)) = l := by
  rw [List.map_map]
  exact (List.map_congr_left (g := id) (fun _ _ => rfl)).trans (List.map_id l)
 unfold readPrefs prefsT
 rw [parts_join (by
  intro x hx
  obtain ⟨p, _, rfl⟩ := zbm.1 hx
  exact ⟨pair_ne _ _ _, pair_44 (by decide) _ _⟩), e, pairs_read (by decide) (by
  intro z hz
  obtain ⟨p, hp, rfl⟩ := zbm.1 hz
  obtain ⟨i, hi, rfl⟩ := zaj hp
  obtain ⟨h1, h2, h3, h4⟩ := ha i hi
  exact ⟨h3, by omega, h1, by omega⟩)]
 simp only
 rw [hm, if_pos h]
theorem adj_trim (d : Bool) (l : List Side) : Lib.trimPrefix (adjT d l) [33] = Lib.join (l.map sideT) [44] /\ Lib.hasPrefix (adjT d l) [33] = d := by
 cases d with
 | true =>
   have e : adjT true l = 33 :: Lib.join (l.map sideT) [44] := rfl
   have h : Lib.hasPrefix (adjT true l) [33] = true := by rw [e]; unfold Lib.hasPrefix; simp [List.isPrefixOf]
   refine ⟨?_, h⟩
   unfold Lib.trimPrefix
   rw [if_pos h, e]; rfl
 | false =>
   have e : adjT false l = Lib.join (l.map sideT) [44] := rfl
   have h : Lib.hasPrefix (adjT false l) [33] = false := by
    rw [e]
    rcases l with _ | ⟨s, l⟩
    · rfl
    · obtain ⟨c, r, e1, hc⟩ := pair_head (b := 61) (x := s.node) (y := s.cost)
      rw [zaH, Lib.join_cons, show sideT s = c :: r from e1]
      unfold Lib.hasPrefix
      have : (33 == c) = false := by rw [beq_eq_false_iff_ne]; rintro rfl; exact absurd hc (by decide)
      simp [List.isPrefixOf, this]
   refine ⟨?_, h⟩
   unfold Lib.trimPrefix
   rw [if_neg (by rw [h]; simp), e]
theorem adj_read {d : Bool} {l : List Side} (h : chkSides l = 0) : readAdj (adjT d l) = (d, l, 0) := by
 have ha := sides_all h
 have e : l.map sideT = (l.map fun p => (p.node, p.cost)).map fun z => pairT 61 z.1 z.2 := by rw [List.map_map]; rfl
 have hm : (l.map fun p => (p.node, p.cost)).map (fun z => (⟨z.1, z.2⟩ : Side)) = l := by
  rw [List.map_map]
  exact (List.map_congr_left (g := id) (fun _ _ => rfl)).trans (List.map_id l)
 unfold readAdj
 rw [(adj_trim d l).1, (adj_trim d l).2, parts_join (by
  intro x hx
  obtain ⟨p, _, rfl⟩ := zbm.1 hx
  exact ⟨pair_ne _ _ _, pair_44 (by decide) _ _⟩), e, pairs_read (by decide) (by
  intro z hz
  obtain ⟨p, hp, rfl⟩ := zbm.1 hz
  obtain ⟨i, hi, rfl⟩ := zaj hp
  obtain ⟨h1, h2, h3, h4⟩ := ha i hi
  exact ⟨h1, by omega, by omega, by omega⟩)]
 simp only
 rw [hm, if_pos h]
end
end Go.Proofs.YtojojpjldkpmoaaGreatDoor
