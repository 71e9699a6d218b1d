/-
  Walks of package tollbarkeep: prefix of a raw number.
  Walks of the store layer, part S: PutOf.
  What merging keeps: plain lemmas, no program in sight.
  Showing links as text: ShowAdj and AdjText, walked.
  What a node tells is short. Plain lemmas, no program in sight.
  What Map keeps in memory while it goes over raw things.
  Merging stores in whatever order: plain lemmas, no program in sight.
  Map of raw things: a store that may be, walked.
-/
import Derived.Test.YtcbkimbeljhbhaaGreatDoorGKeO
import Derived.Test.YtcbkimbeljhbhaaGreatDoorGRibF
import Derived.Test.YtcbkimbeljhbhaaGreatDoorGDoA
import Derived.Test.YtcbkimbeljhbhaaGreatDoorGStQ
import Derived.Test.YtcbkimbeljhbhaaGreatDoorGStM
import Derived.Test.YtcbkimbeljhbhaaGreatDoorGStE
import Derived.Test.YtcbkimbeljhbhaaGreatDoorGDoG
import Derived.Test.YtcbkimbeljhbhaaGreatDoorGDoF
import Derived.Test.YtcbkimbeljhbhaaGreatDoorGDoS
import Derived.Test.YtcbkimbeljhbhaaGreatDoorGTbG
import Derived.Test.YtcbkimbeljhbhaaGreatDoorGDoB
import Derived.Deep.RegionLaw
set_option linter.unusedVariables false
set_option linter.unusedSimpArgs false
namespace Go.Proofs.YtcbkimbeljhbhaaGreatDoor
open Go Go.RowKit Go.Deep

def bitsL : List Int := [0, 1, 2, 3, 4, 8, 8, 5]
theorem bitsL_in : ∀ q, q < 8 → 0 ≤ bitsL.getD q 0 ∧ bitsL.getD q 0 ≤ 8 := by decide
/-- the prefix of a raw number -/
def rawP (n : Int) : Prefix := ⟨(pickN (n.tdiv 8) 256 : Nat) - ((pickN (n.tdiv 8) 256 : Nat) : Int) % spanN (bitsL.getD (pickN n 8) 0), bitsL.getD (pickN n 8) 0⟩
theorem rawP_in (n : Int) : inR (rawP n).addr ∧ inR (rawP n).bits := by
  have h1 := pickN_lt n 8 (by omega)
  have h2 := pickN_lt (n.tdiv 8) 256 (by omega)
  have h3 := bitsL_in _ h1
  constructor
  · show inR ((pickN (n.tdiv 8) 256 : Nat) - ((pickN (n.tdiv 8) 256 : Nat) : Int) % spanN (bitsL.getD (pickN n 8) 0))
    have h0 : (0 : Int) ≤ (pickN (n.tdiv 8) 256 : Nat) := Int.natCast_nonneg _
    have h4 : 0 ≤ spanN (bitsL.getD (pickN n 8) 0) := by unfold spanN; exact Int.natCast_nonneg _
    have h5 := Int.emod_nonneg ((pickN (n.tdiv 8) 256 : Nat) : Int) (b := spanN (bitsL.getD (pickN n 8) 0))
    have h6 : ((pickN (n.tdiv 8) 256 : Nat) : Int) % spanN (bitsL.getD (pickN n 8) 0) ≤ ((pickN (n.tdiv 8) 256 : Nat) : Int) := by
      unfold spanN
      show ((pickN (n.tdiv 8) 256 % (256 / 2 ^ (bitsL.getD (pickN n 8) 0).toNat) : Nat) : Int) ≤ _
      have := Nat.mod_le (pickN (n.tdiv 8) 256) (256 / 2 ^ (bitsL.getD (pickN n 8) 0).toNat)
      omega
    by_cases e : spanN (bitsL.getD (pickN n 8) 0) = 0
    · rw [e, Int.emod_zero]; unfold inR; omega
    · have := h5 e
      unfold inR; omega
  · show inR (bitsL.getD (pickN n 8) 0)
    unfold inR; omega

set_option maxRecDepth 50000 in
set_option maxHeartbeats 1000000 in
theorem prefixK_any (n : Int) (w : World) (hn : inR n) :
    Calls Tryz.prog 34 #[.int .i64 n] w fun e w' => e = .returned (.agg #[.int .i64 (rawP n).addr, .int .i64 (rawP n).bits]) ∧ Below w.heap.size w w' := by
  have hq := pickN_lt n 8 (by omega)
  have hd : inR (n.tdiv 8) := by
    obtain ⟨h1, h2⟩ := hn
    unfold inR
    have e1 : n.tdiv 8 = if 0 ≤ n then n / 8 else -((-n) / 8) := by
      split
      · exact Int.tdiv_eq_ediv_of_nonneg (by omega)
      · have : n = -(-n) := by omega
        rw [this, Int.neg_tdiv, Int.tdiv_eq_ediv_of_nonneg (by omega)]
        simp
    rw [e1]
    split <;> omega
  have ha := pickN_lt (n.tdiv 8) 256 (by omega)
  have P1 := Go.Lib.hid (fun w => picked_any n 8 w hn (by omega) (by omega))
  have P2 := Go.Lib.hid (fun w => picked_any (n.tdiv 8) 256 w hd (by omega) (by omega))
  have hb := bitsL_in _ hq
  have hand := andNot_span (pickN (n.tdiv 8) 256 : Nat) (bitsL.getD (pickN n 8) 0) hb.1 hb.2 (Int.natCast_nonneg _) (by omega)
  have HR := Go.Lib.hid (show rawP n = ⟨(pickN (n.tdiv 8) 256 : Nat) - ((pickN (n.tdiv 8) 256 : Nat) : Int) % spanN (bitsL.getD (pickN n 8) 0), bitsL.getD (pickN n 8) 0⟩ from rfl)
  have hwd : wrap64 (n.tdiv 8) = n.tdiv 8 := by unfold inR at hd; unfold wrap64; omega
  have HWD := Go.Lib.hid hwd
  have hcell : ∀ W : World, ∀ B, B = W.heap.size → (W.alloc (.cells #[.int .i64 0, .int .i64 1, .int .i64 2, .int .i64 3, .int .i64 4, .int .i64 8, .int .i64 8, .int .i64 5] 3)).cell? ⟨B, pickN n 8, none⟩ = some (.int .i64 (bitsL.getD (pickN n 8) 0)) := by
    intro W B hB
    rw [World.cell?_alloc_at _ _ _ _ hB]
    generalize pickN n 8 = q at hq ⊢
    have : q = 0 ∨ q = 1 ∨ q = 2 ∨ q = 3 ∨ q = 4 ∨ q = 5 ∨ q = 6 ∨ q = 7 := by omega
    rcases this with rfl | rfl | rfl | rfl | rfl | rfl | rfl | rfl <;> rfl
  have HC := Go.Lib.hid hcell
  obtain ⟨R, hR⟩ : ∃ R, R = rawP n := ⟨_, rfl⟩
  rw [← hR] at HR
  rw [← hR]
  have hb1 := hb.1
  have hb2 := hb.2
  clear hcell hb hR hd hn hwd
  generalize bitsL.getD (pickN n 8) 0 = b at *
  generalize pickN n 8 = q at *
  generalize pickN (n.tdiv 8) 256 = a at *
  have hqi : (q : Int) < 8 := by omega
  have hq0 : (0 : Int) ≤ (q : Int) := Int.natCast_nonneg q
  have hbn : ¬ b < 0 := by omega
  have c1 := HC.out (w.alloc (.cells #[.int .i64 0, .int .i64 0] 62)) _ rfl
  simp only [World.size_alloc] at c1
  have HAL := Go.Lib.hid (((Below.refl w.heap.size w).alloc (Nat.le_refl _) (.cells #[.int .i64 0, .int .i64 0] 62)).alloc (by simp) (.cells #[.int .i64 0, .int .i64 1, .int .i64 2, .int .i64 3, .int .i64 4, .int .i64 8, .int .i64 8, .int .i64 5] 3))
  clear ha hq
  go_enter Tryz.func34, Tryz.ntmps34
  go_wp2_with fail
  refine (P1.out _).mono ?_
  rintro e w' ⟨rfl, rfl⟩
  go_wp2_with fail
  rw [HWD.out]
  refine (P2.out _).mono ?_
  rintro e w' ⟨rfl, rfl⟩
  go_wp2_with fail
  refine bodyPost_ret (v := .agg #[.int .i64 (a - a % spanN b), .int .i64 b]) (by simp [results, Tryz.results34, go_sem, *]) rfl ⟨by rw [HR.out], ((Below.refl w.heap.size w).alloc (Nat.le_refl _) _).alloc (by simp) _⟩
end Go.Proofs.YtcbkimbeljhbhaaGreatDoor

namespace Go.Proofs.YtcbkimbeljhbhaaGreatDoor
open Go.RowKit Go.Deep

theorem Sl.wfs {w : World} {v : Value} {xs : List Entry} (h : Sl entR w v xs) : ∀ e ∈ xs, e.wf := by
  intro e he
  obtain ⟨j, hj, rfl⟩ := List.getElem_of_mem he
  obtain ⟨A, c, rfl⟩ := h.form
  obtain ⟨b, off, rfl, _⟩ := h.at_ hj
  exact (h.ent hj).2.2.2.2

end Go.Proofs.YtcbkimbeljhbhaaGreatDoor

namespace Go.Proofs.YtcbkimbeljhbhaaGreatDoor
open Go.RowKit

theorem above_irrefl (a : Entry) : aboveE a a = false := by unfold aboveE; simp [ltB_irrefl]
theorem above_lift {e g y : Entry} (h : aboveE e g = false) (h2 : aboveE y g = true) : aboveE e y = false := by
  unfold aboveE at *
  by_cases v1 : e.version = g.version <;> by_cases v2 : y.version = g.version <;> by_cases o1 : e.origin = g.origin <;> by_cases o2 : y.origin = g.origin <;> by_cases v3 : e.version = y.version <;> by_cases o3 : e.origin = y.origin <;> simp_all <;> first
    | omega
    | (rcases hl : ltB y.value e.value with _ | _
       · rfl
       · rw [ltB_trans h2 hl] at h; cases h)
    | skip

theorem find_iff {l : List Entry} (hl : l.Pairwise ltE) (k : ByteArray) (e : Entry) : findE l k = some e ↔ e ∈ l ∧ e.key = k := by
  constructor
  · intro h; exact (findE_key h).symm
  · rintro ⟨hm, rfl⟩
    obtain ⟨j, hj, rfl⟩ := List.getElem_of_mem hm
    have h1 := hasE_at hl l[j].key hj rfl
    have h2 := findE_some hl l[j].key (by omega) (by simp only [h1])
    simp only [h1] at h2
    exact h2
theorem find_none_iff {l : List Entry} (k : ByteArray) : findE l k = none ↔ ∀ e ∈ l, e.key ≠ k := by
  unfold findE
  rw [List.find?_eq_none]
  exact ⟨fun h e he hk => h e he (by simpa using hk), fun h e he hk => h e he (by simpa using hk)⟩
theorem mem_withE {l : List Entry} (hl : l.Pairwise ltE) (x e : Entry) : e ∈ withE l x ↔ e = x ∨ (e ∈ l ∧ e.key ≠ x.key) := by
  have hle := lbE_le l x.key
  unfold withE
  rw [List.mem_append, List.mem_cons]
  constructor
  · rintro (h | h | h)
    · right
      obtain ⟨i, hi, rfl⟩ := List.getElem_of_mem h
      rw [List.length_take] at hi
      rw [List.getElem_take]
      refine ⟨List.getElem_mem _, fun e => ?_⟩
      have := lbE_lt l x.key i (by omega) (by omega)
      rw [e, ltB_irrefl] at this; cases this
    · exact .inl h
    · right
      refine ⟨List.mem_of_mem_drop h, fun hk => ?_⟩
      obtain ⟨i, hi, rfl⟩ := List.getElem_of_mem h
      rw [List.length_drop] at hi
      rw [List.getElem_drop] at hk
      have h1 := hasE_at hl x.key (by omega) hk
      have h2 : hasE l x.key = true := by
        unfold hasE
        rw [List.any_eq_true]
        exact ⟨_, List.getElem_mem _, decide_eq_true hk⟩
      rw [if_pos h2] at h1
      omega
  · rintro (h | ⟨h, hk⟩)
    · exact .inr (.inl h)
    · obtain ⟨i, hi, rfl⟩ := List.getElem_of_mem h
      by_cases h1 : i < lbE l x.key
      · left
        rw [List.mem_iff_getElem]
        exact ⟨i, by rw [List.length_take]; omega, by rw [List.getElem_take]⟩
      · right; right
        rw [List.mem_iff_getElem]
        have hne : lbE l x.key + (if hasE l x.key = true then 1 else 0) ≤ i := by
          split
          · rename_i h2
            obtain ⟨hl2, hk2⟩ := (hasE_iff hl _).1 h2
            rcases Nat.lt_or_eq_of_le (Nat.le_of_not_lt h1) with h3 | h3
            · omega
            · exact absurd (by simp only [← h3]; exact hk2) hk
          · omega
        exact ⟨i - (lbE l x.key + if hasE l x.key = true then 1 else 0), by rw [List.length_drop]; omega, by rw [List.getElem_drop]; congr 1; omega⟩
theorem find_with_same {l : List Entry} (hl : l.Pairwise ltE) (x : Entry) : findE (withE l x) x.key = some x :=
  (find_iff (withE_ord hl x) _ _).2 ⟨(mem_withE hl x x).2 (.inl rfl), rfl⟩
theorem find_with_other {l : List Entry} (hl : l.Pairwise ltE) (x : Entry) {k : ByteArray} (hk : k ≠ x.key) : findE (withE l x) k = findE l k := by
  rcases h : findE l k with _ | e
  · rw [find_none_iff] at h ⊢
    intro e he hek
    rcases (mem_withE hl x e).1 he with rfl | ⟨h1, _⟩
    · exact hk hek.symm
    · exact h e h1 hek
  · rw [find_iff hl] at h
    rw [find_iff (withE_ord hl x)]
    exact ⟨(mem_withE hl x e).2 (.inr ⟨h.1, by rw [h.2]; exact hk⟩), h.2⟩

theorem step_grow {p : List Entry × List ByteArray} {y e g : Entry} (hp : p.1.Pairwise ltE) (hg : findE p.1 e.key = some g) (ha : aboveE e g = false) : ∃ g', findE (mergeStep aboveE p y).1 e.key = some g' ∧ aboveE e g' = false := by
  unfold mergeStep
  rcases hf : findE p.1 y.key with _ | o
  · simp only
    split
    · by_cases hk : e.key = y.key
      · rw [hk, hf] at hg; cases hg
      · exact ⟨g, by simp only; rw [find_with_other hp y hk]; exact hg, ha⟩
    · exact ⟨g, hg, ha⟩
  · simp only
    split
    · rename_i hab
      by_cases hk : e.key = y.key
      · rw [hk, hf] at hg
        injection hg with hg
        subst hg
        exact ⟨y, by simp only; rw [hk]; exact find_with_same hp y, above_lift ha hab⟩
      · exact ⟨g, by simp only; rw [find_with_other hp y hk]; exact hg, ha⟩
    · exact ⟨g, hg, ha⟩
theorem mTo_grow {a b : List Entry} (ha : OkS a) (hb : ∀ e ∈ b, entryOk e = true) {e : Entry} (he : e ∈ a) : ∀ k, k ≤ b.length → ∃ g, findE (mTo a b k).1 e.key = some g ∧ aboveE e g = false
  | 0, _ => ⟨e, (find_iff ha.ord _ _).2 ⟨he, rfl⟩, above_irrefl e⟩
  | k + 1, hk => by
    obtain ⟨g, h1, h2⟩ := mTo_grow ha hb he k (by omega)
    rw [mTo_succ a b k (by omega)]
    exact step_grow (mTo_ok ha hb k).ord h1 h2
theorem step_len {p : List Entry × List ByteArray} (hp : p.1.Pairwise ltE) (y : Entry) : p.1.length ≤ (mergeStep aboveE p y).1.length := by
  unfold mergeStep
  split
  · split
    · simp only; rw [withE_len hp]; omega
    · exact Nat.le_refl _
  · split
    · simp only; rw [withE_len hp]; omega
    · exact Nat.le_refl _
theorem mTo_len_ge {a b : List Entry} (ha : OkS a) (hb : ∀ e ∈ b, entryOk e = true) : ∀ k, k ≤ b.length → a.length ≤ (mTo a b k).1.length
  | 0, _ => Nat.le_refl _
  | k + 1, hk => by
    rw [mTo_succ a b k (by omega)]
    exact Nat.le_trans (mTo_len_ge ha hb k (by omega)) (step_len (mTo_ok ha hb k).ord _)
theorem merge_grow {a b : List Entry} (ha : OkS a) (hb : OkS b) : OkS (mergeS aboveE a b).1 ∧ (∀ e ∈ a, ∃ g, getS (mergeS aboveE a b).1 e.key = (g, 0) ∧ ¬ cmpE g e < 0) ∧ a.length ≤ (mergeS aboveE a b).1.length := by
  rw [merge_ok ha.check hb.check]
  have hok := mTo_ok ha hb.ok b.length
  refine ⟨hok, fun e he => ?_, mTo_len_ge ha hb.ok _ (Nat.le_refl _)⟩
  obtain ⟨g, h1, h2⟩ := mTo_grow ha hb.ok he b.length (Nat.le_refl _)
  refine ⟨g, by unfold getS; rw [if_pos hok.check]; simp only; rw [h1], ?_⟩
  rw [cmpE_above, h2]
  split <;> simp
end Go.Proofs.YtcbkimbeljhbhaaGreatDoor

namespace Go.Proofs.YtcbkimbeljhbhaaGreatDoor
open Go Go.RowKit



def TAdj (d : Bool) (xs : List Side) (e : Ending) : Prop := e = .returned (.tuple #[.string (if chkSides xs = 0 then bOf (adjT d xs) else ⟨#[]⟩), .int .i64 (chkSides xs)])
theorem ta_good {d : Bool} {xs : List Side} {t : List UInt8} (h : chkSides xs = 0) (ht : t = adjT d xs) : TAdj d xs (.returned (.tuple #[.string (bOf t), .int .i64 0])) := by unfold TAdj; rw [if_pos h, h, ht]
theorem ta_bad {d : Bool} {xs : List Side} (h : chkSides xs ≠ 0) : TAdj d xs (.returned (.tuple #[.string ⟨#[]⟩, .int .i64 (chkSides xs)])) := by unfold TAdj; rw [if_neg h]
theorem add_bang (T : List UInt8) (h : 1 + T.length ≤ 9223372036854775807) (w : World) : (Op.stringOp .add ⟨#[33]⟩ (bOf T)).run Tryz.prog w = .ok (.string (bOf (33 :: T))) w := add_run [33] T h w

set_option maxRecDepth 50000 in
set_option maxHeartbeats 2000000 in
theorem showAdj_any (d : Bool) (v : Value) (xs : List Side) (w : World) (h : Sl sideR w v xs) (hE : EnvT w) :
    Calls Tryz.prog 18 #[.agg #[.bool d, v]] w fun e w' => TAdj d xs e ∧ Below w.heap.size w w' := by
  have hl := h.len_le
  obtain ⟨A, c, rfl⟩ := h.form
  have hb0 := (Below.refl w.heap.size w).alloc (Nat.le_refl _) (.cells #[.bool d, .slice A xs.length c] 53)
  have HBW := Go.Lib.hid hb0
  have H := Go.Lib.hid h
  have HE := Go.Lib.hid hE
  have HCK := Go.Lib.hid (checkAdj_any d _ xs _ (h.below hb0))
  clear h hE hb0
  by_cases hc : chkSides xs = 0
  · have HC := Go.Lib.hid hc
    have hn6 := sides_len hc
    have HALL := Go.Lib.hid (sides_all hc)
    rw [hc] at HCK
    clear hc
    have HPL0 := Go.Lib.hid (fun x (hx : x ∈ xs.map sideT) => (by
      obtain ⟨p, hp, rfl⟩ := List.mem_map.1 hx
      obtain ⟨i, hi, rfl⟩ := List.getElem_of_mem hp
      obtain ⟨a1, a2, a3, a4⟩ := HALL.out i hi
      exact pair_len 61 _ _ a1 (by omega) (by omega) (by omega) : x.length ≤ 20))
    go_enter Tryz.func18, Tryz.ntmps18
    go_wp2_with (go_at_call 46; refine HCK.out.mono ?_; rintro e w1 ⟨rfl, hb1⟩; obtain ⟨hA, hN, _, hS⟩ := pastAlloc hb1; have n0 : w1.cell? ⟨w.heap.size, 0, none⟩ = some (.bool d) := hN 0; have n1 : w1.cell? ⟨w.heap.size, 1, none⟩ = some (.slice A xs.length c) := hN 1; have HB1 := Go.Lib.hid hA; clear hb1 hA hN)
    have HV1 := Go.Lib.hid (H.out.below HB1.out)
    have N0 := Go.Lib.hid n0
    clear n0 n1
    go_loopw [5, 17] (fun o i wr => ∃ k : Nat, k ≤ xs.length ∧ i = .int .i64 k ∧ OwR strR 9 w1.heap.size wr o (((xs.take k).map sideT).map bOf) ∧ Below w1.heap.size w1 wr) (fun _ i _ => xs.length - (intOf i).toNat)
    case atStart => exact ⟨0, Nat.zero_le _, rfl, OwR.nil _ _ (Nat.le_refl _), Below.refl _ _⟩
    case round =>
      obtain ⟨k, hk, rfl, ho, hB⟩ := hrel
      have HO := Go.Lib.hid ho
      have HB := Go.Lib.hid hB
      clear ho hB
      by_cases hlt : k < xs.length
      · obtain ⟨b, off, rfl, hb⟩ := HV1.out.at_ hlt
        obtain ⟨f1, f2, i1, i2⟩ := (HV1.out.below HB.out).side hlt
        obtain ⟨a1, a2, a3, a4⟩ := HALL.out k hlt
        have HT := Go.Lib.hid (show sideT xs[k] = pairT 61 xs[k].node xs[k].cost from rfl)
        have hsuc : ((xs.take (k + 1)).map sideT).map bOf = ((xs.take k).map sideT).map bOf ++ [bOf (sideT xs[k])] := by
          rw [List.take_succ_eq_append_getElem hlt, List.map_append, List.map_append]; rfl
        rw [HT.out] at hsuc
        have HSUC := Go.Lib.hid hsuc
        have hn1 : (((xs.take k).map sideT).map bOf).length + 1 ≤ 1000000000000 := by rw [List.length_map, List.length_map, List.length_take]; omega
        have HN1 := Go.Lib.hid hn1
        have hpl := pair_len 61 xs[k].node xs[k].cost a1 (by omega) (by omega) (by omega)
        have ea := itoa_pos a1
        have eb := itoa_pos (show 0 ≤ xs[k].cost by omega)
        have la := dec_len 4 xs[k].node.toNat (by omega)
        have lb := dec_len 4 xs[k].cost.toNat (by omega)
        generalize xs[k].node = p at *
        generalize xs[k].cost = q at *
        have hpc := pair_cat 61 p q
        have HIA := Go.Lib.hid (fun w h => itoa_any p w i1 h)
        have HIB := Go.Lib.hid (fun w h => itoa_any q w i2 h)
        rw [ea] at HIA
        rw [eb] at HIB
        have HPL := Go.Lib.hid hpl
        have za : (bOf (Lib.decDigits p.toNat)).size ≤ 5 := by rw [bOf_size]; exact la
        have zb : (bOf (Lib.decDigits q.toNat)).size ≤ 5 := by rw [bOf_size]; exact lb
        have r1 : ∀ w, (Op.stringOp .add (bOf (Lib.decDigits p.toNat)) ⟨#[61]⟩).run Tryz.prog w = .ok (.string (bOf (Lib.decDigits p.toNat) ++ ⟨#[61]⟩)) w := fun w => run_string_add_sum w _ _ (by show _ + 1 ≤ _; omega)
        have r2 : ∀ w, (Op.stringOp .add (bOf (Lib.decDigits p.toNat) ++ ⟨#[61]⟩) (bOf (Lib.decDigits q.toNat))).run Tryz.prog w = .ok (.string (bOf (pairT 61 p q))) w := fun w => by
          rw [run_string_add_sum w _ _ (by rw [ByteArray.size_append]; show _ + 1 + _ ≤ _; omega), hpc]
        have hz1 : w1.heap.size ≤ wr.heap.size := HB.out.size
        have hwf : (bOf (pairT 61 p q)).size ≤ maxLen := by rw [bOf_size]; unfold maxLen; omega
        have HWF := Go.Lib.hid hwf
        have HOWN := Go.Lib.hid (fun k (h : Value.ownBlock u5 = some k) => (HO.out.base_le k h).2)
        clear ea eb la lb hpc hpl hsuc hn1 a1 a2 a3 a4 i1 i2 hwf
        have hcl : ∀ w', Below (wr.heap.size + 1) (wr.alloc (.cells #[.int .i64 p, .int .i64 q] 57)) w' → w'.cell? ⟨wr.heap.size, 0, none⟩ = some (.int .i64 p) ∧ w'.cell? ⟨wr.heap.size, 1, none⟩ = some (.int .i64 q) ∧ EnvT w' ∧ Below w1.heap.size w1 w' ∧ OwR strR 9 w1.heap.size w' u5 (((xs.take k).map sideT).map bOf) ∧ wr.heap.size < w'.heap.size := by
          intro w' hb'
          have hq : Below wr.heap.size wr w' := ((Below.refl _ _).alloc (Nat.le_refl _) _).trans (hb'.mono (by omega))
          refine ⟨?_, ?_, (HE.out.below HB1.out).below (HB.out.trans (hq.mono hz1)), HB.out.trans (hq.mono hz1), HO.out.keep hq, by have := hb'.size; simp at this; omega⟩
          · rw [hb'.cell (p := ⟨wr.heap.size, 0, none⟩) (by simp), World.cell?_alloc_at _ _ _ _ rfl]; rfl
          · rw [hb'.cell (p := ⟨wr.heap.size, 1, none⟩) (by simp), World.cell?_alloc_at _ _ _ _ rfl]; rfl
        have HCL := Go.Lib.hid hcl
        have HB0 := Go.Lib.hid (Below.refl (wr.heap.size + 1) (wr.alloc (.cells #[.int .i64 p, .int .i64 q] 57))).drew
        clear hcl
        go_wp2_with fail
        go_region_held3 (fun w' => w'.cell? ⟨wr.heap.size, 0, none⟩ = some (.int .i64 p) ∧ w'.cell? ⟨wr.heap.size, 1, none⟩ = some (.int .i64 q)) (first | go_keep | exact ⟨k1, k2⟩)
          (first
            | (go_at_call 36; refine (HIA.out _ (HCL.out _ (by first | exact HBB.out | exact HB0.out)).2.2.1).mono ?_; rintro e w2 ⟨rfl, hb2⟩; have HBB := Go.Lib.hid (Below.trans (by first | exact HBB.out | exact HB0.out) (hb2.mono (HCL.out _ (by first | exact HBB.out | exact HB0.out)).2.2.2.2.2)); clear hb2; obtain ⟨k1, k2, _⟩ := HCL.out _ HBB.out)
            | (go_at_call 36; refine (HIB.out _ (HCL.out _ (by first | exact HBB.out | exact HB0.out)).2.2.1).mono ?_; rintro e w2 ⟨rfl, hb2⟩; have HBB := Go.Lib.hid (Below.trans (by first | exact HBB.out | exact HB0.out) (hb2.mono (HCL.out _ (by first | exact HBB.out | exact HB0.out)).2.2.2.2.2)); clear hb2; obtain ⟨k1, k2, _⟩ := HCL.out _ HBB.out)
            | (refine step_gen (base := w1.heap.size) elt_strA (by rfl) (.tmp 21) (.tmp 30) (by rfl) (ow_alloc (HCL.out _ HBB.out).2.2.2.2.1 _) (one_flat (r := strR) (cs := [.string (bOf (pairT 61 p q))]) (x := bOf (pairT 61 p q)) rfl ⟨rfl, HWF.out⟩) (fun _ _ h => h) (by rfl) (by rfl) HN1.out (by decide) ?_; intro v2 w4 ho2 hg2; have HG2 := Go.Lib.hid hg2; have k1 := (after_app2 (HCL.out _ HBB.out).2.2.2.2.2 hg2 HOWN.out 0).trans (HCL.out _ HBB.out).1; have k2 := (after_app2 (HCL.out _ HBB.out).2.2.2.2.2 hg2 HOWN.out 1).trans (HCL.out _ HBB.out).2.1; clear hg2))
        all_goals
          have hb4 := (ow_alloc (HCL.out _ HBB.out).2.2.2.2.1 (.cells #[.string (bOf (pairT 61 p q))] 9)).below_grown ((HCL.out _ HBB.out).2.2.2.1.alloc (HCL.out _ HBB.out).2.2.2.1.size (.cells #[.string (bOf (pairT 61 p q))] 9)) HG2.out.grown
          have HB4 := Go.Lib.hid hb4
          have HO2 := Go.Lib.hid ho2
          clear hb4 ho2 k1 k2
          go_wp2_with fail
          go_roundw
          case rel => exact ⟨k + 1, by omega, by go_num, by rw [HSUC.out]; exact HO2.out, HB4.out⟩
          case measure => simp [intOf]; omega
      · have hte : xs.take k = xs := List.take_of_length_le (by omega)
        rw [hte] at HO
        have hj := fun w h => join_any u5 (xs.map sideT) w h (by rw [List.length_map]; omega) HPL0.out
        have HJ := Go.Lib.hid hj
        have hjl := join_len 20 (xs.map sideT) HPL0.out
        rw [List.length_map] at hjl
        have hbx := (cell_keep (HB.out.mono (Nat.le_refl _)) N0.out)
        have RB := add_bang (Lib.join (xs.map sideT) [44]) (by omega)
        have hjs : (bOf (Lib.join (xs.map sideT) [44])).size ≤ 300 := by rw [bOf_size]; omega
        clear hj hte hjl
        cases d with
        | true =>
          go_wp2_with (go_at_call 47; refine (HJ.out _ (HO.out.sl (by decide))).mono ?_; rintro e w3 ⟨rfl, hb3⟩; have hby := cell_keep hb3 hbx)
          go_ret2
          exact ⟨ta_good HC.out rfl, HB1.out.trans ((HB.out.trans (hb3.mono HB.out.size)).mono HB1.out.size)⟩
        | false =>
          go_wp2_with (go_at_call 47; refine (HJ.out _ (HO.out.sl (by decide))).mono ?_; rintro e w3 ⟨rfl, hb3⟩; have hby := cell_keep hb3 hbx)
          go_ret2
          exact ⟨ta_good HC.out rfl, HB1.out.trans ((HB.out.trans (hb3.mono HB.out.size)).mono HB1.out.size)⟩
  · have hcb : (chkSides xs == 0) = false := by rw [beq_eq_false_iff_ne]; exact hc
    have HC := Go.Lib.hid hc
    clear hc
    go_enter Tryz.func18, Tryz.ntmps18
    go_wp2_with (go_at_call 46; refine HCK.out.mono ?_; rintro e w1 ⟨rfl, hb1⟩)
    go_ret2
    exact ⟨ta_bad HC.out, HBW.out.trans (hb1.mono HBW.out.size)⟩

end Go.Proofs.YtcbkimbeljhbhaaGreatDoor

namespace Go.Proofs.YtcbkimbeljhbhaaGreatDoor
open Go

/-- what a node tells is short -/
theorem dec_len4 {n : Int} (h0 : 0 ≤ n) (h1 : n ≤ 1000) : (Lib.decDigits n.toNat).length ≤ 4 := dec_len 3 n.toNat (by show _ < 10000; omega)
theorem dec_len2 {n : Int} (h0 : 0 ≤ n) (h1 : n ≤ 11) : (Lib.decDigits n.toNat).length ≤ 2 := dec_len 1 n.toNat (by show _ < 100; omega)
theorem dec_len3 {n : Int} (h0 : 0 ≤ n) (h1 : n ≤ 255) : (Lib.decDigits n.toNat).length ≤ 3 := dec_len 2 n.toNat (by show _ < 1000; omega)
theorem adjT_short (d : Bool) {l : List Side} (h : chkSides l = 0) : (adjT d l).length ≤ 97 := by
  have h1 := sides_len h
  have h2 := join_len 7 (l.map sideT) (fun x hx => by
    obtain ⟨p, hp, rfl⟩ := List.mem_map.1 hx
    obtain ⟨i, hi, rfl⟩ := List.getElem_of_mem hp
    obtain ⟨a1, a2, a3, a4⟩ := sides_all h i hi
    have b1 := dec_len2 a1 a2
    have b2 := dec_len4 (n := l[i].cost) (by omega) a4
    unfold sideT pairT
    rw [List.length_append, List.length_cons]; omega)
  rw [List.length_map] at h2
  unfold adjT
  split
  · rw [List.length_cons]; omega
  · omega
theorem prefsT_short {l : List Prefix} (h : chkPrefs l = 0) : (prefsT l).length ≤ 48 := by
  have h1 := prefs_len h
  have h2 := join_len 7 (l.map prefT) (fun x hx => by
    obtain ⟨p, hp, rfl⟩ := List.mem_map.1 hx
    obtain ⟨i, hi, rfl⟩ := List.getElem_of_mem hp
    obtain ⟨a1, a2, a3, a4⟩ := prefs_all h i hi
    have b1 := dec_len3 a3 a4
    have b2 := dec_len2 (n := l[i].bits) a1 (by omega)
    unfold prefT pairT
    rw [List.length_append, List.length_cons]; omega)
  rw [List.length_map] at h2
  unfold prefsT; omega
end Go.Proofs.YtcbkimbeljhbhaaGreatDoor

namespace Go.Proofs.YtcbkimbeljhbhaaGreatDoor
open Go Go.RowKit Go.Deep

/-- links, drained nodes, prefixes; of the nodes from k on no sides are told yet -/
structure MapAt (w : World) (B k : Nat) (C : Nat → Nat → Int) (D : Nat → Bool) (P : Nat → List Prefix) : Prop where
  cst : ∀ a b, a < 12 → b < 12 → w.cell? ⟨B, a * 12 + b, none⟩ = some (.int .i64 (C a b))
  bnd : ∀ a b, 0 ≤ C a b ∧ C a b ≤ 4
  adj : ∀ a, k ≤ a → a < 12 → w.cell? ⟨B + 1, a * 2, none⟩ = some (.bool (D a)) ∧ w.cell? ⟨B + 1, a * 2 + 1, none⟩ = some (.slice none 0 0)
  own : ∀ a, a < 12 → ∃ v, w.cell? ⟨B + 2, a, none⟩ = some v ∧ SlF prefR (B + 3) w v (P a)
  fz : ∀ i j, i < 3 → w.frozen? ⟨B + i, j, none⟩ = false
  lt : B + 2 < w.heap.size
theorem MapAt.keep {w w' : World} {B k : Nat} {C : Nat → Nat → Int} {D : Nat → Bool} {P : Nat → List Prefix} (h : MapAt w B k C D P) (hk : ∀ q, B ≤ q → q < w.heap.size → w'.heap[q]? = w.heap[q]?) (hs : w.heap.size ≤ w'.heap.size) : MapAt w' B k C D P := by
  have hl := h.lt
  have hc : ∀ i o, i < 3 → w'.cell? ⟨B + i, o, none⟩ = w.cell? ⟨B + i, o, none⟩ := fun i o hi => World.cell?_of_block (hk (B + i) (by omega) (by omega))
  refine ⟨fun a b ha hb => (hc 0 _ (by omega)).trans (h.cst a b ha hb), h.bnd, fun a ka ha => ⟨(hc 1 _ (by omega)).trans (h.adj a ka ha).1, (hc 1 _ (by omega)).trans (h.adj a ka ha).2⟩, fun a ha => ?_, fun i j hi => ?_, by omega⟩
  · obtain ⟨v, h1, h2⟩ := h.own a ha
    exact ⟨v, (hc 2 _ (by omega)).trans h1, SlR.keep h2 (fun q hq => hk q (by omega) hq.1) (fun q hq => ⟨Nat.lt_of_lt_of_le hq.1 hs, hq.2⟩)⟩
  · rw [← h.fz i j hi]
    exact World.frozen?_of_block (hk (B + i) (by omega) (by omega))
theorem MapAt.below {w w' : World} {B k : Nat} {C : Nat → Nat → Int} {D : Nat → Bool} {P : Nat → List Prefix} (h : MapAt w B k C D P) (hb : Below w.heap.size w w') : MapAt w' B k C D P := h.keep (fun q _ hq => hb.block q hq) hb.size
theorem MapAt.up {w : World} {B k : Nat} {C : Nat → Nat → Int} {D : Nat → Bool} {P : Nat → List Prefix} (h : MapAt w B k C D P) {m : Nat} (hm : k ≤ m) : MapAt w B m C D P := ⟨h.cst, h.bnd, fun a ka ha => h.adj a (by omega) ha, h.own, h.fz, h.lt⟩
theorem own_far {B o : Nat} {w : World} {v u : Value} {i : Nat} (hi : i < 3) {l : List Prefix} (h : SlF prefR (B + 3) w v l) : SlF prefR (B + 3) (w.setCell ⟨B + i, o, none⟩ u) v l :=
  SlR.keep h (fun q hq => Below.heap_setCell _ _ _ _ (fun e => by have h1 := hq.2; have h2 : q = B + i := e; omega)) (fun q hq => ⟨by simpa [World.setCell] using hq.1, hq.2⟩)
theorem MapAt.setC {w : World} {B k : Nat} {C : Nat → Nat → Int} {D : Nat → Bool} {P : Nat → List Prefix} (h : MapAt w B k C D P) {n m : Nat} (hn : n < 12) (hm : m < 12) {x : Int} (hx : 0 ≤ x ∧ x ≤ 4) : MapAt (w.setCell ⟨B, n * 12 + m, none⟩ (.int .i64 x)) B k (updC C n m x) D P := by
  refine ⟨fun a b ha hb => ?_, fun a b => ?_, fun a ka ha => ?_, fun a ha => ?_, fun i j hi => by rw [World.frozen?_setCell]; exact h.fz i j hi, by simp [World.setCell]; exact h.lt⟩
  · unfold updC
    by_cases e : a = n ∧ b = m
    · obtain ⟨rfl, rfl⟩ := e
      rw [if_pos ⟨rfl, rfl⟩]
      exact World.cell?_setCell_same' w _ _ (by rw [h.cst a b ha hb]; rfl)
    · rw [if_neg e, World.cell?_setCell_other w _ _ _ (by intro e2; injection e2 with _ e3 _; exact e (by omega))]
      exact h.cst a b ha hb
  · unfold updC
    split
    · exact hx
    · exact h.bnd a b
  · rw [World.cell?_setCell_other w _ _ _ (by intro e2; injection e2 with e3 _ _; omega), World.cell?_setCell_other w _ _ _ (by intro e2; injection e2 with e3 _ _; omega)]; exact h.adj a ka ha
  · obtain ⟨v, h1, h2⟩ := h.own a ha
    exact ⟨v, by rw [World.cell?_setCell_other w _ _ _ (by intro e2; injection e2 with e3 _ _; omega)]; exact h1, own_far (i := 0) (by omega) h2⟩
theorem MapAt.setD {w : World} {B k : Nat} {C : Nat → Nat → Int} {D : Nat → Bool} {P : Nat → List Prefix} (h : MapAt w B k C D P) {n : Nat} (hk : k ≤ n) (hn : n < 12) (x : Bool) : MapAt (w.setCell ⟨B + 1, n * 2, none⟩ (.bool x)) B k C (fun a => if a = n then x else D a) P := by
  refine ⟨fun a b ha hb => ?_, h.bnd, fun a ka ha => ⟨?_, ?_⟩, fun a ha => ?_, fun i j hi => by rw [World.frozen?_setCell]; exact h.fz i j hi, by simp [World.setCell]; exact h.lt⟩
  · rw [World.cell?_setCell_other w _ _ _ (by intro e2; injection e2 with e3 _ _; omega)]; exact h.cst a b ha hb
  · by_cases e : a = n
    · subst e
      rw [if_pos rfl]
      exact World.cell?_setCell_same' w _ _ (by rw [(h.adj a ka ha).1]; rfl)
    · rw [if_neg e, World.cell?_setCell_other w _ _ _ (by intro e2; injection e2 with _ e3 _; omega)]
      exact (h.adj a ka ha).1
  · rw [World.cell?_setCell_other w _ _ _ (by intro e2; injection e2 with _ e3 _; omega)]; exact (h.adj a ka ha).2
  · obtain ⟨v, h1, h2⟩ := h.own a ha
    exact ⟨v, by rw [World.cell?_setCell_other w _ _ _ (by intro e2; injection e2 with e3 _ _; omega)]; exact h1, own_far (i := 1) (by omega) h2⟩
/-- the sides of a node, behind those that are told -/
theorem MapAt.setS {w : World} {B k : Nat} {C : Nat → Nat → Int} {D : Nat → Bool} {P : Nat → List Prefix} (h : MapAt w B (k + 1) C D P) (v : Value) : MapAt (w.setCell ⟨B + 1, k * 2 + 1, none⟩ v) B (k + 1) C D P := by
  refine ⟨fun a b ha hb => ?_, h.bnd, fun a ka ha => ⟨?_, ?_⟩, fun a ha => ?_, fun i j hi => by rw [World.frozen?_setCell]; exact h.fz i j hi, by simp [World.setCell]; exact h.lt⟩
  · rw [World.cell?_setCell_other w _ _ _ (by intro e2; injection e2 with e3 _ _; omega)]; exact h.cst a b ha hb
  · rw [World.cell?_setCell_other w _ _ _ (by intro e2; injection e2 with _ e3 _; omega)]; exact (h.adj a ka ha).1
  · rw [World.cell?_setCell_other w _ _ _ (by intro e2; injection e2 with _ e3 _; omega)]; exact (h.adj a ka ha).2
  · obtain ⟨v, h1, h2⟩ := h.own a ha
    exact ⟨v, by rw [World.cell?_setCell_other w _ _ _ (by intro e2; injection e2 with e3 _ _; omega)]; exact h1, own_far (i := 1) (by omega) h2⟩
theorem MapAt.setP {w : World} {B k : Nat} {C : Nat → Nat → Int} {D : Nat → Bool} {P : Nat → List Prefix} (h : MapAt w B k C D P) {n : Nat} (hn : n < 12) {v : Value} {l : List Prefix} (hv : SlF prefR (B + 3) w v l) : MapAt (w.setCell ⟨B + 2, n, none⟩ v) B k C D (fun a => if a = n then l else P a) := by
  refine ⟨fun a b ha hb => ?_, h.bnd, fun a ka ha => ⟨?_, ?_⟩, fun a ha => ?_, fun i j hi => by rw [World.frozen?_setCell]; exact h.fz i j hi, by simp [World.setCell]; exact h.lt⟩
  · rw [World.cell?_setCell_other w _ _ _ (by intro e2; injection e2 with e3 _ _; omega)]; exact h.cst a b ha hb
  · rw [World.cell?_setCell_other w _ _ _ (by intro e2; injection e2 with e3 _ _; omega)]; exact (h.adj a ka ha).1
  · rw [World.cell?_setCell_other w _ _ _ (by intro e2; injection e2 with e3 _ _; omega)]; exact (h.adj a ka ha).2
  · by_cases e : a = n
    · subst e
      obtain ⟨u, h1, _⟩ := h.own a ha
      refine ⟨v, World.cell?_setCell_same' w _ _ (by rw [h1]; rfl), ?_⟩
      rw [if_pos rfl]
      exact own_far (i := 2) (by omega) hv
    · obtain ⟨u, h1, h2⟩ := h.own a ha
      refine ⟨u, by rw [World.cell?_setCell_other w _ _ _ (by intro e2; injection e2 with _ e3 _; omega)]; exact h1, ?_⟩
      rw [if_neg e]
      exact own_far (i := 2) (by omega) h2
/-- the links of a node, loaded as a row -/
theorem MapAt.row {w : World} {B k : Nat} {C : Nat → Nat → Int} {D : Nat → Bool} {P : Nat → List Prefix} (h : MapAt w B k C D P) {n : Nat} (hn : n < 12) : ∃ vs : List Value, (∀ k, k < 12 → vs.toArray[k]? = some (.int .i64 (C n k))) ∧
    w.rangeAt B (n * 12) vs ∧ (Tryz.prog.info? 38).map (·.size) = some vs.length := by
  refine ⟨((List.range 12).map fun k => Value.int .i64 (C n k)), fun k hk => ?_, ?_, by kernel_rfl⟩
  · rw [List.getElem?_toArray, List.getElem?_map, List.getElem?_range hk]; rfl
  · intro j v hv
    have hj : j < 12 := by
      have := (List.getElem?_eq_some_iff.1 hv).1
      simpa using this
    rw [List.getElem?_map, List.getElem?_range hj] at hv
    injection hv with hv
    subst hv
    exact h.cst n j hn hj

/-- while the sides of a node are told: only their place has changed -/
structure Lp (W w : World) (B n : Nat) (d : Bool) (D : Nat → Bool) (o : Value) (L : List Side) : Prop where
  gr : W.grownBy w (some (B + 1))
  adj : ∀ a, n + 1 ≤ a → a < 12 → w.cell? ⟨B + 1, a * 2, none⟩ = some (.bool (D a)) ∧ w.cell? ⟨B + 1, a * 2 + 1, none⟩ = some (.slice none 0 0)
  c0 : w.cell? ⟨B + 1, n * 2, none⟩ = some (.bool d)
  c1 : w.cell? ⟨B + 1, n * 2 + 1, none⟩ = some o
  fz : ∀ j, w.frozen? ⟨B + 1, j, none⟩ = false
  ow : OwR sideR 57 W.heap.size w o L
theorem Lp.start {W : World} {B n : Nat} {C : Nat → Nat → Int} {D : Nat → Bool} {P : Nat → List Prefix} (h : MapAt W B n C D P) (hn : n < 12) : Lp W W B n (D n) D (.slice none 0 0) [] :=
  ⟨World.grownBy.refl _ _, fun a ka ha => h.adj a (by omega) ha, (h.adj n (Nat.le_refl _) hn).1, (h.adj n (Nat.le_refl _) hn).2, fun j => h.fz 1 j (by omega), OwR.nil _ _ (Nat.le_refl _)⟩
theorem Lp.grow {W w w4 : World} {B n : Nat} {d : Bool} {D : Nat → Bool} {o v : Value} {L : List Side} {ob : Obj} (h : Lp W w B n d D o L) (hB : B + 1 < W.heap.size) (hg : GrowTo (w.alloc ob) o w4 v) :
    W.grownBy w4 (some (B + 1)) ∧ w4.heap[B + 1]? = w.heap[B + 1]? ∧ w4.cell? ⟨B + 1, n * 2 + 1, none⟩ = some o ∧ w4.frozen? ⟨B + 1, n * 2 + 1, none⟩ = false := by
  have hob := h.ow.base_le
  have hsz := h.gr.size
  have hbl : ∀ q, q < W.heap.size → w4.heap[q]? = w.heap[q]? := fun q hq => by
    rw [hg.grown.block q (by simp; omega) (fun e => by have := (hob q e.symm).1; omega)]
    exact Below.heap_alloc _ _ _ (by omega)
  have h4 := hg.grown.size
  simp at h4
  refine ⟨⟨hg.grown.os.trans h.gr.os, hg.grown.tape.trans h.gr.tape, hg.grown.output.trans h.gr.output, by omega, fun q hq hne => (hbl q hq).trans (h.gr.block q hq hne)⟩, hbl _ hB, ?_, ?_⟩
  · exact (World.cell?_of_block (w := w) (hbl (B + 1) hB)).trans h.c1
  · exact (World.frozen?_of_block (w := w) (hbl (B + 1) hB)).trans (h.fz _)
theorem Lp.next {W w w4 : World} {B n : Nat} {d : Bool} {D : Nat → Bool} {o v : Value} {L L' : List Side} {ob : Obj} (h : Lp W w B n d D o L) (hB : B + 1 < W.heap.size) (hg : GrowTo (w.alloc ob) o w4 v) (ho : OwR sideR 57 W.heap.size w4 v L') :
    Lp W (w4.setCell ⟨B + 1, n * 2 + 1, none⟩ v) B n d D v L' := by
  obtain ⟨g1, g2, g3, g4⟩ := h.grow hB hg
  have hc : ∀ o', w4.cell? ⟨B + 1, o', none⟩ = w.cell? ⟨B + 1, o', none⟩ := fun o' => World.cell?_of_block g2
  refine ⟨⟨g1.os, g1.tape, g1.output, by simp [World.setCell]; exact g1.size, fun q hq hne => ?_⟩, fun a ka ha => ⟨?_, ?_⟩, ?_, ?_, fun j => ?_, ?_⟩
  · rw [Below.heap_setCell _ _ _ _ (by show q ≠ B + 1; exact fun e => hne (by rw [e]))]; exact g1.block q hq hne
  · rw [World.cell?_setCell_other _ _ _ _ (by intro e2; injection e2 with _ e3 _; omega), hc]; exact (h.adj a ka ha).1
  · rw [World.cell?_setCell_other _ _ _ _ (by intro e2; injection e2 with _ e3 _; omega), hc]; exact (h.adj a ka ha).2
  · rw [World.cell?_setCell_other _ _ _ _ (by intro e2; injection e2 with _ e3 _; omega), hc]; exact h.c0
  · exact World.cell?_setCell_same' _ _ _ (by rw [g3]; rfl)
  · rw [World.frozen?_setCell]; exact (World.frozen?_of_block (w := w) g2).trans (h.fz j)
  · exact ow_set ho (p := ⟨B + 1, n * 2 + 1, none⟩) hB _ (fun _ _ h => h)
theorem Lp.done {W w : World} {B n : Nat} {C : Nat → Nat → Int} {D : Nat → Bool} {P : Nat → List Prefix} {d : Bool} {o : Value} {L : List Side} (h : Lp W w B n d D o L) (hm : MapAt W B n C D P) : MapAt w B (n + 1) C D P := by
  have hl := hm.lt
  have hs := h.gr.size
  have hc : ∀ i o, i < 3 → i ≠ 1 → w.cell? ⟨B + i, o, none⟩ = W.cell? ⟨B + i, o, none⟩ := fun i o hi h1 => World.cell?_of_block (h.gr.block (B + i) (by omega) (fun e => h1 (by injection e with e; omega)))
  refine ⟨fun a b ha hb => (hc 0 _ (by omega) (by omega)).trans (hm.cst a b ha hb), hm.bnd, h.adj, fun a ha => ?_, fun i j hi => ?_, by omega⟩
  · obtain ⟨v, h1, h2⟩ := hm.own a ha
    exact ⟨v, (hc 2 _ (by omega) (by omega)).trans h1, SlR.keep h2 (fun q hq => h.gr.block q hq.1 (fun e => by injection e with e; have := hq.2; omega)) (fun q hq => ⟨Nat.lt_of_lt_of_le hq.1 hs, hq.2⟩)⟩
  · by_cases h1 : i = 1
    · subst h1; exact h.fz j
    · rw [← hm.fz i j hi]
      exact World.frozen?_of_block (h.gr.block (B + i) (by omega) (fun e => h1 (by injection e with e; omega)))
end Go.Proofs.YtcbkimbeljhbhaaGreatDoor

namespace Go.Proofs.YtcbkimbeljhbhaaGreatDoor
open Go.RowKit

/-- stores in order are the same where the same is found in them -/
theorem store_ext : ∀ {a b : List Entry}, a.Pairwise ltE → b.Pairwise ltE → (∀ k, findE a k = findE b k) → a = b
  | [], [], _, _, _ => rfl
  | [], y :: b, _, _, h => by
    have := h y.key
    simp [findE] at this
  | x :: a, [], _, _, h => by
    have := h x.key
    simp [findE] at this
  | x :: a, y :: b, ha, hb, h => by
    have hx : ∀ e ∈ a, ltB x.key e.key = true := fun e he => List.rel_of_pairwise_cons ha he
    have hy : ∀ e ∈ b, ltB y.key e.key = true := fun e he => List.rel_of_pairwise_cons hb he
    have fx : findE (y :: b) x.key = some x := by rw [← h]; simp [findE]
    have fy : findE (x :: a) y.key = some y := by rw [h]; simp [findE]
    have hxy : x = y := by
      obtain ⟨m1, _⟩ := (find_iff hb _ _).1 fx
      obtain ⟨m2, _⟩ := (find_iff ha _ _).1 fy
      rcases List.mem_cons.1 m1 with e | m1
      · exact e
      · rcases List.mem_cons.1 m2 with e | m2
        · exact e.symm
        · have h1 := hy x m1
          have h2 := hx y m2
          rw [ltB_asymm h1] at h2; cases h2
    subst hxy
    have ht : a = b := store_ext (List.Pairwise.of_cons ha) (List.Pairwise.of_cons hb) (fun k => by
      have hk := h k
      by_cases e : x.key = k
      · subst e
        have n1 : findE a x.key = none := (find_none_iff _).2 (fun e he hk => by have := hx e he; rw [hk, ltB_irrefl] at this; cases this)
        have n2 : findE b x.key = none := (find_none_iff _).2 (fun e he hk => by have := hy e he; rw [hk, ltB_irrefl] at this; cases this)
        rw [n1, n2]
      · simpa [findE, e] using hk)
    rw [ht]

/-- the greater one of two -/
def mx (o p : Option Entry) : Option Entry :=
  match o, p with
  | none, p => p
  | o, none => o
  | some a, some b => if aboveE b a = true then some b else some a
theorem above_same {a b : Entry} (hk : a.key = b.key) (h1 : aboveE a b = false) (h2 : aboveE b a = false) : a = b := by
  unfold aboveE at h1 h2
  by_cases v : a.version = b.version
  · by_cases o : a.origin = b.origin
    · rw [if_neg (by simp [v]), if_neg (by simp [o])] at h1
      rw [if_neg (by simp [v]), if_neg (by simp [o])] at h2
      have hv := ltB_total h1 h2
      cases a; cases b
      simp_all
    · rw [if_neg (by simp [v]), if_pos o] at h1
      rw [if_neg (by simp [v]), if_pos (Ne.symm o)] at h2
      simp at h1 h2; omega
  · rw [if_pos v] at h1
    rw [if_pos (Ne.symm v)] at h2
    simp at h1 h2; omega
theorem above_asymm {a b : Entry} (h : aboveE a b = true) : aboveE b a = false := by
  have := above_lift (e := b) (g := b) (y := a) (above_irrefl b) h
  exact this
theorem above_trans {a b c : Entry} (h1 : aboveE a b = true) (h2 : aboveE b c = true) : aboveE a c = true := by
  rcases h : aboveE a c with _ | _
  · have := above_lift (e := a) (g := c) (y := b) h h2
    rw [h1] at this; cases this
  · rfl
def keyed (o : Option Entry) (k : ByteArray) : Prop := ∀ e, o = some e → e.key = k
theorem find_keyed (l : List Entry) (k : ByteArray) : keyed (findE l k) k := fun _ h => (findE_key h).1
theorem mx_comm {o p : Option Entry} {k : ByteArray} (ho : keyed o k) (hp : keyed p k) : mx o p = mx p o := by
  rcases o with _ | a <;> rcases p with _ | b <;> simp only [mx]
  rcases h1 : aboveE b a with _ | _ <;> rcases h2 : aboveE a b with _ | _ <;> simp
  · exact above_same ((ho a rfl).trans (hp b rfl).symm) h2 h1
  · rw [above_asymm h1] at h2; cases h2
theorem above_neg {a b c : Entry} (h1 : aboveE b a = false) (h2 : aboveE c b = false) : aboveE c a = false := by
  rcases h : aboveE c a with _ | _
  · rfl
  · have h3 := above_lift (e := b) (g := a) (y := c) h1 h
    unfold aboveE at h h1 h2 h3
    by_cases v : b.version = c.version
    · by_cases o : b.origin = c.origin
      · have hv : b.value = c.value := by
          rw [if_neg (by simp [v]), if_neg (by simp [o])] at h3
          rw [if_neg (by simp [v]), if_neg (by simp [o])] at h2
          exact ltB_total h2 h3
        rw [v, o, hv] at h1
        rw [h1] at h; cases h
      · rw [if_neg (by simp [v]), if_pos (Ne.symm o)] at h2
        rw [if_neg (by simp [v]), if_pos o] at h3
        simp at h2 h3; omega
    · rw [if_pos (Ne.symm v)] at h2
      rw [if_pos v] at h3
      simp at h2 h3; omega
theorem mx_assoc (o p q : Option Entry) : mx (mx o p) q = mx o (mx p q) := by
  rcases o with _ | a
  · rfl
  rcases p with _ | b
  · rfl
  rcases q with _ | c
  · rcases h : aboveE b a with _ | _ <;> simp [mx, h]
  rcases h1 : aboveE b a with _ | _ <;> rcases h2 : aboveE c b with _ | _ <;> simp [mx, h1, h2]
  · intro h3; rw [above_neg h1 h2] at h3; cases h3
  · intro h3; rw [above_trans h2 h1] at h3; cases h3
theorem mx_idem (o : Option Entry) : mx o o = o := by
  rcases o with _ | a <;> simp [mx, above_irrefl]

theorem find_take {b : List Entry} (hb : b.Pairwise ltE) {n : Nat} (hn : n < b.length) (k : ByteArray) : findE (b.take (n + 1)) k = if b[n].key = k then some b[n] else findE (b.take n) k := by
  rw [List.take_succ_eq_append_getElem hn]
  unfold findE
  rw [List.find?_append]
  by_cases e : b[n].key = k
  · have hnone : (b.take n).find? (fun e => decide (e.key = k)) = none := by
      rw [List.find?_eq_none]
      intro x hx hk
      obtain ⟨i, hi, rfl⟩ := List.getElem_of_mem hx
      rw [List.length_take] at hi
      rw [List.getElem_take] at hk
      have := Pairwise_lt hb (i := i) (j := n) (by omega) hn
      rw [of_decide_eq_true hk, e, ltB_irrefl] at this
      cases this
    rw [hnone, if_pos e]
    simp [e]
  · rw [if_neg e]
    simp [e]
theorem mTo_len_le {a b : List Entry} (ha : OkS a) (hb : ∀ e ∈ b, entryOk e = true) : ∀ n, n ≤ b.length → (mTo a b n).1.length ≤ a.length + n
  | 0, _ => Nat.le_refl _
  | n + 1, hn => by
    rw [mTo_succ a b n (by omega)]
    have h1 := mTo_len_le ha hb n (by omega)
    have hp := (mTo_ok ha hb n).ord
    unfold mergeStep
    split
    · split
      · simp only; rw [withE_len hp]; split <;> omega
      · omega
    · split
      · simp only; rw [withE_len hp]; split <;> omega
      · omega
/-- of each key the greater entry, where there is room -/
theorem mTo_find {a b : List Entry} (ha : OkS a) (hb : OkS b) (hr : a.length + b.length ≤ 60) : ∀ n, n ≤ b.length → ∀ k, findE (mTo a b n).1 k = mx (findE a k) (findE (b.take n) k)
  | 0, _, k => by
    have : findE (b.take 0) k = none := by simp [findE]
    rw [this]
    show findE a k = _
    rcases findE a k with _ | e <;> rfl
  | n + 1, hn, k => by
    have hn' : n < b.length := by omega
    have ih := mTo_find ha hb hr n (by omega)
    have hp := mTo_ok ha hb.ok n
    have hpl := mTo_len_le ha hb.ok n (by omega)
    rw [mTo_succ a b n hn', find_take hb.ord hn']
    obtain ⟨y, hy⟩ : ∃ y, b[n] = y := ⟨_, rfl⟩
    obtain ⟨p, hpe⟩ : ∃ p, mTo a b n = p := ⟨_, rfl⟩
    have hynone : findE (b.take n) y.key = none := by
      rw [find_none_iff]
      intro e he hk
      obtain ⟨i, hi, rfl⟩ := List.getElem_of_mem he
      rw [List.length_take] at hi
      rw [List.getElem_take] at hk
      have := Pairwise_lt hb.ord (i := i) (j := n) (by omega) hn'
      rw [hk, hy, ltB_irrefl] at this
      cases this
    rw [hy]
    rw [hpe] at ih hp hpl ⊢
    have hpy : findE p.1 y.key = findE a y.key := by
      rw [ih y.key, hynone]
      rcases findE a y.key with _ | e <;> rfl
    unfold mergeStep
    by_cases hk : y.key = k
    · subst hk
      rw [if_pos rfl, ← hpy]
      rcases hf : findE p.1 y.key with _ | o
      · simp only
        rw [if_pos (by omega)]
        simp only
        rw [find_with_same hp.ord]
        rfl
      · simp only [mx]
        split
        · simp only; exact find_with_same hp.ord y
        · exact hf
    · rw [if_neg hk, ← ih k]
      have hk' : k ≠ y.key := fun e => hk e.symm
      split
      · split
        · simp only; exact find_with_other hp.ord y hk'
        · rfl
      · split
        · simp only; exact find_with_other hp.ord y hk'
        · rfl
theorem merge_find {a b : List Entry} (ha : OkS a) (hb : OkS b) (hr : a.length + b.length ≤ 60) (k : ByteArray) : findE (mergeS aboveE a b).1 k = mx (findE a k) (findE b k) := by
  rw [merge_ok ha.check hb.check]
  have := mTo_find ha hb hr b.length (Nat.le_refl _) k
  rw [List.take_length] at this
  exact this
theorem merge_okS {a b : List Entry} (ha : OkS a) (hb : OkS b) : OkS (mergeS aboveE a b).1 := (merge_grow ha hb).1
theorem merge_len {a b : List Entry} (ha : OkS a) (hb : OkS b) : (mergeS aboveE a b).1.length ≤ a.length + b.length := by
  rw [merge_ok ha.check hb.check]; exact mTo_len_le ha hb.ok _ (Nat.le_refl _)
theorem merge_comm {a b : List Entry} (ha : OkS a) (hb : OkS b) (hr : a.length + b.length ≤ 60) : (mergeS aboveE a b).1 = (mergeS aboveE b a).1 :=
  store_ext (merge_okS ha hb).ord (merge_okS hb ha).ord fun k => by
    rw [merge_find ha hb hr, merge_find hb ha (by omega)]
    exact mx_comm (find_keyed a k) (find_keyed b k)
theorem merge_assoc {a b c : List Entry} (ha : OkS a) (hb : OkS b) (hc : OkS c) (hr : a.length + b.length + c.length ≤ 60) : (mergeS aboveE (mergeS aboveE a b).1 c).1 = (mergeS aboveE a (mergeS aboveE b c).1).1 := by
  have l1 := merge_len ha hb
  have l2 := merge_len hb hc
  exact store_ext (merge_okS (merge_okS ha hb) hc).ord (merge_okS ha (merge_okS hb hc)).ord fun k => by
    rw [merge_find (merge_okS ha hb) hc (by omega), merge_find ha hb (by omega), merge_find ha (merge_okS hb hc) (by omega), merge_find hb hc (by omega)]
    exact mx_assoc _ _ _
theorem merge_idem {a : List Entry} (ha : OkS a) (hr : a.length + a.length ≤ 60) : (mergeS aboveE a a).1 = a :=
  store_ext (merge_okS ha ha).ord ha.ord fun k => by rw [merge_find ha ha hr]; exact mx_idem _
/-- what has been merged changes nothing -/
theorem mTo_again {m b : List Entry} (hm : OkS m) (h : ∀ e ∈ b, ∃ g, findE m e.key = some g ∧ aboveE e g = false) : ∀ n, n ≤ b.length → mTo m b n = (m, [])
  | 0, _ => rfl
  | n + 1, hn => by
    rw [mTo_succ m b n (by omega), mTo_again hm h n (by omega)]
    obtain ⟨g, h1, h2⟩ := h b[n] (List.getElem_mem _)
    unfold mergeStep
    simp only [h1, h2]
    simp
theorem merge_again {a b : List Entry} (ha : OkS a) (hb : OkS b) (hr : a.length + b.length ≤ 60) : mergeS aboveE (mergeS aboveE a b).1 b = ((mergeS aboveE a b).1, [], 0) := by
  have hm := merge_okS ha hb
  rw [merge_ok hm.check hb.check, mTo_again hm (fun e he => ?_) _ (Nat.le_refl _)]
  have hf := merge_find ha hb hr e.key
  have he' := (find_iff hb.ord e.key e).2 ⟨he, rfl⟩
  rw [he'] at hf
  rcases hfa : findE a e.key with _ | o
  · rw [hfa] at hf; exact ⟨e, hf, above_irrefl e⟩
  · rw [hfa] at hf
    simp only [mx] at hf
    rcases hab : aboveE e o with _ | _
    · rw [hab] at hf; exact ⟨o, by simpa using hf, hab⟩
    · rw [hab] at hf; exact ⟨e, by simpa using hf, above_irrefl e⟩
/-- the keys that are told: there, and not as they were -/
theorem mTo_keys {a b : List Entry} (ha : OkS a) (hb : OkS b) : ∀ n, n ≤ b.length → ∀ k ∈ (mTo a b n).2, (∃ e ∈ b.take n, e.key = k) ∧ ∃ p, findE (mTo a b n).1 k = some p ∧ p ∉ a
  | 0, _, k, h => by simp [mTo] at h
  | n + 1, hn, k, h => by
    have hn' : n < b.length := by omega
    have ih := mTo_keys ha hb n (by omega)
    have hp := mTo_ok ha hb.ok n
    rw [mTo_succ a b n hn'] at h ⊢
    have hmem : ∀ e ∈ b.take n, e ∈ b.take (n + 1) := fun e he => by rw [List.take_succ_eq_append_getElem hn']; exact List.mem_append_left _ he
    have hself : b[n] ∈ b.take (n + 1) := by rw [List.take_succ_eq_append_getElem hn']; exact List.mem_append_right _ (List.mem_singleton.2 rfl)
    have hold : ∀ k ∈ (mTo a b n).2, k ≠ b[n].key := by
      intro k hk e
      obtain ⟨⟨x, hx, hxk⟩, _⟩ := ih k hk
      obtain ⟨i, hi, rfl⟩ := List.getElem_of_mem hx
      rw [List.length_take] at hi
      rw [List.getElem_take] at hxk
      have := Pairwise_lt hb.ord (i := i) (j := n) (by omega) hn'
      rw [hxk, e, ltB_irrefl] at this
      cases this
    obtain ⟨y, hy⟩ : ∃ y, b[n] = y := ⟨_, rfl⟩
    rw [hy] at h hself hold ⊢
    have hfa : ∀ o, findE (mTo a b n).1 y.key = some o → aboveE y o = true → y ∉ a := by
      intro o ho hab hya
      obtain ⟨g, hg1, hg2⟩ := mTo_grow ha hb.ok hya n (by omega)
      rw [ho] at hg1
      injection hg1 with hg1
      subst hg1
      rw [hab] at hg2; cases hg2
    have hfn : findE (mTo a b n).1 y.key = none → y ∉ a := by
      intro hno hya
      obtain ⟨g, hg1, _⟩ := mTo_grow ha hb.ok hya n (by omega)
      rw [hno] at hg1; cases hg1
    obtain ⟨p, hpe⟩ : ∃ p, mTo a b n = p := ⟨_, rfl⟩
    rw [hpe] at h ih hp hold hfa hfn ⊢
    have take : ∀ k ∈ p.2 ++ [y.key], y ∉ a → (∃ e ∈ b.take (n + 1), e.key = k) ∧ ∃ q, findE (withE p.1 y) k = some q ∧ q ∉ a := by
      intro k hk hya
      rcases List.mem_append.1 hk with hk | hk
      · obtain ⟨⟨x, hx, hxk⟩, q, hq, hqa⟩ := ih k hk
        exact ⟨⟨x, hmem x hx, hxk⟩, q, by rw [find_with_other hp.ord y (hold k hk)]; exact hq, hqa⟩
      · simp at hk
        subst hk
        exact ⟨⟨y, hself, rfl⟩, y, find_with_same hp.ord y, hya⟩
    have keep : ∀ k ∈ p.2, (∃ e ∈ b.take (n + 1), e.key = k) ∧ ∃ q, findE p.1 k = some q ∧ q ∉ a := by
      intro k hk
      obtain ⟨⟨x, hx, hxk⟩, hq⟩ := ih k hk
      exact ⟨⟨x, hmem x hx, hxk⟩, hq⟩
    unfold mergeStep at h ⊢
    rcases hf : findE p.1 y.key with _ | o
    · rw [hf] at h
      simp only at h ⊢
      split
      · rename_i hc
        rw [if_pos hc] at h
        exact take k h (hfn hf)
      · rename_i hc
        rw [if_neg hc] at h
        exact keep k h
    · rw [hf] at h
      simp only at h ⊢
      split
      · rename_i hc
        rw [if_pos hc] at h
        exact take k h (hfa o hf hc)
      · rename_i hc
        rw [if_neg hc] at h
        exact keep k h
theorem merge_keys {a b : List Entry} (ha : OkS a) (hb : OkS b) : ∀ k ∈ (mergeS aboveE a b).2.1, ∃ p, getS (mergeS aboveE a b).1 k = (p, 0) ∧ p ∉ a := by
  intro k hk
  have hm := merge_okS ha hb
  rw [merge_ok ha.check hb.check] at hk hm ⊢
  obtain ⟨_, p, h1, h2⟩ := mTo_keys ha hb b.length (Nat.le_refl _) k hk
  exact ⟨p, by unfold getS; rw [if_pos hm.check]; simp only at h1 ⊢; rw [h1], h2⟩
end Go.Proofs.YtcbkimbeljhbhaaGreatDoor

namespace Go.Proofs.YtcbkimbeljhbhaaGreatDoor
open Go Go.RowKit Go.Deep

theorem merge_any_ok {a b : List Entry} (ha : OkS a) : OkS (mergeS aboveE a b).1 := by
  by_cases hb : checkS b = 0
  · exact merge_okS ha (okS_of hb)
  · rw [merge_bad2 ha.check hb]; exact OkS.nil

theorem zero_144 : Tryz.zeroCells39.toList = List.replicate 144 (.int .i64 0) := by kernel_rfl
theorem twelve {a : Nat} (h : a < 12) : a = 0 ∨ a = 1 ∨ a = 2 ∨ a = 3 ∨ a = 4 ∨ a = 5 ∨ a = 6 ∨ a = 7 ∨ a = 8 ∨ a = 9 ∨ a = 10 ∨ a = 11 := by omega
theorem map_zero (w : World) (T1 T2 T3 : TypeId) : MapAt (((w.alloc (.cells Tryz.zeroCells39 T1)).alloc (.cells #[.bool false, .slice none 0 0, .bool false, .slice none 0 0, .bool false, .slice none 0 0, .bool false, .slice none 0 0, .bool false, .slice none 0 0, .bool false, .slice none 0 0, .bool false, .slice none 0 0, .bool false, .slice none 0 0, .bool false, .slice none 0 0, .bool false, .slice none 0 0, .bool false, .slice none 0 0, .bool false, .slice none 0 0] T2)).alloc (.cells #[.slice none 0 0, .slice none 0 0, .slice none 0 0, .slice none 0 0, .slice none 0 0, .slice none 0 0, .slice none 0 0, .slice none 0 0, .slice none 0 0, .slice none 0 0, .slice none 0 0, .slice none 0 0] T3)) w.heap.size 0 (fun _ _ => 0) (fun _ => false) (fun _ => []) := by
  obtain ⟨w1, h1⟩ : ∃ x, x = w.alloc (.cells Tryz.zeroCells39 T1) := ⟨_, rfl⟩
  rw [← h1]
  have z1 : w1.heap.size = w.heap.size + 1 := by rw [h1]; simp
  obtain ⟨w2, h2⟩ : ∃ x, x = w1.alloc (.cells #[.bool false, .slice none 0 0, .bool false, .slice none 0 0, .bool false, .slice none 0 0, .bool false, .slice none 0 0, .bool false, .slice none 0 0, .bool false, .slice none 0 0, .bool false, .slice none 0 0, .bool false, .slice none 0 0, .bool false, .slice none 0 0, .bool false, .slice none 0 0, .bool false, .slice none 0 0, .bool false, .slice none 0 0] T2) := ⟨_, rfl⟩
  rw [← h2]
  have z2 : w2.heap.size = w.heap.size + 2 := by rw [h2]; simp [z1]
  have b2 : Below w1.heap.size w1 w2 := by rw [h2]; exact (Below.refl _ _).alloc (Nat.le_refl _) _
  obtain ⟨w3, h3⟩ : ∃ x, x = w2.alloc (.cells #[.slice none 0 0, .slice none 0 0, .slice none 0 0, .slice none 0 0, .slice none 0 0, .slice none 0 0, .slice none 0 0, .slice none 0 0, .slice none 0 0, .slice none 0 0, .slice none 0 0, .slice none 0 0] T3) := ⟨_, rfl⟩
  rw [← h3]
  have b3 : Below w2.heap.size w2 w3 := by rw [h3]; exact (Below.refl _ _).alloc (Nat.le_refl _) _
  have c3 : ∀ i, w3.cell? ⟨w.heap.size + 2, i, none⟩ = (#[.slice none 0 0, .slice none 0 0, .slice none 0 0, .slice none 0 0, .slice none 0 0, .slice none 0 0, .slice none 0 0, .slice none 0 0, .slice none 0 0, .slice none 0 0, .slice none 0 0, .slice none 0 0] : Array Value)[i]? := fun i => by rw [h3]; exact World.cell?_alloc_at _ _ _ _ z2.symm
  have c2 : ∀ i, w3.cell? ⟨w.heap.size + 1, i, none⟩ = (#[.bool false, .slice none 0 0, .bool false, .slice none 0 0, .bool false, .slice none 0 0, .bool false, .slice none 0 0, .bool false, .slice none 0 0, .bool false, .slice none 0 0, .bool false, .slice none 0 0, .bool false, .slice none 0 0, .bool false, .slice none 0 0, .bool false, .slice none 0 0, .bool false, .slice none 0 0, .bool false, .slice none 0 0] : Array Value)[i]? := fun i => by
    rw [b3.cell (p := ⟨w.heap.size + 1, i, none⟩) (by show w.heap.size + 1 < _; omega), h2]; exact World.cell?_alloc_at _ _ _ _ z1.symm
  have c1 : ∀ i, w3.cell? ⟨w.heap.size, i, none⟩ = (List.replicate 144 (Value.int .i64 0))[i]? := fun i => by
    rw [b3.cell (p := ⟨w.heap.size, i, none⟩) (by show w.heap.size < _; omega), b2.cell (p := ⟨w.heap.size, i, none⟩) (by show w.heap.size < _; omega), h1, World.cell?_alloc_at _ _ _ _ rfl, ← Array.getElem?_toList, zero_144]
  refine ⟨fun a b ha hb => ?_, fun _ _ => ⟨Int.le_refl _, by omega⟩, fun a _ ha => ?_, fun a ha => ⟨.slice none 0 0, ?_, SlF.nil _ _ _⟩, fun i j hi => ?_, by rw [h3]; simp [z2]⟩
  · rw [c1, List.getElem?_replicate, if_pos (by omega)]
  · rw [c2, c2]
    rcases twelve ha with rfl | rfl | rfl | rfl | rfl | rfl | rfl | rfl | rfl | rfl | rfl | rfl <;> exact ⟨rfl, rfl⟩
  · rw [c3]
    rcases twelve ha with rfl | rfl | rfl | rfl | rfl | rfl | rfl | rfl | rfl | rfl | rfl | rfl <;> rfl
  · have : i = 0 ∨ i = 1 ∨ i = 2 := by omega
    rcases this with rfl | rfl | rfl
    · rw [b3.frozen (p := ⟨w.heap.size + 0, j, none⟩) (by show w.heap.size + 0 < _; omega), b2.frozen (p := ⟨w.heap.size + 0, j, none⟩) (by show w.heap.size + 0 < _; omega), h1]; exact World.frozen?_alloc_at _ _ _ _ rfl
    · rw [b3.frozen (p := ⟨w.heap.size + 1, j, none⟩) (by show w.heap.size + 1 < _; omega), h2]; exact World.frozen?_alloc_at _ _ _ _ z1.symm
    · rw [h3]; exact World.frozen?_alloc_at _ _ _ _ z2.symm


theorem tadj_some {d : Bool} {L : List Side} {e : Ending} (h : TAdj d L e) : ∃ (s : ByteArray) (c : Int), e = .returned (.tuple #[.string s, .int .i64 c]) ∧ s.size ≤ 200 := by
  unfold TAdj at h
  refine ⟨_, _, h, ?_⟩
  split
  · rename_i hc; rw [bOf_size]; have := adjT_short d hc; omega
  · decide
theorem tpref_some {L : List Prefix} {e : Ending} (h : TPref L e) : ∃ (s : ByteArray) (c : Int), e = .returned (.tuple #[.string s, .int .i64 c]) ∧ s.size ≤ 200 := by
  unfold TPref at h
  refine ⟨_, _, h, ?_⟩
  split
  · rename_i hc; rw [bOf_size]; have := prefsT_short hc; omega
  · decide
theorem dec_le20 {n : Nat} (h : n < 12) : (Lib.decDigits n).length ≤ 20 := Nat.le_trans (dec_len 1 n (by show _ < 100; omega)) (by omega)
theorem key_sizes {n : Nat} (h : n < 12) : (keyA n).size ≤ 100 ∧ (keyP n).size ≤ 100 := by
  have := dec_le20 h
  unfold keyA keyP
  rw [bOf_size, bOf_size, List.length_append, List.length_cons, List.length_cons]
  simp; omega
theorem two_ents {w : World} {T : TypeId} {x y : Entry} (hx : x.wf) (hy : y.wf) : Sl entR (w.alloc (.cells #[.string x.key, .int .i64 x.version, .int .i64 x.origin, .string x.value, .string y.key, .int .i64 y.version, .int .i64 y.origin, .string y.value] T)) (.slice (some ⟨w.heap.size, 0, none⟩) 2 2) [x, y] := by
  refine ⟨some ⟨w.heap.size, 0, none⟩, 2, rfl, by simp, by decide, fun i z hz => ?_⟩
  match i, hz with
  | 0, hz =>
    simp at hz; subst hz
    refine ⟨w.heap.size, 0, x.cells, rfl, by simp, by simp, ⟨rfl, hx⟩, fun j u hu => ?_⟩
    rw [World.cell?_alloc_at _ _ _ _ rfl]
    match j, hu with
    | 0, hu => simpa [Entry.cells, entR, flatR] using hu
    | 1, hu => simpa [Entry.cells, entR, flatR] using hu
    | 2, hu => simpa [Entry.cells, entR, flatR] using hu
    | 3, hu => simpa [Entry.cells, entR, flatR] using hu
    | j + 4, hu => simp [Entry.cells] at hu
  | 1, hz =>
    simp at hz; subst hz
    refine ⟨w.heap.size, 0, y.cells, rfl, by simp, by simp, ⟨rfl, hy⟩, fun j u hu => ?_⟩
    rw [World.cell?_alloc_at _ _ _ _ rfl]
    match j, hu with
    | 0, hu => simpa [Entry.cells, entR, flatR] using hu
    | 1, hu => simpa [Entry.cells, entR, flatR] using hu
    | 2, hu => simpa [Entry.cells, entR, flatR] using hu
    | 3, hu => simpa [Entry.cells, entR, flatR] using hu
    | j + 4, hu => simp [Entry.cells] at hu
  | i + 2, hz => simp at hz

set_option maxRecDepth 100000 in
set_option maxHeartbeats 8000000 in
theorem map_any (v : Value) (xs : List Raw) (nodes : Nat) (w : World) (h : Sl rawR w v xs) (hn : 1 ≤ nodes ∧ nodes ≤ 12) (hE : Env w) :
    Calls Tryz.prog 12 #[v, .int .i64 (nodes : Nat)] w fun e w' => ∃ v' ys, e = .returned v' ∧ OkS ys ∧ OwR entR 50 w.heap.size w' v' ys ∧ Below w.heap.size w w' := by
  have hlen := h.len_le
  obtain ⟨A, c, rfl⟩ := h.form
  have H := Go.Lib.hid h
  have HE := Go.Lib.hid hE
  obtain ⟨hn1, hn2⟩ := hn
  have hni : (nodes : Int) ≤ 12 := by omega
  have MZ := Go.Lib.hid (map_zero w 39 84 42)
  have BZ := Go.Lib.hid ((((Below.refl w.heap.size w).alloc (Nat.le_refl _) (.cells Tryz.zeroCells39 39)).alloc (by simp) (.cells #[.bool false, .slice none 0 0, .bool false, .slice none 0 0, .bool false, .slice none 0 0, .bool false, .slice none 0 0, .bool false, .slice none 0 0, .bool false, .slice none 0 0, .bool false, .slice none 0 0, .bool false, .slice none 0 0, .bool false, .slice none 0 0, .bool false, .slice none 0 0, .bool false, .slice none 0 0, .bool false, .slice none 0 0] 84)).alloc (by simp; omega) (.cells #[.slice none 0 0, .slice none 0 0, .slice none 0 0, .slice none 0 0, .slice none 0 0, .slice none 0 0, .slice none 0 0, .slice none 0 0, .slice none 0 0, .slice none 0 0, .slice none 0 0, .slice none 0 0] 42))
  clear h hE
  go_enter Tryz.func12, Tryz.ntmps12
  go_wp2_with fail
  obtain ⟨W0, hW0⟩ : ∃ x, x = ((w.alloc (.cells Tryz.zeroCells39 39)).alloc (.cells #[.bool false, .slice none 0 0, .bool false, .slice none 0 0, .bool false, .slice none 0 0, .bool false, .slice none 0 0, .bool false, .slice none 0 0, .bool false, .slice none 0 0, .bool false, .slice none 0 0, .bool false, .slice none 0 0, .bool false, .slice none 0 0, .bool false, .slice none 0 0, .bool false, .slice none 0 0, .bool false, .slice none 0 0] 84)).alloc (.cells #[.slice none 0 0, .slice none 0 0, .slice none 0 0, .slice none 0 0, .slice none 0 0, .slice none 0 0, .slice none 0 0, .slice none 0 0, .slice none 0 0, .slice none 0 0, .slice none 0 0, .slice none 0 0] 42) := ⟨_, rfl⟩
  obtain ⟨B, hB⟩ : ∃ x, x = w.heap.size := ⟨_, rfl⟩
  rw [← hW0, ← hB] at MZ
  rw [← hW0] at BZ
  rw [← hW0, ← hB]
  have HBW := Go.Lib.hid (show w.heap.size ≤ B by omega)
  clear hW0 hB
  go_loopw [8] (fun u wr => ∃ (k : Nat) (C : Nat → Nat → Int) (D : Nat → Bool) (P : Nat → List Prefix), k ≤ xs.length ∧ k ≤ 40 ∧ u = .int .i64 k ∧ MapAt wr B 0 C D P ∧ Below w.heap.size w wr) (fun u _ => 40 - (intOf u).toNat)
  case atStart => exact ⟨0, _, _, _, Nat.zero_le _, Nat.zero_le _, rfl, MZ.out, BZ.out⟩
  case round =>
    obtain ⟨k, C, D, P, hk, hk40, rfl, hm, hb⟩ := hrel
    have HM := Go.Lib.hid hm
    have HB := Go.Lib.hid hb
    clear hm hb MZ BZ
    by_cases hgo : k < xs.length ∧ k < 40
    · obtain ⟨hlt, hl40⟩ := hgo
      obtain ⟨b, off, rfl, hbl⟩ := H.out.at_ hlt
      obtain ⟨f1, f2, f3, f4, n1, n2, n3, n4⟩ := (H.out.below HB.out).raw hlt
      obtain ⟨y, hy⟩ : ∃ y, xs[k] = y := ⟨_, rfl⟩
      rw [hy] at f1 f2 f3 f4 n1 n2 n3 n4
      have PA := Go.Lib.hid (fun w => picked_any y.a nodes w n2 (by omega) (by omega))
      have PB := Go.Lib.hid (fun w => picked_any y.b nodes w n3 (by omega) (by omega))
      have PK := Go.Lib.hid (fun w => picked_any y.kind 10 w n1 (by omega) (by omega))
      have ha := pickN_lt y.a nodes (by omega)
      have hbb := pickN_lt y.b nodes (by omega)
      have hkk := pickN_lt y.kind 10 (by omega)
      have hki : (k : Int) < (xs.length : Int) := by omega
      have hk4 : (k : Int) < 40 := by omega
      have hk0 : (0 : Int) ≤ (k : Int) := Int.natCast_nonneg k
      have N4 := Go.Lib.hid n4
      have hal := (Below.refl wr.heap.size wr).alloc (Nat.le_refl _) (.cells #[.int .i64 y.kind, .int .i64 y.a, .int .i64 y.b, .int .i64 y.c] 86)
      have HM1 := Go.Lib.hid (HM.out.below hal)
      have HB1 := Go.Lib.hid (HB.out.trans (hal.mono HB.out.size))
      have HBR := Go.Lib.hid (show B + 2 < wr.heap.size from HM.out.lt)
      clear hy n1 n2 n3 n4 hal
      go_wp2_with fail
      obtain ⟨W1, hW1⟩ : ∃ x, x = wr.alloc (.cells #[.int .i64 y.kind, .int .i64 y.a, .int .i64 y.b, .int .i64 y.c] 86) := ⟨_, rfl⟩
      obtain ⟨R, hR⟩ : ∃ x, x = wr.heap.size := ⟨_, rfl⟩
      have q0 : W1.cell? ⟨R, 0, none⟩ = some (.int .i64 y.kind) := by rw [hW1, hR, World.cell?_alloc_at _ _ _ _ rfl]; rfl
      have q1 : W1.cell? ⟨R, 1, none⟩ = some (.int .i64 y.a) := by rw [hW1, hR, World.cell?_alloc_at _ _ _ _ rfl]; rfl
      have q2 : W1.cell? ⟨R, 2, none⟩ = some (.int .i64 y.b) := by rw [hW1, hR, World.cell?_alloc_at _ _ _ _ rfl]; rfl
      have q3 : W1.cell? ⟨R, 3, none⟩ = some (.int .i64 y.c) := by rw [hW1, hR, World.cell?_alloc_at _ _ _ _ rfl]; rfl
      rw [← hW1] at HM1 HB1
      rw [← hR] at HBR
      rw [← hW1, ← hR]
      clear hW1 hR f1 f2 f3 f4
      refine (PA.out _).mono ?_
      rintro e w' ⟨rfl, rfl⟩
      go_wp2_with fail
      refine (PB.out _).mono ?_
      rintro e w' ⟨rfl, rfl⟩
      go_wp2_with fail
      refine (PK.out _).mono ?_
      rintro e w' ⟨rfl, rfl⟩
      clear PA PB PK
      generalize pickN y.a nodes = a at *
      generalize pickN y.b nodes = bb at *
      generalize pickN y.kind 10 = K at *
      obtain ⟨z, hz⟩ : ∃ z, z = y.c := ⟨_, rfl⟩
      rw [← hz] at q3 N4
      clear hz q0 q1 q2
      have ha12 : a < 12 := by omega
      have hb12 : bb < 12 := by omega
      have hai : (a : Int) < 12 := by omega
      have hbi : (bb : Int) < 12 := by omega
      have ha0 : (0 : Int) ≤ (a : Int) := Int.natCast_nonneg a
      have hb0 : (0 : Int) ≤ (bb : Int) := Int.natCast_nonneg bb
      have hK0 : (0 : Int) ≤ (K : Int) := Int.natCast_nonneg K
      by_cases hK7 : K < 7
      · have e7 : (K : Int) < 7 := by omega
        have e77 : ((K : Int) == 7) = false := by rw [beq_eq_false_iff_ne]; omega
        have e8 : ((K : Int) == 8) = false := by rw [beq_eq_false_iff_ne]; omega
        have e9 : ((K : Int) == 9) = false := by rw [beq_eq_false_iff_ne]; omega
        by_cases hab : a = bb
        · have eab : ((a : Int) != (bb : Int)) = false := by rw [bne_eq_false_iff_eq]; omega
          clear hab
          go_wp2_with fail
          go_roundw
          case rel => exact ⟨k + 1, _, _, _, by omega, by omega, by go_num, HM1.out, HB1.out⟩
          case measure => simp [intOf]; omega
        · have eab : ((a : Int) != (bb : Int)) = true := by rw [bne_iff_ne]; omega
          clear hab
          have P1 := Go.Lib.hid (fun w => picked_any z 4 w N4.out (by omega) (by omega))
          have hz4 : inR (z.tdiv 4) := by
            obtain ⟨h1, h2⟩ := N4.out
            unfold inR
            have e1 : z.tdiv 4 = if 0 ≤ z then z / 4 else -((-z) / 4) := by
              split
              · exact Int.tdiv_eq_ediv_of_nonneg (by omega)
              · have : z = -(-z) := by omega
                rw [this, Int.neg_tdiv, Int.tdiv_eq_ediv_of_nonneg (by omega)]
                simp
            rw [e1]
            split <;> omega
          have HWD := Go.Lib.hid (show IntKind.i64.wrap (z.tdiv 4) = z.tdiv 4 by rw [IntKind.wrap_i64]; unfold inR at hz4; omega)
          have P2 := Go.Lib.hid (fun w => picked_any (z.tdiv 4) 4 w hz4 (by omega) (by omega))
          have p1 := pickN_lt z 4 (by omega)
          have p2 := pickN_lt (z.tdiv 4) 4 (by omega)
          clear hz4
          generalize pickN z 4 = s1 at *
          generalize pickN (z.tdiv 4) 4 = s2 at *
          have s10 : (s1 : Int) < 4 := by omega
          have s20 : (s2 : Int) < 4 := by omega
          have s11 : (0 : Int) ≤ (s1 : Int) := Int.natCast_nonneg s1
          have s21 : (0 : Int) ≤ (s2 : Int) := Int.natCast_nonneg s2
          have y1 := HM1.out.cst a bb ha12 hb12
          have y2 : W1.frozen? ⟨B, a * 12 + bb, none⟩ = false := HM1.out.fz 0 (a * 12 + bb) (by omega)
          have y3 := HM1.out.cst bb a hb12 ha12
          have y4 : W1.frozen? ⟨B, bb * 12 + a, none⟩ = false := HM1.out.fz 0 (bb * 12 + a) (by omega)
          have hab2 : ¬ a = bb := fun e => by rw [bne_iff_ne] at eab; omega
          have hw1 : IntKind.i64.wrap (1 + (s1 : Int)) = 1 + (s1 : Int) := by rw [IntKind.wrap_i64]; omega
          have hw2 : IntKind.i64.wrap (1 + (s2 : Int)) = 1 + (s2 : Int) := by rw [IntKind.wrap_i64]; omega
          have hRB : ¬ B = R := by have := HBR.out; omega
          go_wp2_with fail
          refine wp_region_held_drew (S := fun w' => w'.cell? ⟨R, 3, none⟩ = some (.int .i64 z)) (by kernel_rfl) ?_ (fun hHeld => ?_)
          · exact q3
          refine wpAnyH_take (i := 0) (v := ?_) rfl (by as_aux_lemma => kernel_rfl) (by as_aux_lemma => kernel_rfl) (by as_aux_lemma => kernel_rfl) (fun _ _ _ h => h) (Or.inl ⟨by rfl, ?_⟩) (by assumption) ?_
          rotate_left
          · (intro w hSw; (try dsimp only at hSw); go_simp) <;> with_reducible rfl
          try simp only [Act.put, List.setIfInBounds_toArray, List.set_cons_zero, List.set_cons_succ, List.getElem_toArray, List.getElem_cons_zero, List.getElem_cons_succ]
          refine wpAnyH_take (i := 1) (v := ?_) rfl (by as_aux_lemma => kernel_rfl) (by as_aux_lemma => kernel_rfl) (by as_aux_lemma => kernel_rfl) (fun _ _ _ h => h) (Or.inl ⟨by rfl, ?_⟩) (by assumption) ?_
          rotate_left
          · (intro w hSw; (try dsimp only at hSw); go_simp) <;> with_reducible rfl
          try simp only [Act.put, List.setIfInBounds_toArray, List.set_cons_zero, List.set_cons_succ, List.getElem_toArray, List.getElem_cons_zero, List.getElem_cons_succ]
          refine wpAnyH_take (i := 2) (v := ?_) rfl (by as_aux_lemma => kernel_rfl) (by as_aux_lemma => kernel_rfl) (by as_aux_lemma => kernel_rfl) (fun _ _ _ h => h) (Or.inl ⟨by rfl, ?_⟩) (by assumption) ?_
          rotate_left
          · (intro w hSw; (try dsimp only at hSw); go_simp) <;> with_reducible rfl
          try simp only [Act.put, List.setIfInBounds_toArray, List.set_cons_zero, List.set_cons_succ, List.getElem_toArray, List.getElem_cons_zero, List.getElem_cons_succ]
          refine wpAnyH_take (i := 3) (v := ?_) rfl (by as_aux_lemma => kernel_rfl) (by as_aux_lemma => kernel_rfl) (by as_aux_lemma => kernel_rfl) (fun _ _ _ h => h) (Or.inl ⟨by rfl, ?_⟩) (by assumption) ?_
          rotate_left
          · (intro w hSw; (try dsimp only at hSw); go_simp) <;> with_reducible rfl
          try simp only [Act.put, List.setIfInBounds_toArray, List.set_cons_zero, List.set_cons_succ, List.getElem_toArray, List.getElem_cons_zero, List.getElem_cons_succ]
          refine wpAnyH_take (i := 4) (v := ?_) rfl (by as_aux_lemma => kernel_rfl) (by as_aux_lemma => kernel_rfl) (by as_aux_lemma => kernel_rfl) (fun _ _ _ h => h) (Or.inl ⟨by rfl, ?_⟩) (by assumption) ?_
          rotate_left
          · (intro w hSw; (try dsimp only at hSw); go_simp) <;> with_reducible rfl
          try simp only [Act.put, List.setIfInBounds_toArray, List.set_cons_zero, List.set_cons_succ, List.getElem_toArray, List.getElem_cons_zero, List.getElem_cons_succ]
          refine wpAnyH_take (i := 5) (v := ?_) rfl (by as_aux_lemma => kernel_rfl) (by as_aux_lemma => kernel_rfl) (by as_aux_lemma => kernel_rfl) (fun _ _ _ h => h) (Or.inl ⟨by rfl, ?_⟩) (by assumption) ?_
          rotate_left
          · (intro w hSw; (try dsimp only at hSw); go_simp) <;> with_reducible rfl
          try simp only [Act.put, List.setIfInBounds_toArray, List.set_cons_zero, List.set_cons_succ, List.getElem_toArray, List.getElem_cons_zero, List.getElem_cons_succ]
          refine wpAnyH_take (i := 8) (v := ?_) rfl (by as_aux_lemma => kernel_rfl) (by as_aux_lemma => kernel_rfl) (by as_aux_lemma => kernel_rfl) (fun _ _ _ h => h) (Or.inl ⟨by rfl, ?_⟩) (by assumption) ?_
          rotate_left
          · (intro w hSw; (try dsimp only at hSw); go_simp) <;> with_reducible rfl
          try simp only [Act.put, List.setIfInBounds_toArray, List.set_cons_zero, List.set_cons_succ, List.getElem_toArray, List.getElem_cons_zero, List.getElem_cons_succ]
          refine wpAnyH_take (i := 9) (v := ?_) rfl (by as_aux_lemma => kernel_rfl) (by as_aux_lemma => kernel_rfl) (by as_aux_lemma => kernel_rfl) (fun _ _ _ h => h) (Or.inl ⟨by rfl, ?_⟩) (by assumption) ?_
          rotate_left
          · (intro w hSw; (try dsimp only at hSw); go_simp) <;> with_reducible rfl
          try simp only [Act.put, List.setIfInBounds_toArray, List.set_cons_zero, List.set_cons_succ, List.getElem_toArray, List.getElem_cons_zero, List.getElem_cons_succ]
          refine wpAnyH_take (i := 10) (v := ?_) rfl (by as_aux_lemma => kernel_rfl) (by as_aux_lemma => kernel_rfl) (by as_aux_lemma => kernel_rfl) (fun _ _ _ h => h) (Or.inl ⟨by rfl, ?_⟩) (by assumption) ?_
          rotate_left
          · (intro w hSw; (try dsimp only at hSw); go_simp) <;> with_reducible rfl
          try simp only [Act.put, List.setIfInBounds_toArray, List.set_cons_zero, List.set_cons_succ, List.getElem_toArray, List.getElem_cons_zero, List.getElem_cons_succ]
          refine wpAnyH_take (i := 13) (v := ?_) rfl (by as_aux_lemma => kernel_rfl) (by as_aux_lemma => kernel_rfl) (by as_aux_lemma => kernel_rfl) (fun _ _ _ h => h) (Or.inl ⟨by rfl, ?_⟩) (by assumption) ?_
          rotate_left
          · (intro w hSw; (try dsimp only at hSw); go_simp) <;> with_reducible rfl
          try simp only [Act.put, List.setIfInBounds_toArray, List.set_cons_zero, List.set_cons_succ, List.getElem_toArray, List.getElem_cons_zero, List.getElem_cons_succ]
          refine wpAnyH_take (i := 16) (v := ?_) rfl (by as_aux_lemma => kernel_rfl) (by as_aux_lemma => kernel_rfl) (by as_aux_lemma => kernel_rfl) (fun _ _ _ h => h) (Or.inl ⟨by rfl, ?_⟩) (by assumption) ?_
          rotate_left
          · (intro w hSw; (try dsimp only at hSw); go_simp) <;> with_reducible rfl
          try simp only [Act.put, List.setIfInBounds_toArray, List.set_cons_zero, List.set_cons_succ, List.getElem_toArray, List.getElem_cons_zero, List.getElem_cons_succ]
          refine wpAnyH_ready (rs := [6]) (by as_aux_lemma => kernel_rfl) (by simp) ?_
          refine AllReadyH.cons rfl (fun K hK => ?_) AllReadyH.nil
          go_simp
          go_wp2_with (go_at_call 11; refine (P1.out _).mono ?_; rintro e w' ⟨rfl, rfl⟩)
          refine hK.out _ _ (by assumption) (fun hS1 => ?_)
          clear hS1 hK K
          try simp only [Act.put, List.setIfInBounds_toArray, List.set_cons_zero, List.set_cons_succ, List.getElem_toArray, List.getElem_cons_zero, List.getElem_cons_succ]
          refine wpAnyH_take (i := 7) (v := ?_) rfl (by as_aux_lemma => kernel_rfl) (by as_aux_lemma => kernel_rfl) (by as_aux_lemma => kernel_rfl) (fun _ _ _ h => h) (Or.inl ⟨by rfl, ?_⟩) (by assumption) ?_
          rotate_left
          · (intro w hSw; (try dsimp only at hSw); go_simp) <;> with_reducible rfl
          try simp only [Act.put, List.setIfInBounds_toArray, List.set_cons_zero, List.set_cons_succ, List.getElem_toArray, List.getElem_cons_zero, List.getElem_cons_succ]
          refine wpAnyH_take (i := 14) (v := ?_) rfl (by as_aux_lemma => kernel_rfl) (by as_aux_lemma => kernel_rfl) (by as_aux_lemma => kernel_rfl) (fun _ _ _ h => h) (Or.inl ⟨by rfl, ?_⟩) (by assumption) ?_
          rotate_left
          · (intro w hSw; (try dsimp only at hSw); go_simp) <;> with_reducible rfl
          try simp only [Act.put, List.setIfInBounds_toArray, List.set_cons_zero, List.set_cons_succ, List.getElem_toArray, List.getElem_cons_zero, List.getElem_cons_succ]
          refine wpAnyH_ready (rs := [11]) (by as_aux_lemma => kernel_rfl) (by simp) ?_
          refine AllReadyH.cons rfl (fun K hK => ?_) AllReadyH.nil
          go_simp
          go_wp2_with (go_at_call 11; rw [HWD.out]; refine (P2.out _).mono ?_; rintro e w' ⟨rfl, rfl⟩)
          refine hK.out _ _ (by assumption) (fun hS1 => ?_)
          clear hS1 hK K
          try simp only [Act.put, List.setIfInBounds_toArray, List.set_cons_zero, List.set_cons_succ, List.getElem_toArray, List.getElem_cons_zero, List.getElem_cons_succ]
          refine wpAnyH_take (i := 12) (v := ?_) rfl (by as_aux_lemma => kernel_rfl) (by as_aux_lemma => kernel_rfl) (by as_aux_lemma => kernel_rfl) (fun _ _ _ h => h) (Or.inl ⟨by rfl, ?_⟩) (by assumption) ?_
          rotate_left
          · (intro w hSw; (try dsimp only at hSw); go_simp) <;> with_reducible rfl
          try simp only [Act.put, List.setIfInBounds_toArray, List.set_cons_zero, List.set_cons_succ, List.getElem_toArray, List.getElem_cons_zero, List.getElem_cons_succ]
          refine wpAnyH_ready (rs := [15]) (by as_aux_lemma => kernel_rfl) (by simp) ?_
          refine AllReadyH.cons rfl (fun K hK => ?_) AllReadyH.nil
          go_simp
          refine hK.out _ _ ?_ (fun hS1 => ?_)
          · show (W1.setCell ⟨B, a * 12 + bb, none⟩ _).cell? ⟨R, 3, none⟩ = _
            rw [World.cell?_setCell_other _ _ _ _ (by intro e2; injection e2 with e3 _ _; exact hRB e3)]; exact q3
          clear hHeld hK K
          have y3 : ((W1.setCell ⟨B, a * 12 + bb, none⟩ (.int .i64 (IntKind.i64.wrap (1 + (s1 : Int))))).drew).cell? ⟨B, bb * 12 + a, none⟩ = some (.int .i64 (C bb a)) := by
            show (W1.setCell ⟨B, a * 12 + bb, none⟩ _).cell? _ = _
            rw [World.cell?_setCell_other _ _ _ _ (by intro e2; injection e2 with _ e3 _; omega)]; exact y3
          try simp only [Act.put, List.setIfInBounds_toArray, List.set_cons_zero, List.set_cons_succ, List.getElem_toArray, List.getElem_cons_zero, List.getElem_cons_succ]
          refine wpAnyH_take (i := 17) (v := ?_) rfl (by as_aux_lemma => kernel_rfl) (by as_aux_lemma => kernel_rfl) (by as_aux_lemma => kernel_rfl) (fun _ _ _ h => h) (Or.inl ⟨by rfl, ?_⟩) (by assumption) ?_
          rotate_left
          · (intro w hSw; (try dsimp only at hSw); go_simp) <;> with_reducible rfl
          try simp only [Act.put, List.setIfInBounds_toArray, List.set_cons_zero, List.set_cons_succ, List.getElem_toArray, List.getElem_cons_zero, List.getElem_cons_succ]
          refine wpAnyH_ready (rs := [18]) (by as_aux_lemma => kernel_rfl) (by simp) ?_
          refine AllReadyH.cons rfl (fun K hK => ?_) AllReadyH.nil
          go_simp
          refine hK.out _ _ ?_ (fun hS2 => ?_)
          · show ((W1.setCell ⟨B, a * 12 + bb, none⟩ _).setCell ⟨B, bb * 12 + a, none⟩ _).cell? ⟨R, 3, none⟩ = _
            rw [World.cell?_setCell_other _ _ _ _ (by intro e2; injection e2 with e3 _ _; exact hRB e3), World.cell?_setCell_other _ _ _ _ (by intro e2; injection e2 with e3 _ _; exact hRB e3)]; exact q3
          clear hS1 hS2 hK K
          try simp only [Act.put, List.setIfInBounds_toArray, List.set_cons_zero, List.set_cons_succ, List.getElem_toArray, List.getElem_cons_zero, List.getElem_cons_succ]
          refine wpAnyH_done (by kernel_rfl) ?_ _
          go_wp2_with fail
          go_roundw
          case rel => exact ⟨k + 1, _, _, _, by omega, by omega, by go_num, ((HM1.out.setC ha12 hb12 (x := 1 + (s1 : Int)) (by omega)).setC hb12 ha12 (x := 1 + (s2 : Int)) (by omega)).below (Below.refl _ _).drew, ((HB1.out.setCell (p := ⟨B, a * 12 + bb, none⟩) (by show w.heap.size ≤ B; exact HBW.out) _).setCell (p := ⟨B, bb * 12 + a, none⟩) (by show w.heap.size ≤ B; exact HBW.out) _).drew⟩
          case measure => simp [intOf]; omega
      · have e7 : ¬ (K : Int) < 7 := by omega
        by_cases hK77 : K = 7
        · have e77 : ((K : Int) == 7) = true := by rw [beq_iff_eq]; omega
          clear hK77
          have P1 := Go.Lib.hid (fun w => picked_any z 2 w N4.out (by omega) (by omega))
          have y1 : W1.cell? ⟨B + 1, a * 2, none⟩ = some (.bool (D a)) := (HM1.out.adj a (Nat.zero_le _) ha12).1
          have y2 : W1.frozen? ⟨B + 1, a * 2, none⟩ = false := HM1.out.fz 1 (a * 2) (by omega)
          generalize pickN z 2 = s1 at *
          go_wp2_with fail
          refine (P1.out _).mono ?_
          rintro e w' ⟨rfl, rfl⟩
          go_wp2_with fail
          go_roundw
          case rel => exact ⟨k + 1, _, _, _, by omega, by omega, by go_num, HM1.out.setD (Nat.zero_le _) ha12 _, HB1.out.setCell (p := ⟨B + 1, a * 2, none⟩) (by show w.heap.size ≤ B + 1; have := HBW.out; omega) _⟩
          case measure => simp [intOf]; omega
        · have e77 : ((K : Int) == 7) = false := by rw [beq_eq_false_iff_ne]; omega
          obtain ⟨vo, o1', o2⟩ := HM1.out.own a ha12
          have o1 : W1.cell? ⟨B + 1 + 1, a, none⟩ = some vo := o1'
          clear o1'
          obtain ⟨Ao, co, hvo, _⟩ := o2
          subst hvo
          by_cases hK8 : K = 8
          · have e8 : ((K : Int) == 8) = true := by rw [beq_iff_eq]; omega
            have e9 : ((K : Int) == 9) = false := by rw [beq_eq_false_iff_ne]; omega
            by_cases hP : (P a).length = 0
            · have eP : (((P a).length : Int) == 0) = true := by rw [beq_iff_eq]; omega
              clear hK8 hK77 hP
              have y2 : W1.frozen? ⟨B + 1 + 1, a, none⟩ = false := HM1.out.fz 2 a (by omega)
              have PX := Go.Lib.hid (prefixK_any z W1 N4.out)
              have PI := Go.Lib.hid (rawP_in z)
              generalize rawP z = p at *
              go_wp2_with fail
              refine PX.out.mono ?_
              rintro e w5 ⟨rfl, hb5⟩
              have hal5 := (Below.refl w5.heap.size w5).alloc (Nat.le_refl _) (.cells #[.int .i64 p.addr, .int .i64 p.bits] 62)
              have hsz5 := hb5.size
              have hlt5 := HM1.out.lt
              have y3 : (w5.alloc (.cells #[.int .i64 p.addr, .int .i64 p.bits] 62)).cell? ⟨B + 1 + 1, a, none⟩ = some (.slice Ao (P a).length co) := cell_keep hal5 (cell_keep hb5 o1)
              have y4 : (w5.alloc (.cells #[.int .i64 p.addr, .int .i64 p.bits] 62)).frozen? ⟨B + 1 + 1, a, none⟩ = false := (bFz hal5 (by omega) a).trans ((bFz hb5 (by omega) a).trans y2)
              have HM5 := Go.Lib.hid ((HM1.out.below hb5).below hal5)
              have HB5 := Go.Lib.hid (HB1.out.trans ((hb5.trans (hal5.mono hsz5)).mono HB1.out.size))
              have HS5 := Go.Lib.hid (show SlF prefR (B + 3) (w5.alloc (.cells #[.int .i64 p.addr, .int .i64 p.bits] 62)) (.slice (some ⟨w5.heap.size, 0, none⟩) 1 1) [p] from by
                refine ⟨some ⟨w5.heap.size, 0, none⟩, 1, rfl, by simp, by decide, fun i x hx => ?_⟩
                match i, hx with
                | 0, hx =>
                  simp at hx; subst hx
                  refine ⟨w5.heap.size, 0, [.int .i64 p.addr, .int .i64 p.bits], rfl, ⟨by simp, by omega⟩, by simp, ⟨rfl, PI.out⟩, fun j u hu => ?_⟩
                  rw [World.cell?_alloc_at _ _ _ _ rfl]
                  simpa using hu
                | i + 1, hx => simp at hx)
              clear hb5 hal5 hsz5 hlt5 y2 o1
              go_wp2_with fail
              go_roundw
              case rel => exact ⟨k + 1, _, _, _, by omega, by omega, by go_num, HM5.out.setP ha12 HS5.out, HB5.out.setCell (p := ⟨B + 1 + 1, a, none⟩) (by show w.heap.size ≤ B + 1 + 1; have := HBW.out; omega) _⟩
              case measure => simp [intOf]; omega
            · have eP : (((P a).length : Int) == 0) = false := by rw [beq_eq_false_iff_ne]; omega
              clear hK8 hK77 hP
              go_wp2_with fail
              go_roundw
              case rel => exact ⟨k + 1, _, _, _, by omega, by omega, by go_num, HM1.out, HB1.out⟩
              case measure => simp [intOf]; omega
          · have e8 : ((K : Int) == 8) = false := by rw [beq_eq_false_iff_ne]; omega
            have e9 : ((K : Int) == 9) = true := by rw [beq_iff_eq]; omega
            clear hK8 hK77
            by_cases hab : a = bb
            · have eab : ((a : Int) != (bb : Int)) = false := by rw [bne_eq_false_iff_eq]; omega
              clear hab
              go_wp2_with fail
              go_roundw
              case rel => exact ⟨k + 1, _, _, _, by omega, by omega, by go_num, HM1.out, HB1.out⟩
              case measure => simp [intOf]; omega
            · have eab : ((a : Int) != (bb : Int)) = true := by rw [bne_iff_ne]; omega
              have y1 := HM1.out.cst a bb ha12 hb12
              have y2 : W1.frozen? ⟨B, a * 12 + bb, none⟩ = false := HM1.out.fz 0 (a * 12 + bb) (by omega)
              have HS := Go.Lib.hid (HM1.out.setC ha12 hb12 (x := 0) (by omega))
              have HBS := Go.Lib.hid (HB1.out.setCell (p := ⟨B, a * 12 + bb, none⟩) (by show w.heap.size ≤ B; exact HBW.out) (.int .i64 0))
              clear hab
              go_wp2_with fail
              go_roundw
              case rel => exact ⟨k + 1, _, _, _, by omega, by omega, by go_num, HS.out, HBS.out⟩
              case measure => simp [intOf]; omega
    · by_cases hlt : k < xs.length
      · have hki : (k : Int) < (xs.length : Int) := by omega
        have hk4 : ¬ (k : Int) < 40 := by omega
        clear hgo
        go_wp2_with fail
        obtain ⟨wl, rfl⟩ : ∃ m, m = wr := ⟨wr, rfl⟩
        go_loopw [13, 112] (fun o u wr => ∃ (n : Nat) (ys : List Entry), n ≤ nodes ∧ u = .int .i64 n ∧ OkS ys ∧ OwR entR 50 (B + 3) wr o ys ∧ MapAt wr B n C D P ∧ Below w.heap.size w wr) (fun _ u _ => nodes - (intOf u).toNat)
        case atStart => exact ⟨0, [], Nat.zero_le _, rfl, OkS.nil, OwR.nil _ _ HM.out.lt, HM.out, HB.out⟩
        case round =>
          obtain ⟨n, ys, hn, rfl, hok, ho, hm, hb⟩ := hrel
          have HM2 := Go.Lib.hid hm
          have HB2 := Go.Lib.hid hb
          have HO2 := Go.Lib.hid ho
          have HK2 := Go.Lib.hid hok
          clear hm hb ho hok
          by_cases hln : n < nodes
          · have hnn : (n : Int) < (nodes : Int) := by omega
            have hn12 : n < 12 := by omega
            have hn12i : (n : Int) < 12 := by omega
            have hn0 : (0 : Int) ≤ (n : Int) := Int.natCast_nonneg n
            obtain ⟨vs, hvs, hrow, hinf⟩ := HM2.out.row hn12
            have HLD := Go.Lib.hid hrow
            have HVS := Go.Lib.hid hvs
            have HIF := Go.Lib.hid hinf
            have HLT := Go.Lib.hid HM2.out.lt
            have HLP := Go.Lib.hid (Lp.start HM2.out hn12)
            have HCB := Go.Lib.hid (HM2.out.bnd n)
            clear hrow hvs hinf
            obtain ⟨W3, rfl⟩ : ∃ m, m = wr := ⟨wr, rfl⟩
            go_wp2_with (refine wpList_load_mid rfl 38 (.tmp 116) rfl B (n * 12) rfl vs _ HLD.out Tryz.underlying38 rfl HIF.out ?_)
            go_loopw [118] (fun u wr3 => ∃ (j : Nat) (o : Value) (L : List Side), j ≤ 12 ∧ u = .int .i64 j ∧ L.length ≤ j ∧ Lp W3 wr3 B n (D n) D o L) (fun u _ => 12 - (intOf u).toNat)
            case atStart => exact ⟨0, _, _, Nat.zero_le _, rfl, Nat.le_refl _, HLP.out⟩
            case round =>
              obtain ⟨j, o, L, hj, rfl, hL, hlp⟩ := hrel
              have HL3 := Go.Lib.hid hlp
              obtain ⟨Ao, no, co, rfl⟩ := ow_form hlp.ow (by decide)
              have y1 := hlp.c1
              have y0 := hlp.c0
              clear hlp HLP
              by_cases hlj : j < 12
              · have hji : (j : Int) < 12 := by omega
                have hj0 : (0 : Int) ≤ (j : Int) := Int.natCast_nonneg j
                have hix : ∀ w', (Instr.index 38 (.agg vs.toArray) (.int .i64 (j : Int))).run Tryz.prog w' = .ok (.int .i64 (C n j)) w' := fun w' => row_idx vs.toArray (C n) HVS.out hlj w'
                obtain ⟨cb1, cb2⟩ := HCB.out j
                generalize C n j = cj at *
                by_cases hcj : 0 < cj
                · have HOA := Go.Lib.hid (ow_alloc HL3.out.ow (.cells #[.int .i64 (j : Int), .int .i64 cj] 57))
                  have HONE := Go.Lib.hid (one_flat (r := sideR) (w := wr) (B := wr.heap.size) (cs := [.int .i64 (j : Int), .int .i64 cj]) (x := ⟨j, cj⟩) (E := 57) rfl ⟨rfl, (by show inR (j : Int); unfold inR; omega), (by show inR cj; unfold inR; omega)⟩)
                  have y4 : (wr.alloc (.cells #[.int .i64 (j : Int), .int .i64 cj] 57)).cell? ⟨B + 1, n * 2 + 1, none⟩ = some (.slice Ao no co) := cell_keep ((Below.refl _ _).alloc (Nat.le_refl _) _) y1
                  clear y0
                  go_wp2_with (at_builtin; refine wpList_gen (base := W3.heap.size) elt_sideA rfl (.tmp 128) (.tmp 132) rfl HOA.out HONE.out (fun _ _ h => h) rfl rfl (by simp; omega) (by decide) ?_; intro v2 w4 ho2 hg2; obtain ⟨A9, n9, c9, rfl⟩ := ow_form ho2 (by decide); obtain ⟨_, _, z1, z2⟩ := HL3.out.grow (by have := HLT.out; omega) hg2; have HN4 := Go.Lib.hid (HL3.out.next (by have := HLT.out; omega) hg2 ho2); clear y1 y4)
                  go_roundw
                  case rel => exact ⟨j + 1, _, _, by omega, by go_num, by simp; omega, HN4.out⟩
                  case measure => simp [intOf]; omega
                · clear y0 y1
                  go_wp2_with fail
                  go_roundw
                  case rel => exact ⟨j + 1, _, _, by omega, by go_num, by omega, HL3.out⟩
                  case measure => simp [intOf]; omega
              · have hji : ¬ (j : Int) < 12 := by omega
                have HM4 := Go.Lib.hid (HL3.out.done HM2.out)
                have HB4 := Go.Lib.hid (HB2.out.grown HL3.out.gr HB2.out.size (fun q e => by injection e with e; have := HBW.out; omega))
                have HO4 := Go.Lib.hid (HO2.out.kept HL3.out.gr (by
                  rcases e : u13.ownBlock with _ | q
                  · exact .inl rfl
                  · right; intro e2; injection e2 with e2; have := (HO2.out.base_le q e).1; omega) (fun _ _ h => h))
                have HSA := Go.Lib.hid (showAdj_any (D n) (.slice Ao no co) L wr (HL3.out.ow.sl (by decide)) (HE.out.below HB4.out).tab)
                have HLT4 := Go.Lib.hid HB4.out.size
                clear HLD HVS HIF HM2 HB2 HO2 HCB HL3
                go_wp2_with fail
                refine HSA.out.mono ?_
                rintro e w5 ⟨he, hb5⟩
                obtain ⟨s1, k1, rfl, hs1⟩ := tadj_some he
                have HB5 := Go.Lib.hid (HB4.out.trans (hb5.mono HB4.out.size))
                have HM5 := Go.Lib.hid (HM4.out.below hb5)
                have HO5 := Go.Lib.hid (HO4.out.keep hb5)
                have HS1 := Go.Lib.hid hs1
                obtain ⟨vp, o1', o2⟩ := HM5.out.own n hn12
                have o1 : w5.cell? ⟨B + 1 + 1, n, none⟩ = some vp := o1'
                have HSP := Go.Lib.hid (showPrefs_any vp (P n) w5 o2.sl (HE.out.below HB5.out).tab)
                obtain ⟨Ap, cp, hvp⟩ := o2.sl.form
                subst hvp
                clear he hb5 hs1 y0 y1 HSA HM4 HB4 HO4 o1' o2
                go_wp2_with fail
                refine HSP.out.mono ?_
                rintro e w6 ⟨he, hb6⟩
                obtain ⟨s2, k2, rfl, hs2⟩ := tpref_some he
                have HB6 := Go.Lib.hid (HB5.out.trans (hb6.mono HB5.out.size))
                have HM6 := Go.Lib.hid (HM5.out.below hb6)
                have HO6 := Go.Lib.hid (HO5.out.keep hb6)
                have HS2 := Go.Lib.hid hs2
                have HIT := Go.Lib.hid (fun w' (hb : Below w.heap.size w w') => ((itoa_any (n : Int) w' (by unfold inR; omega) (HE.out.below hb).tab).mono (fun e w'' ⟨he, hb'⟩ => ⟨(by rw [he, itoa_nat]), hb'⟩) : Calls Tryz.prog 36 #[.int .i64 (n : Int)] w' fun e w'' => e = .returned (.string (bOf (Lib.decDigits n))) ∧ Below w'.heap.size w' w''))
                have hr1 := fun w => key_run n (dec_le20 hn12) w
                have hr2 := fun w => key_runP n (dec_le20 hn12) w
                clear he hb6 hs2 HSP HM5 HB5 HO5 o1
                go_wp2_with fail
                refine (HIT.out _ HB6.out).mono ?_
                rintro e w7 ⟨rfl, hb7⟩
                have HB7 := Go.Lib.hid (HB6.out.trans (hb7.mono HB6.out.size))
                have HM7 := Go.Lib.hid (HM6.out.below hb7)
                have HO7 := Go.Lib.hid (HO6.out.keep hb7)
                clear hb7 HB6 HM6 HO6
                go_wp2_with fail
                refine (HIT.out _ HB7.out).mono ?_
                rintro e w8 ⟨rfl, hb8⟩
                have HB8 := Go.Lib.hid (HB7.out.trans (hb8.mono HB7.out.size))
                have HM8 := Go.Lib.hid (HM7.out.below hb8)
                have HO8 := Go.Lib.hid (HO7.out.keep hb8)
                clear hb8 HB7 HM7 HO7 HIT
                go_wp2_with fail
                clear hr1 hr2
                have hkA := (key_sizes hn12).1
                have hkP := (key_sizes hn12).2
                have HE1 := Go.Lib.hid (show Entry.wf ⟨keyA n, 1, n, s1⟩ from ⟨by unfold maxLen; show (keyA n).size ≤ _; omega, by show inR 1; unfold inR; omega, by show inR (n : Int); unfold inR; omega, by unfold maxLen; have := HS1.out; show s1.size ≤ _; omega⟩)
                have HE2 := Go.Lib.hid (show Entry.wf ⟨keyP n, 1, n, s2⟩ from ⟨by unfold maxLen; show (keyP n).size ≤ _; omega, by show inR 1; unfold inR; omega, by show inR (n : Int); unfold inR; omega, by unfold maxLen; have := HS2.out; show s2.size ≤ _; omega⟩)
                have HXS := Go.Lib.hid (two_ents (w := w8) (T := 50) HE1.out HE2.out)
                have hal8 := (Below.refl w8.heap.size w8).alloc (Nat.le_refl _) (.cells #[.string (keyA n), .int .i64 1, .int .i64 (n : Int), .string s1, .string (keyP n), .int .i64 1, .int .i64 (n : Int), .string s2] 50)
                have HM9 := Go.Lib.hid (HM8.out.below hal8)
                have HO9 := Go.Lib.hid (HO8.out.keep hal8)
                have HB9 := Go.Lib.hid (HB8.out.trans (hal8.mono HB8.out.size))
                have HL9 := Go.Lib.hid (show B + 3 ≤ (w8.alloc (.cells #[.string (keyA n), .int .i64 1, .int .i64 (n : Int), .string s1, .string (keyP n), .int .i64 1, .int .i64 (n : Int), .string s2] 50)).heap.size by have := HM9.out.lt; omega)
                clear hal8 hkA hkP
                obtain ⟨W8, hW8⟩ : ∃ x, x = w8.alloc (.cells #[.string (keyA n), .int .i64 1, .int .i64 (n : Int), .string s1, .string (keyP n), .int .i64 1, .int .i64 (n : Int), .string s2] 50) := ⟨_, rfl⟩
                obtain ⟨X, hX⟩ : ∃ x, x = w8.heap.size := ⟨_, rfl⟩
                rw [← hW8] at HXS HM9 HO9 HB9 HL9
                rw [← hX] at HXS
                rw [← hW8, ← hX]
                obtain ⟨es, hes⟩ : ∃ es : List Entry, es = [⟨keyA n, 1, n, s1⟩, ⟨keyP n, 1, n, s2⟩] := ⟨_, rfl⟩
                have HES := Go.Lib.hid (show es.length = 2 by rw [hes]; rfl)
                rw [← hes] at HXS
                clear hW8 hX hes HM8 HO8 HB8
                go_loopw [13, 165] (fun o u wr9 => ∃ (j : Nat) (zs : List Entry), j ≤ 2 ∧ u = .int .i64 j ∧ OkS zs ∧ OwR entR 50 (B + 3) wr9 o zs ∧ Below W8.heap.size W8 wr9) (fun _ u _ => 2 - (intOf u).toNat)
                case atStart => exact ⟨0, _, Nat.zero_le _, rfl, HK2.out, HO9.out, Below.refl _ _⟩
                case round =>
                  obtain ⟨j2, zs, hj2, rfl, hzs, hoz, hbz⟩ := hrel
                  have HOZ := Go.Lib.hid hoz
                  have HBZ := Go.Lib.hid hbz
                  have HKZ := Go.Lib.hid hzs
                  have hszz := hbz.size
                  by_cases hlj2 : j2 < 2
                  · have hj2i : (j2 : Int) < 2 := by omega
                    have hj20 : (0 : Int) ≤ (j2 : Int) := Int.natCast_nonneg j2
                    have hje : j2 < es.length := by have := HES.out; omega
                    obtain ⟨f1, f2, f3, f4, hxw⟩ := (HXS.out.below hbz).ent hje
                    simp only [Nat.zero_add] at f1 f2 f3 f4
                    obtain ⟨e, hee⟩ : ∃ e, e = es[j2] := ⟨_, rfl⟩
                    rw [← hee] at f1 f2 f3 f4 hxw
                    have HXW := Go.Lib.hid hxw
                    have hal1 := (Below.refl wr.heap.size wr).alloc (Nat.le_refl _) (.cells #[.string e.key, .int .i64 e.version, .int .i64 e.origin, .string e.value] 50)
                    obtain ⟨wa, hwa⟩ : ∃ x, x = wr.alloc (.cells #[.string e.key, .int .i64 e.version, .int .i64 e.origin, .string e.value] 50) := ⟨_, rfl⟩
                    rw [← hwa] at hal1
                    have hal2 := (Below.refl wa.heap.size wa).alloc (Nat.le_refl _) (.cells #[.string e.key, .int .i64 e.version, .int .i64 e.origin, .string e.value] 50)
                    have hza : wa.heap.size = wr.heap.size + 1 := by rw [hwa]; simp
                    have hal3 := hal1.trans (hal2.mono hal1.size)
                    have hoa := hoz.keep hal3
                    have HMG := Go.Lib.hid (merge_any _ _ zs [e] _ (hoa.sl (by decide)) (sl_ent (ins_val (w := wa) (x := e)) hxw) (by intro q hq; simp at hq; subst hq; exact hxw) (hoz.sl (by decide)).wfs)
                    have HAL := Go.Lib.hid hal3
                    have HMO := Go.Lib.hid (merge_any_ok (b := [e]) hzs)
                    rw [hwa] at HMG HAL
                    rw [World.size_alloc] at HMG
                    clear hal1 hal2 hal3 hoa hza hwa hzs hoz hbz hxw hee
                    go_wp2_with fail
                    refine HMG.out.mono ?_
                    rintro e9 w9 ⟨v9, u9', rfl, ht9, hb9⟩
                    have HB10 := Go.Lib.hid (HBZ.out.trans ((HAL.out.trans (hb9.mono HAL.out.size)).mono hszz))
                    have HO10 := Go.Lib.hid (ht9.out.lower (base' := B + 3) (by have := HL9.out; have := HAL.out.size; omega))
                    obtain ⟨A10, n10, c10, rfl⟩ := ow_form ht9.out (by decide)
                    obtain ⟨A11, n11, c11, rfl⟩ := ow_form ht9.keys (by decide)
                    clear ht9 hb9 f1 f2 f3 f4
                    go_wp2_with fail
                    go_roundw
                    case rel => exact ⟨j2 + 1, _, by omega, by go_num, HMO.out, HO10.out, HB10.out⟩
                    case measure => simp [intOf]; omega
                  · have hj2i : ¬ (j2 : Int) < 2 := by omega
                    clear hzs hoz hbz
                    go_wp2_with fail
                    go_roundw
                    case rel => exact ⟨n + 1, _, by omega, by go_num, HKZ.out, HOZ.out, HM9.out.below HBZ.out, HB9.out.trans (HBZ.out.mono HB9.out.size)⟩
                    case measure => simp [intOf]; omega
          · have hnn : ¬ (n : Int) < (nodes : Int) := by omega
            go_wp2_with fail
            go_ret
            exact ⟨_, rfl, ys, HK2.out, HO2.out.lower (by have := HBW.out; omega), HB2.out⟩
      · have hki : ¬ (k : Int) < (xs.length : Int) := by omega
        clear hgo
        go_wp2_with fail
        obtain ⟨wl, rfl⟩ : ∃ m, m = wr := ⟨wr, rfl⟩
        go_loopw [13, 112] (fun o u wr => ∃ (n : Nat) (ys : List Entry), n ≤ nodes ∧ u = .int .i64 n ∧ OkS ys ∧ OwR entR 50 (B + 3) wr o ys ∧ MapAt wr B n C D P ∧ Below w.heap.size w wr) (fun _ u _ => nodes - (intOf u).toNat)
        case atStart => exact ⟨0, [], Nat.zero_le _, rfl, OkS.nil, OwR.nil _ _ HM.out.lt, HM.out, HB.out⟩
        case round =>
          obtain ⟨n, ys, hn, rfl, hok, ho, hm, hb⟩ := hrel
          have HM2 := Go.Lib.hid hm
          have HB2 := Go.Lib.hid hb
          have HO2 := Go.Lib.hid ho
          have HK2 := Go.Lib.hid hok
          clear hm hb ho hok
          by_cases hln : n < nodes
          · have hnn : (n : Int) < (nodes : Int) := by omega
            have hn12 : n < 12 := by omega
            have hn12i : (n : Int) < 12 := by omega
            have hn0 : (0 : Int) ≤ (n : Int) := Int.natCast_nonneg n
            obtain ⟨vs, hvs, hrow, hinf⟩ := HM2.out.row hn12
            have HLD := Go.Lib.hid hrow
            have HVS := Go.Lib.hid hvs
            have HIF := Go.Lib.hid hinf
            have HLT := Go.Lib.hid HM2.out.lt
            have HLP := Go.Lib.hid (Lp.start HM2.out hn12)
            have HCB := Go.Lib.hid (HM2.out.bnd n)
            clear hrow hvs hinf
            obtain ⟨W3, rfl⟩ : ∃ m, m = wr := ⟨wr, rfl⟩
            go_wp2_with (refine wpList_load_mid rfl 38 (.tmp 116) rfl B (n * 12) rfl vs _ HLD.out Tryz.underlying38 rfl HIF.out ?_)
            go_loopw [118] (fun u wr3 => ∃ (j : Nat) (o : Value) (L : List Side), j ≤ 12 ∧ u = .int .i64 j ∧ L.length ≤ j ∧ Lp W3 wr3 B n (D n) D o L) (fun u _ => 12 - (intOf u).toNat)
            case atStart => exact ⟨0, _, _, Nat.zero_le _, rfl, Nat.le_refl _, HLP.out⟩
            case round =>
              obtain ⟨j, o, L, hj, rfl, hL, hlp⟩ := hrel
              have HL3 := Go.Lib.hid hlp
              obtain ⟨Ao, no, co, rfl⟩ := ow_form hlp.ow (by decide)
              have y1 := hlp.c1
              have y0 := hlp.c0
              clear hlp HLP
              by_cases hlj : j < 12
              · have hji : (j : Int) < 12 := by omega
                have hj0 : (0 : Int) ≤ (j : Int) := Int.natCast_nonneg j
                have hix : ∀ w', (Instr.index 38 (.agg vs.toArray) (.int .i64 (j : Int))).run Tryz.prog w' = .ok (.int .i64 (C n j)) w' := fun w' => row_idx vs.toArray (C n) HVS.out hlj w'
                obtain ⟨cb1, cb2⟩ := HCB.out j
                generalize C n j = cj at *
                by_cases hcj : 0 < cj
                · have HOA := Go.Lib.hid (ow_alloc HL3.out.ow (.cells #[.int .i64 (j : Int), .int .i64 cj] 57))
                  have HONE := Go.Lib.hid (one_flat (r := sideR) (w := wr) (B := wr.heap.size) (cs := [.int .i64 (j : Int), .int .i64 cj]) (x := ⟨j, cj⟩) (E := 57) rfl ⟨rfl, (by show inR (j : Int); unfold inR; omega), (by show inR cj; unfold inR; omega)⟩)
                  have y4 : (wr.alloc (.cells #[.int .i64 (j : Int), .int .i64 cj] 57)).cell? ⟨B + 1, n * 2 + 1, none⟩ = some (.slice Ao no co) := cell_keep ((Below.refl _ _).alloc (Nat.le_refl _) _) y1
                  clear y0
                  go_wp2_with (at_builtin; refine wpList_gen (base := W3.heap.size) elt_sideA rfl (.tmp 128) (.tmp 132) rfl HOA.out HONE.out (fun _ _ h => h) rfl rfl (by simp; omega) (by decide) ?_; intro v2 w4 ho2 hg2; obtain ⟨A9, n9, c9, rfl⟩ := ow_form ho2 (by decide); obtain ⟨_, _, z1, z2⟩ := HL3.out.grow (by have := HLT.out; omega) hg2; have HN4 := Go.Lib.hid (HL3.out.next (by have := HLT.out; omega) hg2 ho2); clear y1 y4)
                  go_roundw
                  case rel => exact ⟨j + 1, _, _, by omega, by go_num, by simp; omega, HN4.out⟩
                  case measure => simp [intOf]; omega
                · clear y0 y1
                  go_wp2_with fail
                  go_roundw
                  case rel => exact ⟨j + 1, _, _, by omega, by go_num, by omega, HL3.out⟩
                  case measure => simp [intOf]; omega
              · have hji : ¬ (j : Int) < 12 := by omega
                have HM4 := Go.Lib.hid (HL3.out.done HM2.out)
                have HB4 := Go.Lib.hid (HB2.out.grown HL3.out.gr HB2.out.size (fun q e => by injection e with e; have := HBW.out; omega))
                have HO4 := Go.Lib.hid (HO2.out.kept HL3.out.gr (by
                  rcases e : u13.ownBlock with _ | q
                  · exact .inl rfl
                  · right; intro e2; injection e2 with e2; have := (HO2.out.base_le q e).1; omega) (fun _ _ h => h))
                have HSA := Go.Lib.hid (showAdj_any (D n) (.slice Ao no co) L wr (HL3.out.ow.sl (by decide)) (HE.out.below HB4.out).tab)
                have HLT4 := Go.Lib.hid HB4.out.size
                clear HLD HVS HIF HM2 HB2 HO2 HCB HL3
                go_wp2_with fail
                refine HSA.out.mono ?_
                rintro e w5 ⟨he, hb5⟩
                obtain ⟨s1, k1, rfl, hs1⟩ := tadj_some he
                have HB5 := Go.Lib.hid (HB4.out.trans (hb5.mono HB4.out.size))
                have HM5 := Go.Lib.hid (HM4.out.below hb5)
                have HO5 := Go.Lib.hid (HO4.out.keep hb5)
                have HS1 := Go.Lib.hid hs1
                obtain ⟨vp, o1', o2⟩ := HM5.out.own n hn12
                have o1 : w5.cell? ⟨B + 1 + 1, n, none⟩ = some vp := o1'
                have HSP := Go.Lib.hid (showPrefs_any vp (P n) w5 o2.sl (HE.out.below HB5.out).tab)
                obtain ⟨Ap, cp, hvp⟩ := o2.sl.form
                subst hvp
                clear he hb5 hs1 y0 y1 HSA HM4 HB4 HO4 o1' o2
                go_wp2_with fail
                refine HSP.out.mono ?_
                rintro e w6 ⟨he, hb6⟩
                obtain ⟨s2, k2, rfl, hs2⟩ := tpref_some he
                have HB6 := Go.Lib.hid (HB5.out.trans (hb6.mono HB5.out.size))
                have HM6 := Go.Lib.hid (HM5.out.below hb6)
                have HO6 := Go.Lib.hid (HO5.out.keep hb6)
                have HS2 := Go.Lib.hid hs2
                have HIT := Go.Lib.hid (fun w' (hb : Below w.heap.size w w') => ((itoa_any (n : Int) w' (by unfold inR; omega) (HE.out.below hb).tab).mono (fun e w'' ⟨he, hb'⟩ => ⟨(by rw [he, itoa_nat]), hb'⟩) : Calls Tryz.prog 36 #[.int .i64 (n : Int)] w' fun e w'' => e = .returned (.string (bOf (Lib.decDigits n))) ∧ Below w'.heap.size w' w''))
                have hr1 := fun w => key_run n (dec_le20 hn12) w
                have hr2 := fun w => key_runP n (dec_le20 hn12) w
                clear he hb6 hs2 HSP HM5 HB5 HO5 o1
                go_wp2_with fail
                refine (HIT.out _ HB6.out).mono ?_
                rintro e w7 ⟨rfl, hb7⟩
                have HB7 := Go.Lib.hid (HB6.out.trans (hb7.mono HB6.out.size))
                have HM7 := Go.Lib.hid (HM6.out.below hb7)
                have HO7 := Go.Lib.hid (HO6.out.keep hb7)
                clear hb7 HB6 HM6 HO6
                go_wp2_with fail
                refine (HIT.out _ HB7.out).mono ?_
                rintro e w8 ⟨rfl, hb8⟩
                have HB8 := Go.Lib.hid (HB7.out.trans (hb8.mono HB7.out.size))
                have HM8 := Go.Lib.hid (HM7.out.below hb8)
                have HO8 := Go.Lib.hid (HO7.out.keep hb8)
                clear hb8 HB7 HM7 HO7 HIT
                go_wp2_with fail
                clear hr1 hr2
                have hkA := (key_sizes hn12).1
                have hkP := (key_sizes hn12).2
                have HE1 := Go.Lib.hid (show Entry.wf ⟨keyA n, 1, n, s1⟩ from ⟨by unfold maxLen; show (keyA n).size ≤ _; omega, by show inR 1; unfold inR; omega, by show inR (n : Int); unfold inR; omega, by unfold maxLen; have := HS1.out; show s1.size ≤ _; omega⟩)
                have HE2 := Go.Lib.hid (show Entry.wf ⟨keyP n, 1, n, s2⟩ from ⟨by unfold maxLen; show (keyP n).size ≤ _; omega, by show inR 1; unfold inR; omega, by show inR (n : Int); unfold inR; omega, by unfold maxLen; have := HS2.out; show s2.size ≤ _; omega⟩)
                have HXS := Go.Lib.hid (two_ents (w := w8) (T := 50) HE1.out HE2.out)
                have hal8 := (Below.refl w8.heap.size w8).alloc (Nat.le_refl _) (.cells #[.string (keyA n), .int .i64 1, .int .i64 (n : Int), .string s1, .string (keyP n), .int .i64 1, .int .i64 (n : Int), .string s2] 50)
                have HM9 := Go.Lib.hid (HM8.out.below hal8)
                have HO9 := Go.Lib.hid (HO8.out.keep hal8)
                have HB9 := Go.Lib.hid (HB8.out.trans (hal8.mono HB8.out.size))
                have HL9 := Go.Lib.hid (show B + 3 ≤ (w8.alloc (.cells #[.string (keyA n), .int .i64 1, .int .i64 (n : Int), .string s1, .string (keyP n), .int .i64 1, .int .i64 (n : Int), .string s2] 50)).heap.size by have := HM9.out.lt; omega)
                clear hal8 hkA hkP
                obtain ⟨W8, hW8⟩ : ∃ x, x = w8.alloc (.cells #[.string (keyA n), .int .i64 1, .int .i64 (n : Int), .string s1, .string (keyP n), .int .i64 1, .int .i64 (n : Int), .string s2] 50) := ⟨_, rfl⟩
                obtain ⟨X, hX⟩ : ∃ x, x = w8.heap.size := ⟨_, rfl⟩
                rw [← hW8] at HXS HM9 HO9 HB9 HL9
                rw [← hX] at HXS
                rw [← hW8, ← hX]
                obtain ⟨es, hes⟩ : ∃ es : List Entry, es = [⟨keyA n, 1, n, s1⟩, ⟨keyP n, 1, n, s2⟩] := ⟨_, rfl⟩
                have HES := Go.Lib.hid (show es.length = 2 by rw [hes]; rfl)
                rw [← hes] at HXS
                clear hW8 hX hes HM8 HO8 HB8
                go_loopw [13, 165] (fun o u wr9 => ∃ (j : Nat) (zs : List Entry), j ≤ 2 ∧ u = .int .i64 j ∧ OkS zs ∧ OwR entR 50 (B + 3) wr9 o zs ∧ Below W8.heap.size W8 wr9) (fun _ u _ => 2 - (intOf u).toNat)
                case atStart => exact ⟨0, _, Nat.zero_le _, rfl, HK2.out, HO9.out, Below.refl _ _⟩
                case round =>
                  obtain ⟨j2, zs, hj2, rfl, hzs, hoz, hbz⟩ := hrel
                  have HOZ := Go.Lib.hid hoz
                  have HBZ := Go.Lib.hid hbz
                  have HKZ := Go.Lib.hid hzs
                  have hszz := hbz.size
                  by_cases hlj2 : j2 < 2
                  · have hj2i : (j2 : Int) < 2 := by omega
                    have hj20 : (0 : Int) ≤ (j2 : Int) := Int.natCast_nonneg j2
                    have hje : j2 < es.length := by have := HES.out; omega
                    obtain ⟨f1, f2, f3, f4, hxw⟩ := (HXS.out.below hbz).ent hje
                    simp only [Nat.zero_add] at f1 f2 f3 f4
                    obtain ⟨e, hee⟩ : ∃ e, e = es[j2] := ⟨_, rfl⟩
                    rw [← hee] at f1 f2 f3 f4 hxw
                    have HXW := Go.Lib.hid hxw
                    have hal1 := (Below.refl wr.heap.size wr).alloc (Nat.le_refl _) (.cells #[.string e.key, .int .i64 e.version, .int .i64 e.origin, .string e.value] 50)
                    obtain ⟨wa, hwa⟩ : ∃ x, x = wr.alloc (.cells #[.string e.key, .int .i64 e.version, .int .i64 e.origin, .string e.value] 50) := ⟨_, rfl⟩
                    rw [← hwa] at hal1
                    have hal2 := (Below.refl wa.heap.size wa).alloc (Nat.le_refl _) (.cells #[.string e.key, .int .i64 e.version, .int .i64 e.origin, .string e.value] 50)
                    have hza : wa.heap.size = wr.heap.size + 1 := by rw [hwa]; simp
                    have hal3 := hal1.trans (hal2.mono hal1.size)
                    have hoa := hoz.keep hal3
                    have HMG := Go.Lib.hid (merge_any _ _ zs [e] _ (hoa.sl (by decide)) (sl_ent (ins_val (w := wa) (x := e)) hxw) (by intro q hq; simp at hq; subst hq; exact hxw) (hoz.sl (by decide)).wfs)
                    have HAL := Go.Lib.hid hal3
                    have HMO := Go.Lib.hid (merge_any_ok (b := [e]) hzs)
                    rw [hwa] at HMG HAL
                    rw [World.size_alloc] at HMG
                    clear hal1 hal2 hal3 hoa hza hwa hzs hoz hbz hxw hee
                    go_wp2_with fail
                    refine HMG.out.mono ?_
                    rintro e9 w9 ⟨v9, u9', rfl, ht9, hb9⟩
                    have HB10 := Go.Lib.hid (HBZ.out.trans ((HAL.out.trans (hb9.mono HAL.out.size)).mono hszz))
                    have HO10 := Go.Lib.hid (ht9.out.lower (base' := B + 3) (by have := HL9.out; have := HAL.out.size; omega))
                    obtain ⟨A10, n10, c10, rfl⟩ := ow_form ht9.out (by decide)
                    obtain ⟨A11, n11, c11, rfl⟩ := ow_form ht9.keys (by decide)
                    clear ht9 hb9 f1 f2 f3 f4
                    go_wp2_with fail
                    go_roundw
                    case rel => exact ⟨j2 + 1, _, by omega, by go_num, HMO.out, HO10.out, HB10.out⟩
                    case measure => simp [intOf]; omega
                  · have hj2i : ¬ (j2 : Int) < 2 := by omega
                    clear hzs hoz hbz
                    go_wp2_with fail
                    go_roundw
                    case rel => exact ⟨n + 1, _, by omega, by go_num, HKZ.out, HOZ.out, HM9.out.below HBZ.out, HB9.out.trans (HBZ.out.mono HB9.out.size)⟩
                    case measure => simp [intOf]; omega
          · have hnn : ¬ (n : Int) < (nodes : Int) := by omega
            go_wp2_with fail
            go_ret
            exact ⟨_, rfl, ys, HK2.out, HO2.out.lower (by have := HBW.out; omega), HB2.out⟩
end Go.Proofs.YtcbkimbeljhbhaaGreatDoor
