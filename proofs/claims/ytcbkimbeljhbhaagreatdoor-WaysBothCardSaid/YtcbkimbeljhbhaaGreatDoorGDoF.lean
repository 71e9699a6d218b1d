/-
  The document's cutting of texts: pairOf, cuts, walked.
  Reading the text of prefixes: ReadPrefixes and PrefixesOf, walked.
  samePrefixes, sameAdj at what is the same.
  Reading the text of links: ReadAdj and AdjOf, walked.
-/
import Derived.Test.YtcbkimbeljhbhaaGreatDoorGDoB
import Derived.Laws.StructEq
set_option linter.unusedVariables false
set_option linter.unusedSimpArgs false
namespace Go.Proofs.YtcbkimbeljhbhaaGreatDoor
open Go Go.RowKit

/-- two numbers of a text, or none -/
def Pair2 (b : UInt8) (s : List UInt8) (e : Ending) : Prop := ∃ x y ok, e = .returned (.tuple #[.int .i64 x, .int .i64 y, .bool ok]) ∧ (pairD b s = if ok = true then some (x, y) else none) ∧ inR x ∧ inR y
theorem num_inR (s : List UInt8) : inR (numD 100000 s) := by have := num_le 100000 (by omega) s; unfold inR; omega
theorem two_pair (s : ByteArray) (b : UInt8) (w : World) (hs : s.size < 4294967281) (hE : Env w) :
    Calls Tryz.prog 45 #[.string s, .string ⟨#[b]⟩, .int .i64 100000] w fun e w' => Pair2 b s.data.toList e ∧ Below w.heap.size w w' :=
  (two_any s b 100000 w hs (by unfold inR; omega) hE).mono fun e w' ⟨he, hb⟩ => ⟨⟨_, _, _, he, by
    unfold pairD
    simp only [Bool.and_eq_true, decide_eq_true_eq], num_inR _, num_inR _⟩, hb⟩

set_option maxRecDepth 50000 in
set_option maxHeartbeats 1000000 in
theorem pairOf_any (s : ByteArray) (b : UInt8) (w : World) (hl : s.size ≤ 4294967281) :
    Calls Tryz.prog 101 #[.string s, .int .u8 b.toNat] w fun e w' => Pair2 b s.data.toList e ∧ w = w' := by
  have hsz := size_toList s
  go_enter Tryz.func101, Tryz.ntmps101
  go_wp2_with fail
  have HSZ := Go.Lib.hid hsz
  clear hsz
  go_loop [7] (fun i => ∃ k : Nat, k ≤ s.size ∧ i = .int .i64 k ∧ b ∉ s.data.toList.take k) (fun i => s.size - (intOf i).toNat)
  case atStart => exact ⟨0, Nat.zero_le _, rfl, by simp⟩
  case round =>
    obtain ⟨k, hk, rfl, hno⟩ := hrel
    have HNO := Go.Lib.hid hno
    clear hno
    by_cases hlt : k < s.size
    · have hl' : k < s.data.toList.length := by rw [HSZ.out]; exact hlt
      have hx : ∀ h : k < s.data.toList.length, s.data.toList[k]'h = s[k] := fun _ => rfl
      have HX := Go.Lib.hid hx
      clear hx
      by_cases hb : s[k] = b
      · have hcut : cutB b s.data.toList = (s.data.toList.take k, s.data.toList.drop (k + 1), true) := by
          have h1 : s.data.toList = s.data.toList.take k ++ b :: s.data.toList.drop (k + 1) := by
            rw [← hb, ← HX.out hl', List.getElem_cons_drop, List.take_append_drop]
          conv => lhs; rw [h1]
          exact cutB_at _ HNO.out
        have n1 := fun w => numOf_any (s.extract 0 k) w (by rw [Lib.size_eq, Lib.extract_from_zero, List.length_take, HSZ.out]; omega)
        have n2 := fun w => numOf_any (s.extract (k + 1) s.size) w (by rw [Lib.size_eq, Lib.extract_to_end, List.length_drop, HSZ.out]; omega)
        rw [Lib.extract_from_zero, num_ref] at n1
        rw [Lib.extract_to_end, num_ref] at n2
        have N1 := Go.Lib.hid n1
        have N2 := Go.Lib.hid n2
        have HC := Go.Lib.hid hcut
        have hbe : ((s[k].toNat : Int) == (b.toNat : Int)) = true := by rw [hb]; simp
        clear n1 n2 hcut hb
        go_wp2_with (first
          | (go_at_call 126; have U' := U; refine (N2.out _).mono ?_; rintro e w' ⟨rfl, rfl⟩)
          | (go_at_call 126; refine (N1.out _).mono ?_; rintro e w' ⟨rfl, rfl⟩; have U := trivial))
        · have h1 := ‹0 ≤ numD 100000 (List.take k s.data.toList)›
          go_ret3
          refine ⟨⟨_, _, _, rfl, ?_, num_inR _, num_inR _⟩, rfl⟩
          unfold pairD
          rw [HC.out]
          simp [h1]
        · have h1 := ‹numD 100000 (List.take k s.data.toList) < 0›
          go_ret3
          refine ⟨⟨_, _, _, rfl, ?_, num_inR _, num_inR _⟩, rfl⟩
          unfold pairD
          rw [HC.out]
          simp; omega
      · have hbe : ((s[k].toNat : Int) == (b.toNat : Int)) = false := by
          rw [beq_eq_false_iff_ne]; intro e
          exact hb (UInt8.toNat_inj.1 (by omega))
        have HB := Go.Lib.hid hb
        have HL := Go.Lib.hid hl'
        clear hb
        go_wp2_with fail
        go_round
        case rel =>
          refine ⟨k + 1, by omega, by go_num, ?_⟩
          rw [List.take_succ_eq_append_getElem HL.out, HX.out HL.out]
          intro h
          rcases List.mem_append.1 h with h | h
          · exact HNO.out h
          · rw [List.mem_singleton] at h; exact HB.out h.symm
        case measure => simp [intOf]; omega
    · have hte : s.data.toList.take k = s.data.toList := List.take_of_length_le (by rw [HSZ.out]; omega)
      rw [hte] at HNO
      have hcut := cutB_no HNO.out
      have HC := Go.Lib.hid hcut
      clear hte hcut
      go_wp2_with fail
      go_ret3
      exact ⟨⟨0, 0, false, rfl, by unfold pairD; rw [HC.out]; simp, by unfold inR; omega, by unfold inR; omega⟩, rfl⟩

theorem ext_data (s : ByteArray) (a b : Nat) : bOf ((s.data.toList.drop a).take (b - a)) = s.extract a b := by
  rw [← Lib.extract_data, bOf_data]

set_option maxRecDepth 50000 in
set_option maxHeartbeats 1000000 in
theorem cuts_any (s : ByteArray) (w : World) (hl : s.size ≤ 4294967281) :
    Calls Tryz.prog 100 #[.string s] w fun e w' => (∃ v, e = .returned v ∧ Sl strR w' v ((partsC s.data.toList).map bOf)) ∧ Below w.heap.size w w' := by
  have hsz := size_toList s
  have HSZ := Go.Lib.hid hsz
  rcases Nat.eq_zero_or_pos s.size with h0 | h0
  · have HP := Go.Lib.hid (show partsC s.data.toList = [] by unfold partsC; rw [if_pos ((nil_iff s).1 h0)])
    clear hsz
    go_enter Tryz.func100, Tryz.ntmps100
    go_wp2_with fail
    go_loop [4, 3, 5] (fun f o i => f = .int .i64 0 ∧ o = .slice none 0 0 ∧ i = .int .i64 0) (fun _ _ i => (intOf i).toNat)
    case atStart => exact ⟨rfl, rfl, rfl⟩
    case round =>
      obtain ⟨rfl, rfl, rfl⟩ := hrel
      go_wp2_with fail
      go_ret
      exact ⟨⟨_, rfl, by rw [HP.out]; exact Sl.nil _ _⟩, Below.refl _ _⟩
  · have hne : s.data.toList ≠ [] := fun e => by have := (nil_iff s).2 e; omega
    have HP := Go.Lib.hid (show partsC s.data.toList = splitC 44 s.data.toList by unfold partsC; rw [if_neg hne])
    have hpl := partsC_len s.data.toList
    rw [HP.out, HSZ.out] at hpl
    have HPL := Go.Lib.hid hpl
    have h0i : (0 : Int) < (s.size : Int) := by omega
    have hli : (s.size : Int) ≤ 4294967281 := by omega
    clear hsz hne hpl
    go_enter Tryz.func100, Tryz.ntmps100
    go_wp2_with fail
    go_loopw [3, 4, 5] (fun o f i wr => ∃ (k a : Nat) (xs : List (List UInt8)), k ≤ s.size + 1 ∧ i = .int .i64 k ∧ f = .int .i64 a ∧ OwR strR 9 w.heap.size wr o (xs.map bOf) ∧ Below w.heap.size w wr ∧ xs.length ≤ k ∧
      ((k = s.size + 1 ∧ splitC 44 s.data.toList = xs) ∨ (k ≤ s.size ∧ a ≤ k ∧ splitC 44 s.data.toList = xs ++ splitC 44 (s.data.toList.drop a) ∧ (44 : UInt8) ∉ (s.data.toList.drop a).take (k - a)))) (fun _ _ i _ => s.size + 1 - (intOf i).toNat)
    case atStart => exact ⟨0, 0, [], Nat.zero_le _, rfl, rfl, OwR.nil _ _ (Nat.le_refl _), Below.refl _ _, Nat.le_refl _, .inr ⟨Nat.zero_le _, Nat.le_refl _, rfl, by simp⟩⟩
    case round =>
      obtain ⟨k, a, xs, hk, rfl, rfl, ho, hB, hxl, hcase⟩ := hrel
      have HO := Go.Lib.hid ho
      have HB := Go.Lib.hid hB
      clear ho hB
      rcases hcase with ⟨rfl, hs⟩ | ⟨hk', hak, hs, hno⟩
      · have HS := Go.Lib.hid hs
        clear hs
        go_wp2_with fail
        go_ret
        exact ⟨⟨_, rfl, by rw [HP.out, HS.out]; exact HO.out.sl (by decide)⟩, HB.out⟩
      · have HS := Go.Lib.hid hs
        have HNO := Go.Lib.hid hno
        clear hs hno hk
        have hki : (k : Int) ≤ (s.size : Int) := by omega
        have haki : (a : Int) ≤ (k : Int) := by omega
        by_cases hlt : k < s.size
        · have hl' : k < s.data.toList.length := by rw [HSZ.out]; exact hlt
          have hx : ∀ h : k < s.data.toList.length, s.data.toList[k]'h = s[k] := fun _ => rfl
          have HX := Go.Lib.hid hx
          have hki' : ((k : Int) == (s.size : Int)) = false := by rw [beq_eq_false_iff_ne]; omega
          have hdk : (s.data.toList.drop a)[k - a]? = some s[k] := by
            rw [List.getElem?_drop, show a + (k - a) = k by omega, List.getElem?_eq_getElem hl', hx]
          have HDK := Go.Lib.hid hdk
          clear hx hdk
          by_cases hb : s[k] = 44
          · have hbe : ((s[k].toNat : Int) == 44) = true := by rw [hb]; rfl
            have hda : s.data.toList.drop a = (s.data.toList.drop a).take (k - a) ++ 44 :: s.data.toList.drop (k + 1) := by
              conv => lhs; rw [← List.take_append_drop (k - a) (s.data.toList.drop a)]
              rw [List.drop_drop, show a + (k - a) = k by omega, ← List.getElem_cons_drop hl', HX.out, hb]
            have hsp : splitC 44 (s.data.toList.drop a) = (s.data.toList.drop a).take (k - a) :: splitC 44 (s.data.toList.drop (k + 1)) := by
              conv => lhs; rw [hda]
              exact splitC_at _ HNO.out
            have HSP := Go.Lib.hid hsp
            clear hb hda hsp
            have hxl2 : (xs.map bOf).length + 1 ≤ 1000000000000 := by rw [List.length_map]; omega
            have hwf : (s.extract a k).size ≤ maxLen := by
              rw [Lib.size_eq, Lib.extract_data, List.length_take, List.length_drop, HSZ.out]; unfold maxLen; omega
            have hone := one_flat (r := strR) (w := wr) (B := wr.heap.size) (cs := [.string (s.extract a k)]) (x := s.extract a k) (E := 9) rfl ⟨rfl, hwf⟩
            have HONE := Go.Lib.hid hone
            have HOA := Go.Lib.hid (ow_alloc HO.out (.cells #[.string (s.extract a k)] 9))
            have HBA := Go.Lib.hid (HB.out.alloc HB.out.size (.cells #[.string (s.extract a k)] 9))
            have HN1 := Go.Lib.hid hxl2
            clear hone hwf hxl2
            go_wp2_with (at_builtin; refine wpList_gen (base := w.heap.size) elt_strA rfl (.tmp 27) (.tmp 32) rfl HOA.out HONE.out (fun _ _ h => h) rfl rfl HN1.out (by decide) ?_; intro v2 w2 ho2 hg2; have B2 := Go.Lib.hid (HOA.out.below_grown HBA.out hg2.grown))
            go_roundw
            case rel =>
              refine ⟨k + 1, k + 1, xs ++ [(s.data.toList.drop a).take (k - a)], by omega, by go_num, by go_num, by rw [List.map_append, List.map_singleton, ext_data]; exact ho2, B2.out, by simp; omega, .inr ⟨by omega, Nat.le_refl _, ?_, by simp⟩⟩
              rw [HS.out, HSP.out]; simp
            case measure => simp [intOf]; omega
          · have hbe : ((s[k].toNat : Int) == 44) = false := by
              rw [beq_eq_false_iff_ne]; intro e
              exact hb (UInt8.toNat_inj.1 (by have : (44 : UInt8).toNat = 44 := rfl; omega))
            have HBN := Go.Lib.hid hb
            clear hb
            go_wp2_with fail
            go_roundw
            case rel =>
              refine ⟨k + 1, a, xs, by omega, by go_num, rfl, HO.out, HB.out, by omega, .inr ⟨by omega, by omega, HS.out, ?_⟩⟩
              rw [show k + 1 - a = (k - a) + 1 by omega, List.take_add_one, HDK.out]
              intro h
              rcases List.mem_append.1 h with h | h
              · exact HNO.out h
              · simp at h; exact HBN.out h.symm
            case measure => simp [intOf]; omega
        · have hke : k = s.size := by omega
          have hbe : ((k : Int) == (s.size : Int)) = true := by rw [hke]; simp
          have htk : (s.data.toList.drop a).take (k - a) = s.data.toList.drop a := List.take_of_length_le (by rw [List.length_drop, HSZ.out]; omega)
          have hsp : splitC 44 (s.data.toList.drop a) = [(s.data.toList.drop a).take (k - a)] := by
            rw [htk] at HNO
            rw [htk]; exact splitC_no HNO.out
          have HSP := Go.Lib.hid hsp
          have HKE := Go.Lib.hid hke
          clear hke htk hsp
          have hxl2 : (xs.map bOf).length + 1 ≤ 1000000000000 := by rw [List.length_map]; omega
          have hwf : (s.extract a k).size ≤ maxLen := by
            rw [Lib.size_eq, Lib.extract_data, List.length_take, List.length_drop, HSZ.out]; unfold maxLen; omega
          have hone := one_flat (r := strR) (w := wr) (B := wr.heap.size) (cs := [.string (s.extract a k)]) (x := s.extract a k) (E := 9) rfl ⟨rfl, hwf⟩
          have HONE := Go.Lib.hid hone
          have HOA := Go.Lib.hid (ow_alloc HO.out (.cells #[.string (s.extract a k)] 9))
          have HBA := Go.Lib.hid (HB.out.alloc HB.out.size (.cells #[.string (s.extract a k)] 9))
          have HN1 := Go.Lib.hid hxl2
          clear hone hwf hxl2
          go_wp2_with (at_builtin; refine wpList_gen (base := w.heap.size) elt_strA rfl (.tmp 27) (.tmp 32) rfl HOA.out HONE.out (fun _ _ h => h) rfl rfl HN1.out (by decide) ?_; intro v2 w2 ho2 hg2; have B2 := Go.Lib.hid (HOA.out.below_grown HBA.out hg2.grown))
          go_roundw
          case rel =>
            refine ⟨k + 1, k + 1, xs ++ [(s.data.toList.drop a).take (k - a)], by omega, by go_num, by go_num, by rw [List.map_append, List.map_singleton, ext_data]; exact ho2, B2.out, by simp; omega, .inl ⟨by rw [HKE.out], ?_⟩⟩
            rw [HS.out, HSP.out]
          case measure => simp [intOf]; omega
end Go.Proofs.YtcbkimbeljhbhaaGreatDoor

namespace Go.Proofs.YtcbkimbeljhbhaaGreatDoor
open Go Go.RowKit

def prefOf (x : Int × Int) : Prefix := ⟨x.1, x.2⟩
def sideOf2 (x : Int × Int) : Side := ⟨x.1, x.2⟩
def RPref (s : List UInt8) (w : World) (e : Ending) (w' : World) : Prop := ∃ v, e = .returned (.tuple #[v, .int .i64 (readPrefs s).2]) ∧ Sl prefR w' v (readPrefs s).1 ∧ Below w.heap.size w w'
theorem rp_fin {s : List UInt8} {w w' : World} {v : Value} {l : List Prefix} {n : Int} (h : readPrefs s = (l, n)) (hs : Sl prefR w' v l) (hb : Below w.heap.size w w') : RPref s w (.returned (.tuple #[v, .int .i64 n])) w' := ⟨v, by rw [h], by rw [h]; exact hs, hb⟩
/-- .. the list lies in blocks from b on -/
def SlF {α : Type} (r : Rep α) (b : Nat) (w : World) (v : Value) (xs : List α) : Prop := SlR r w (fun k => k < w.heap.size ∧ b ≤ k) v xs
theorem SlF.sl {α : Type} {r : Rep α} {b : Nat} {w : World} {v : Value} {xs : List α} (h : SlF r b w v xs) : Sl r w v xs := SlR.keep h (fun _ _ => rfl) (fun _ hk => hk.1)
theorem SlF.nil {α : Type} (r : Rep α) (b : Nat) (w : World) : SlF r b w (.slice none 0 0) [] := ⟨none, 0, rfl, Nat.le_refl _, Nat.zero_le _, fun i x h => by simp at h⟩
theorem SlF.below {α : Type} {r : Rep α} {b : Nat} {w w' : World} {v : Value} {xs : List α} (h : SlF r b w v xs) (hb : Below w.heap.size w w') : SlF r b w' v xs := SlR.keep h (fun k hk => hb.block k hk.1) (fun k hk => ⟨Nat.lt_of_lt_of_le hk.1 hb.size, hk.2⟩)
theorem SlF.mono {α : Type} {r : Rep α} {b b' : Nat} {w : World} {v : Value} {xs : List α} (h : SlF r b w v xs) (hb : b' ≤ b) : SlF r b' w v xs := SlR.keep h (fun _ _ => rfl) (fun _ hk => ⟨hk.1, Nat.le_trans hb hk.2⟩)
theorem OwR.slG {α : Type} {r : Rep α} {E base : Nat} {w : World} {v : Value} {xs : List α} (h : OwR r E base w v xs) (hs : 0 < r.size) (hf : ∀ S S' cs x, r.holds w S cs x → r.holds w S' cs x) : SlF r base w v xs := by
  obtain ⟨A, c, rfl, h1, h2, h3⟩ := h.sl hs
  refine ⟨A, c, rfl, h1, h2, fun i x hx => ?_⟩
  obtain ⟨b, off, cs, rfl, hS, hb, hh, hc⟩ := h3 i x hx
  exact ⟨b, off, cs, rfl, ⟨hb, (h.base_le b rfl).1⟩, hb, hf _ _ _ _ hh, hc⟩
def RPrefF (s : List UInt8) (w : World) (e : Ending) (w' : World) : Prop := ∃ v, e = .returned (.tuple #[v, .int .i64 (readPrefs s).2]) ∧ SlF prefR w.heap.size w' v (readPrefs s).1 ∧ Below w.heap.size w w'
theorem rpf_fin {s : List UInt8} {w w' : World} {v : Value} {l : List Prefix} {n : Int} (h : readPrefs s = (l, n)) (hs : SlF prefR w.heap.size w' v l) (hb : Below w.heap.size w w') : RPrefF s w (.returned (.tuple #[v, .int .i64 n])) w' := ⟨v, by rw [h], by rw [h]; exact hs, hb⟩
theorem rpf_any {s : List UInt8} {w : World} {e : Ending} {w' : World} (h : RPrefF s w e w') : RPref s w e w' := by
  obtain ⟨v, h1, h2, h3⟩ := h
  exact ⟨v, h1, h2.sl, h3⟩
theorem rp_none {s : List UInt8} (h : pairsD 47 (partsC s) = none) : readPrefs s = ([], 4) := by unfold readPrefs; rw [h]
theorem rp_bad {s : List UInt8} {l : List (Int × Int)} (h : pairsD 47 (partsC s) = some l) (hc : chkPrefs (l.map prefOf) ≠ 0) : readPrefs s = ([], chkPrefs (l.map prefOf)) := by unfold readPrefs; rw [h]; exact if_neg hc
theorem rp_good {s : List UInt8} {l : List (Int × Int)} (h : pairsD 47 (partsC s) = some l) (hc : chkPrefs (l.map prefOf) = 0) : readPrefs s = (l.map prefOf, 0) := by unfold readPrefs; rw [h]; exact if_pos hc
theorem pairs_take {b : UInt8} {l : List (List UInt8)} {k : Nat} {acc : List (Int × Int)} {p : List UInt8} {x : Int × Int} (h : pairsD b (l.take k) = some acc) (hp : l[k]? = some p) (hx : pairD b p = some x) : pairsD b (l.take (k + 1)) = some (acc ++ [x]) := by
  rw [List.take_add_one, hp]
  show pairsD b (l.take k ++ [p]) = _
  rw [pairsD_snoc, h]; simp only [hx]


set_option maxRecDepth 50000 in
set_option maxHeartbeats 2000000 in
theorem readPrefs_fr (s : ByteArray) (w : World) (hl : s.size < 4294967281) (hE : Env w) :
    Calls Tryz.prog 40 #[.string s] w fun e w' => RPrefF s.data.toList w e w' := by
  have HSZ := Go.Lib.hid (size_toList s)
  have hpl := partsC_len s.data.toList
  rw [HSZ.out] at hpl
  have HPL := Go.Lib.hid hpl
  have HE := Go.Lib.hid hE
  clear hE hpl
  go_enter Tryz.func40, Tryz.ntmps40
  obtain ⟨PS, hPS⟩ : ∃ PS, PS = partsC s.data.toList := ⟨_, rfl⟩
  have HPS := Go.Lib.hid hPS
  have hpn : PS.length ≤ s.size + 1 := by rw [hPS]; exact HPL.out.1
  clear hPS
  go_wp2_with (go_at_call 44; refine (parts_any s _ hl HE.out).mono ?_; rintro e w1 ⟨⟨v, rfl, hv⟩, hb1⟩; rw [← HPS.out] at hv; have HB1 := Go.Lib.hid hb1; have HE1 := Go.Lib.hid (HE.out.below hb1); clear hb1; obtain ⟨A, c, rfl⟩ := hv.form; have HV := Go.Lib.hid hv; clear hv)
  go_loopw [4, 14] (fun o i wr => ∃ (k : Nat) (acc : List (Int × Int)), k ≤ PS.length ∧ i = .int .i64 k ∧ OwR prefR 62 w1.heap.size wr o (acc.map prefOf) ∧ Below w1.heap.size w1 wr ∧ pairsD 47 (PS.take k) = some acc) (fun _ i _ => PS.length - (intOf i).toNat)
  case atStart => exact ⟨0, [], Nat.zero_le _, rfl, OwR.nil _ _ (Nat.le_refl _), Below.refl _ _, rfl⟩
  case round =>
    obtain ⟨k, acc, hk, rfl, ho, hB, hp⟩ := hrel
    have HO := Go.Lib.hid ho
    have HB := Go.Lib.hid hB
    have HP := Go.Lib.hid hp
    have hal := pairsD_len 47 hp
    rw [List.length_take] at hal
    clear ho hB hp
    by_cases hlt : k < PS.length
    · have hltm : k < (PS.map bOf).length := by rw [List.length_map]; exact hlt
      obtain ⟨bk, off, rfl, hbk⟩ := HV.out.at_ hltm
      have hcell := (HV.out.below HB.out).strA hltm
      rw [List.getElem_map] at hcell
      have hsz := HPL.out.2 PS[k] (by rw [← HPS.out]; exact List.getElem_mem hlt)
      have hsm : (bOf PS[k]).size < 4294967281 := by rw [bOf_size]; omega
      have htwo := fun w hE => two_pair (bOf PS[k]) 47 w hsm hE
      rw [bOf_list] at htwo
      have HT := Go.Lib.hid htwo
      have HK := Go.Lib.hid (List.getElem?_eq_getElem hlt)
      have HN := Go.Lib.hid (show (acc.map prefOf).length + 1 ≤ 1000000000000 by rw [List.length_map]; omega)
      have hlti : (k : Int) < (PS.length : Int) := by omega
      clear htwo hsz hsm hal
      go_wp2_with (first
        | (at_builtin; refine wpList_gen (base := w1.heap.size) elt_prefA rfl (.tmp 26) (.tmp 30) rfl ((HO.out.keep hb3).keep ((Below.refl _ _).alloc (Nat.le_refl _) _)) (one_flat (r := prefR) (cs := [.int .i64 x, .int .i64 y]) (x := prefOf (x, y)) rfl ⟨rfl, hx, hy⟩) (fun _ _ h => h) rfl rfl HN.out (by decide) ?_; intro v2 w4 ho2 hg2)
        | (go_at_call 45; refine (HT.out _ (HE1.out.below HB.out)).mono ?_; rintro e w3 ⟨⟨x, y, ok, rfl, hpd, hx, hy⟩, hb3⟩; have HPD := Go.Lib.hid hpd; clear hpd))
      · have hok : ok = false := by have h := ‹(!ok) = true›; simpa using h
        have hpd := HPD.out
        rw [hok] at hpd
        have B3 := HB.out.trans (hb3.mono HB.out.size)
        go_ret2
        have hnone := pairsD_fail 47 HK.out hpd
        rw [HPS.out] at hnone
        exact rpf_fin (rp_none hnone) (SlF.nil _ _ _) (HB1.out.trans (B3.mono HB1.out.size))
      · have hok : ok = true := by have h := ‹(!ok) = false›; simpa using h
        have B3 := HB.out.trans (hb3.mono HB.out.size)
        have B4 := (ow_alloc (HO.out.keep hb3) (.cells #[.int .i64 x, .int .i64 y] 62)).below_grown (B3.alloc B3.size (.cells #[.int .i64 x, .int .i64 y] 62)) hg2.grown
        have hpd := HPD.out
        rw [hok] at hpd
        go_roundw
        case rel => exact ⟨k + 1, acc ++ [(x, y)], by omega, by go_num, by rw [List.map_append]; exact ho2, B4, pairs_take HP.out HK.out hpd⟩
        case measure => simp [intOf]; omega
    · have hke : k = PS.length := by omega
      subst hke
      rw [List.take_length] at HP
      rw [HPS.out] at HP
      have hnlt : ¬ (PS.length : Int) < (PS.length : Int) := by omega
      have hal' : acc.length ≤ 4294967290 := by omega
      have hbad := fun h => rp_bad (s := s.data.toList) HP.out h
      have hgood := fun h => rp_good (s := s.data.toList) HP.out h
      generalize acc.map prefOf = L at HO hbad hgood
      have HCK := Go.Lib.hid (fun w v h => checkPrefs_any v L w h)
      have HBAD := Go.Lib.hid hbad
      have HGOOD := Go.Lib.hid hgood
      have hsl := (HO.out.slG (by decide) (fun _ _ _ _ h => h)).mono HB1.out.size
      obtain ⟨A2, c2, rfl⟩ := hsl.sl.form
      have HSL := Go.Lib.hid hsl
      clear hsl hal hk hlt hbad hgood
      by_cases hc : chkPrefs L = 0
      · have HR := Go.Lib.hid (HGOOD.out hc)
        rw [hc] at HCK
        clear hc
        go_wp2_with (go_at_call 49; refine (HCK.out _ _ HSL.out.sl).mono ?_; rintro e w3 ⟨rfl, hb3⟩)
        go_ret2
        exact rpf_fin HR.out (HSL.out.below hb3) (HB1.out.trans ((HB.out.trans (hb3.mono HB.out.size)).mono HB1.out.size))
      · have HR := Go.Lib.hid (HBAD.out hc)
        have hcb : (chkPrefs L == 0) = false := by rw [beq_eq_false_iff_ne]; exact hc
        clear hc
        go_wp2_with (go_at_call 49; refine (HCK.out _ _ HSL.out.sl).mono ?_; rintro e w3 ⟨rfl, hb3⟩)
        go_ret2
        exact rpf_fin HR.out (SlF.nil _ _ _) (HB1.out.trans ((HB.out.trans (hb3.mono HB.out.size)).mono HB1.out.size))

theorem readPrefs_any (s : ByteArray) (w : World) (hl : s.size < 4294967281) (hE : Env w) :
    Calls Tryz.prog 40 #[.string s] w fun e w' => RPref s.data.toList w e w' := (readPrefs_fr s w hl hE).mono fun _ _ h => rpf_any h

theorem pairOf_pair (s : ByteArray) (b : UInt8) (c : Int) (hc : c = b.toNat) (w : World) (hs : s.size < 4294967281) (_ : Env w) :
    Calls Tryz.prog 101 #[.string s, .int .u8 c] w fun e w' => Pair2 b s.data.toList e ∧ Below w.heap.size w w' := by
  subst hc
  exact (pairOf_any s b w (by omega)).mono fun e w' ⟨he, hw⟩ => ⟨he, by subst hw; exact Below.refl _ _⟩

set_option maxRecDepth 50000 in
set_option maxHeartbeats 2000000 in
theorem prefsOf_fr (s : ByteArray) (w : World) (hl : s.size < 4294967281) (hE : Env w) :
    Calls Tryz.prog 71 #[.string s] w fun e w' => RPrefF s.data.toList w e w' := by
  have HSZ := Go.Lib.hid (size_toList s)
  have hpl := partsC_len s.data.toList
  rw [HSZ.out] at hpl
  have HPL := Go.Lib.hid hpl
  have HE := Go.Lib.hid hE
  clear hE hpl
  go_enter Tryz.func71, Tryz.ntmps71
  obtain ⟨PS, hPS⟩ : ∃ PS, PS = partsC s.data.toList := ⟨_, rfl⟩
  have HPS := Go.Lib.hid hPS
  have hpn : PS.length ≤ s.size + 1 := by rw [hPS]; exact HPL.out.1
  clear hPS
  go_wp2_with (go_at_call 100; refine (cuts_any s _ (by omega)).mono ?_; rintro e w1 ⟨⟨v, rfl, hv⟩, hb1⟩; rw [← HPS.out] at hv; have HB1 := Go.Lib.hid hb1; have HE1 := Go.Lib.hid (HE.out.below hb1); clear hb1; obtain ⟨A, c, rfl⟩ := hv.form; have HV := Go.Lib.hid hv; clear hv)
  go_loopw [4, 6] (fun o i wr => ∃ (k : Nat) (acc : List (Int × Int)), k ≤ PS.length ∧ i = .int .i64 k ∧ OwR prefR 62 w1.heap.size wr o (acc.map prefOf) ∧ Below w1.heap.size w1 wr ∧ pairsD 47 (PS.take k) = some acc) (fun _ i _ => PS.length - (intOf i).toNat)
  case atStart => exact ⟨0, [], Nat.zero_le _, rfl, OwR.nil _ _ (Nat.le_refl _), Below.refl _ _, rfl⟩
  case round =>
    obtain ⟨k, acc, hk, rfl, ho, hB, hp⟩ := hrel
    have HO := Go.Lib.hid ho
    have HB := Go.Lib.hid hB
    have HP := Go.Lib.hid hp
    have hal := pairsD_len 47 hp
    rw [List.length_take] at hal
    clear ho hB hp
    by_cases hlt : k < PS.length
    · have hltm : k < (PS.map bOf).length := by rw [List.length_map]; exact hlt
      obtain ⟨bk, off, rfl, hbk⟩ := HV.out.at_ hltm
      have hcell := (HV.out.below HB.out).strA hltm
      rw [List.getElem_map] at hcell
      have hsz := HPL.out.2 PS[k] (by rw [← HPS.out]; exact List.getElem_mem hlt)
      have hsm : (bOf PS[k]).size < 4294967281 := by rw [bOf_size]; omega
      have htwo := fun w hE => pairOf_pair (bOf PS[k]) 47 47 rfl w hsm hE
      rw [bOf_list] at htwo
      have HT := Go.Lib.hid htwo
      have HK := Go.Lib.hid (List.getElem?_eq_getElem hlt)
      have HN := Go.Lib.hid (show (acc.map prefOf).length + 1 ≤ 1000000000000 by rw [List.length_map]; omega)
      have hlti : (k : Int) < (PS.length : Int) := by omega
      clear htwo hsz hsm hal
      go_wp2_with (first
        | (at_builtin; refine wpList_gen (base := w1.heap.size) elt_prefA rfl (.tmp 30) (.tmp 34) rfl ((HO.out.keep hb3).keep ((Below.refl _ _).alloc (Nat.le_refl _) _)) (one_flat (r := prefR) (cs := [.int .i64 x, .int .i64 y]) (x := prefOf (x, y)) rfl ⟨rfl, hx, hy⟩) (fun _ _ h => h) rfl rfl HN.out (by decide) ?_; intro v2 w4 ho2 hg2)
        | (go_at_call 101; refine (HT.out _ (HE1.out.below HB.out)).mono ?_; rintro e w3 ⟨⟨x, y, ok, rfl, hpd, hx, hy⟩, hb3⟩; have HPD := Go.Lib.hid hpd; clear hpd))
      · have hok : ok = false := by have h := ‹(!ok) = true›; simpa using h
        have hpd := HPD.out
        rw [hok] at hpd
        have B3 := HB.out.trans (hb3.mono HB.out.size)
        go_ret2
        have hnone := pairsD_fail 47 HK.out hpd
        rw [HPS.out] at hnone
        exact rpf_fin (rp_none hnone) (SlF.nil _ _ _) (HB1.out.trans (B3.mono HB1.out.size))
      · have hok : ok = true := by have h := ‹(!ok) = false›; simpa using h
        have B3 := HB.out.trans (hb3.mono HB.out.size)
        have B4 := (ow_alloc (HO.out.keep hb3) (.cells #[.int .i64 x, .int .i64 y] 62)).below_grown (B3.alloc B3.size (.cells #[.int .i64 x, .int .i64 y] 62)) hg2.grown
        have hpd := HPD.out
        rw [hok] at hpd
        go_roundw
        case rel => exact ⟨k + 1, acc ++ [(x, y)], by omega, by go_num, by rw [List.map_append]; exact ho2, B4, pairs_take HP.out HK.out hpd⟩
        case measure => simp [intOf]; omega
    · have hke : k = PS.length := by omega
      subst hke
      rw [List.take_length] at HP
      rw [HPS.out] at HP
      have hnlt : ¬ (PS.length : Int) < (PS.length : Int) := by omega
      have hal' : acc.length ≤ 4294967290 := by omega
      have hbad := fun h => rp_bad (s := s.data.toList) HP.out h
      have hgood := fun h => rp_good (s := s.data.toList) HP.out h
      generalize acc.map prefOf = L at HO hbad hgood
      have HCK := Go.Lib.hid (fun w v h => prefsFault_any v L w h)
      have HBAD := Go.Lib.hid hbad
      have HGOOD := Go.Lib.hid hgood
      have hsl := (HO.out.slG (by decide) (fun _ _ _ _ h => h)).mono HB1.out.size
      obtain ⟨A2, c2, rfl⟩ := hsl.sl.form
      have HSL := Go.Lib.hid hsl
      clear hsl hal hk hlt hbad hgood
      by_cases hc : chkPrefs L = 0
      · have HR := Go.Lib.hid (HGOOD.out hc)
        rw [hc] at HCK
        clear hc
        go_wp2_with (go_at_call 102; refine (HCK.out _ _ HSL.out.sl).mono ?_; rintro e w3 ⟨rfl, hb3⟩)
        go_ret2
        exact rpf_fin HR.out (HSL.out.below hb3) (HB1.out.trans ((HB.out.trans (hb3.mono HB.out.size)).mono HB1.out.size))
      · have HR := Go.Lib.hid (HBAD.out hc)
        have hcb : (chkPrefs L == 0) = false := by rw [beq_eq_false_iff_ne]; exact hc
        clear hc
        go_wp2_with (go_at_call 102; refine (HCK.out _ _ HSL.out.sl).mono ?_; rintro e w3 ⟨rfl, hb3⟩)
        go_ret2
        exact rpf_fin HR.out (SlF.nil _ _ _) (HB1.out.trans ((HB.out.trans (hb3.mono HB.out.size)).mono HB1.out.size))
theorem prefsOf_any (s : ByteArray) (w : World) (hl : s.size < 4294967281) (hE : Env w) :
    Calls Tryz.prog 71 #[.string s] w fun e w' => RPref s.data.toList w e w' := (prefsOf_fr s w hl hE).mono fun _ _ h => rpf_any h
end Go.Proofs.YtcbkimbeljhbhaaGreatDoor

namespace Go.Proofs.YtcbkimbeljhbhaaGreatDoor
open Go Go.RowKit

theorem neq_prefA (a b c d : Int) (w : World) :
    (binOp .neq 62 (.agg #[.int .i64 a, .int .i64 b]) (.agg #[.int .i64 c, .int .i64 d])).run Tryz.prog w = .ok (.bool (!(a == c && b == d))) w := by
  have hS : Tryz.prog.underlying 62 = some (.struct (Tryz.prog.fieldsOf 62)) := by kernel_rfl
  have hp : Tryz.prog.stoodInHeld 62 = false := by kernel_rfl
  have u3 := Tryz.underlying3
  have a3 := Tryz.isAgg3
  have z3 := Tryz.sizeOf3
  rw [run_neq_struct, show (10000 : Nat) = 9999 + 1 from rfl, run_equalIn_agg w 9999 62 _ _ hS hp]
  simp only [Program.fieldsOf, Tryz.underlying62]
  go_simp
  by_cases h1 : a = c <;> by_cases h2 : b = d <;> simp [h1, h2]
theorem guard_prefA (op : BinOp) (a b : Operand) (x y : Array Value) (w : World) : (eqGuard op 62 a b (.agg x) (.agg y)).run Tryz.prog w = .ok () w :=
  run_eqGuard_agg w op _ a b x y (by kernel_rfl)
theorem neq_sideA (a b c d : Int) (w : World) :
    (binOp .neq 57 (.agg #[.int .i64 a, .int .i64 b]) (.agg #[.int .i64 c, .int .i64 d])).run Tryz.prog w = .ok (.bool (!(a == c && b == d))) w := by
  have hS : Tryz.prog.underlying 57 = some (.struct (Tryz.prog.fieldsOf 57)) := by kernel_rfl
  have hp : Tryz.prog.stoodInHeld 57 = false := by kernel_rfl
  have u3 := Tryz.underlying3
  have a3 := Tryz.isAgg3
  have z3 := Tryz.sizeOf3
  rw [run_neq_struct, show (10000 : Nat) = 9999 + 1 from rfl, run_equalIn_agg w 9999 57 _ _ hS hp]
  simp only [Program.fieldsOf, Tryz.underlying57]
  go_simp
  by_cases h1 : a = c <;> by_cases h2 : b = d <;> simp [h1, h2]
theorem guard_sideA (op : BinOp) (a b : Operand) (x y : Array Value) (w : World) : (eqGuard op 57 a b (.agg x) (.agg y)).run Tryz.prog w = .ok () w :=
  run_eqGuard_agg w op _ a b x y (by kernel_rfl)

end Go.Proofs.YtcbkimbeljhbhaaGreatDoor

namespace Go.Proofs.YtcbkimbeljhbhaaGreatDoor
open Go Go.RowKit

/-- a box of a link's teller -/
structure Box (w : World) (A : Nat) (d : Bool) (o : Value) : Prop where
  c0 : w.cell? ⟨A, 0, none⟩ = some (.bool d)
  c1 : w.cell? ⟨A, 1, none⟩ = some o
  fz : ∀ i, w.frozen? ⟨A, i, none⟩ = false
  lt : A < w.heap.size
theorem Box.keep {w w' : World} {A : Nat} {d : Bool} {o : Value} (h : Box w A d o) (hk : w'.heap[A]? = w.heap[A]?) : Box w' A d o :=
  ⟨(World.cell?_of_block (w := w) hk).trans h.c0, (World.cell?_of_block (w := w) hk).trans h.c1, fun i => (World.frozen?_of_block (w := w) hk).trans (h.fz i), lt_of_same h.lt hk⟩
theorem Box.below {w w' : World} {A : Nat} {d : Bool} {o : Value} (h : Box w A d o) (hb : Below w.heap.size w w') : Box w' A d o := h.keep (hb.block A h.lt)
theorem grown_set2 (w : World) (p : Addr) (u : Value) : w.grownBy (w.setCell p u) (some p.block) :=
  ⟨rfl, rfl, rfl, by simp [World.setCell], fun k hk hne => Below.heap_setCell _ _ _ _ (fun e => hne (by rw [e]))⟩
theorem Box.set1 {w : World} {A : Nat} {d : Bool} {o : Value} (h : Box w A d o) (v : Value) : Box (w.setCell ⟨A, 1, none⟩ v) A d v := by
  refine ⟨?_, ?_, fun i => ?_, by simp [World.setCell]; exact h.lt⟩
  · rw [World.cell?_setCell_other _ _ _ _ (by simp)]; exact h.c0
  · exact World.cell?_setCell_same' w _ v (by rw [h.c1]; rfl)
  · rw [World.frozen?_setCell]; exact h.fz i
theorem ow_set {α : Type} {r : Rep α} {E base : Nat} {w : World} {v : Value} {xs : List α} (h : OwR r E base w v xs) {p : Addr} (hp : p.block < base) (u : Value)
    (hin : ∀ (cs : List Value) (y : α), r.holds w (fun k => k < w.heap.size ∧ v.ownBlock ≠ some k) cs y → r.holds w (fun k => (k < w.heap.size ∧ v.ownBlock ≠ some k) ∧ some k ≠ some p.block) cs y) : OwR r E base (w.setCell p u) v xs :=
  h.kept (grown_set2 w p u) (by
    rcases e : v.ownBlock with _ | k
    · exact .inl rfl
    · right; intro e2; injection e2 with e2; have := (h.base_le k e).1; omega) hin

theorem ow_form {α : Type} {r : Rep α} {E base : Nat} {w : World} {v : Value} {xs : List α} (h : OwR r E base w v xs) (hs : 0 < r.size) : ∃ A n c, v = .slice A n c := by
  obtain ⟨A, c, hv⟩ := (h.sl hs).form
  exact ⟨A, _, c, hv⟩
/-- texts do not lie where no text lies -/
theorem sl_off {w : World} {v : Value} {xs : List ByteArray} {A : Nat} (h : Sl strR w v xs) (hA : ∀ i x, w.cell? ⟨A, i, none⟩ ≠ some (.string x)) : SlR strR w (fun k => k < w.heap.size ∧ k ≠ A) v xs := by
  obtain ⟨a, c, hv, h1, h2, h3⟩ := h
  refine ⟨a, c, hv, h1, h2, fun i x hx => ?_⟩
  obtain ⟨b, off, cs, e1, e2, e3, e4, e5⟩ := h3 i x hx
  refine ⟨b, off, cs, e1, ⟨e2, fun e => ?_⟩, e3, e4, e5⟩
  obtain ⟨rfl, _⟩ := e4
  subst e
  exact hA _ _ (e5 0 _ rfl)

def RAdj (s : List UInt8) (w : World) (e : Ending) (w' : World) : Prop := ∃ v, e = .returned (.tuple #[.agg #[.bool (readAdj s).1, v], .int .i64 (readAdj s).2.2]) ∧ Sl sideR w' v (readAdj s).2.1 ∧ Below w.heap.size w w'
theorem ra_fin {s : List UInt8} {w w' : World} {v : Value} {d : Bool} {l : List Side} {n : Int} (h : readAdj s = (d, l, n)) (hs : Sl sideR w' v l) (hb : Below w.heap.size w w') : RAdj s w (.returned (.tuple #[.agg #[.bool d, v], .int .i64 n])) w' := ⟨v, by rw [h], by rw [h]; exact hs, hb⟩
def RAdjF (s : List UInt8) (w : World) (e : Ending) (w' : World) : Prop := ∃ v, e = .returned (.tuple #[.agg #[.bool (readAdj s).1, v], .int .i64 (readAdj s).2.2]) ∧ SlF sideR w.heap.size w' v (readAdj s).2.1 ∧ Below w.heap.size w w'
theorem raf_fin {s : List UInt8} {w w' : World} {v : Value} {d : Bool} {l : List Side} {n : Int} (h : readAdj s = (d, l, n)) (hs : SlF sideR w.heap.size w' v l) (hb : Below w.heap.size w w') : RAdjF s w (.returned (.tuple #[.agg #[.bool d, v], .int .i64 n])) w' := ⟨v, by rw [h], by rw [h]; exact hs, hb⟩
theorem raf_any {s : List UInt8} {w : World} {e : Ending} {w' : World} (h : RAdjF s w e w') : RAdj s w e w' := by
  obtain ⟨v, h1, h2, h3⟩ := h
  exact ⟨v, h1, h2.sl, h3⟩
theorem ra_none {s : List UInt8} (h : pairsD 61 (partsC (Lib.trimPrefix s [33])) = none) : readAdj s = (false, [], 4) := by unfold readAdj; rw [h]
theorem ra_bad {s : List UInt8} {l : List (Int × Int)} (h : pairsD 61 (partsC (Lib.trimPrefix s [33])) = some l) (hc : chkSides (l.map sideOf2) ≠ 0) : readAdj s = (false, [], chkSides (l.map sideOf2)) := by unfold readAdj; rw [h]; exact if_neg hc
theorem ra_good {s : List UInt8} {l : List (Int × Int)} (h : pairsD 61 (partsC (Lib.trimPrefix s [33])) = some l) (hc : chkSides (l.map sideOf2) = 0) : readAdj s = (Lib.hasPrefix s [33], l.map sideOf2, 0) := by unfold readAdj; rw [h]; exact if_pos hc


theorem after_app {w3 w4 : World} {A R base : Nat} {d e : Bool} {o p v2 : Value} {xs : List Side} {x y : Int} (hA : Box w3 A d o) (hR : Box w3 R e p) (ho : OwR sideR 57 base w3 o xs) (hg : GrowTo (w3.alloc (.cells #[.int .i64 x, .int .i64 y] 57)) o w4 v2)
    (h1 : A < base) (h2 : R < base) : Box w4 A d o ∧ Box w4 R e p ∧ w3.heap.size ≤ w4.heap.size := by
  have key : ∀ q, q < base → q < w3.heap.size → w4.heap[q]? = w3.heap[q]? := by
    intro q hq hq3
    rw [hg.grown.block q (by simp; omega) (fun e => by have := (ho.base_le q e.symm).1; omega)]
    exact Below.heap_alloc _ _ _ hq3
  refine ⟨hA.keep (key A h1 hA.lt), hR.keep (key R h2 hR.lt), ?_⟩
  have := hg.grown.size
  simp at this; omega
theorem two_boxesA (w : World) (a b : Bool) (q : Value) (hq : ∀ x, q ≠ .string x) (T : TypeId) : Box ((w.alloc (.cells #[.bool a, .slice none 0 0] T)).alloc (.cells #[.bool b, q] T)) w.heap.size a (.slice none 0 0) ∧
    Box ((w.alloc (.cells #[.bool a, .slice none 0 0] T)).alloc (.cells #[.bool b, q] T)) (w.heap.size + 1) b q ∧ Below w.heap.size w ((w.alloc (.cells #[.bool a, .slice none 0 0] T)).alloc (.cells #[.bool b, q] T)) ∧
    ∀ i x, ((w.alloc (.cells #[.bool a, .slice none 0 0] T)).alloc (.cells #[.bool b, q] T)).cell? ⟨w.heap.size + 1, i, none⟩ ≠ some (.string x) := by
  have e : w.heap.size + 1 = (w.alloc (.cells #[.bool a, .slice none 0 0] T)).heap.size := by simp
  have h1 : Box (w.alloc (.cells #[.bool a, .slice none 0 0] T)) w.heap.size a (.slice none 0 0) := by
    refine ⟨?_, ?_, fun i => World.frozen?_alloc_at _ _ _ _ rfl, by simp⟩
    · rw [World.cell?_alloc_at _ _ _ _ rfl]; rfl
    · rw [World.cell?_alloc_at _ _ _ _ rfl]; rfl
  refine ⟨h1.below ((Below.refl _ _).alloc (Nat.le_refl _) _), ⟨?_, ?_, fun i => World.frozen?_alloc_at _ _ _ _ (by simp), by simp⟩, ((Below.refl _ _).alloc (Nat.le_refl _) _).alloc (by simp) _, fun i x => ?_⟩
  · rw [World.cell?_alloc_at _ _ _ _ (by simp)]; rfl
  · rw [World.cell?_alloc_at _ _ _ _ (by simp)]; rfl
  · rw [World.cell?_alloc_at _ _ _ _ (by simp)]
    match i with
    | 0 => simp
    | 1 => simp; exact hq x
    | i + 2 => simp
theorem trim_len (s : List UInt8) : (Lib.trimPrefix s [33]).length ≤ s.length := by
  unfold Lib.trimPrefix
  split
  · simp
  · exact Nat.le_refl _

set_option maxRecDepth 50000 in
set_option maxHeartbeats 2000000 in
theorem readAdj_fr (s : ByteArray) (w : World) (hl : s.size < 4294967281) (hE : Env w) :
    Calls Tryz.prog 17 #[.string s] w fun e w' => RAdjF s.data.toList w e w' := by
  have HE := Go.Lib.hid hE
  have hpl := partsC_len (Lib.trimPrefix s.data.toList [33])
  have htl := trim_len s.data.toList
  rw [size_toList] at htl
  have hts : (bOf (Lib.trimPrefix s.data.toList [33])).size < 4294967281 := by rw [bOf_size]; omega
  obtain ⟨hbr0, hbx0, hbw0, hno0⟩ := two_boxesA w false (Lib.hasPrefix s.data.toList [33]) (.slice none 0 0) (by intro x e; cases e) 53
  have hpc := parts_any (bOf (Lib.trimPrefix s.data.toList [33])) _ hts (hE.below hbw0)
  rw [bOf_list] at hpc
  have HPC := Go.Lib.hid hpc
  have HBR0 := Go.Lib.hid hbr0
  have HBX0 := Go.Lib.hid hbx0
  have HBW0 := Go.Lib.hid hbw0
  have HNO0 := Go.Lib.hid hno0
  clear hE hpc hbr0 hbx0 hbw0 hno0
  obtain ⟨PS, hPS⟩ : ∃ PS, PS = partsC (Lib.trimPrefix s.data.toList [33]) := ⟨_, rfl⟩
  have HPS := Go.Lib.hid hPS
  have hpl' : PS.length ≤ s.size + 1 ∧ ∀ x ∈ PS, x.length ≤ s.size := by rw [hPS]; exact ⟨by omega, fun x hx => by have := hpl.2 x hx; omega⟩
  have HPL := Go.Lib.hid hpl'
  have hpn := hpl'.1
  clear hPS hpl hpl'
  go_enter Tryz.func17, Tryz.ntmps17
  go_wp2_with (first
    | (go_at_call 43; refine (Tryz.strings_CutPrefix s _ _).mono ?_; rintro e w' ⟨rfl, rfl⟩)
    | (go_at_call 44; refine HPC.out.mono ?_; rintro e w1 ⟨⟨v, rfl, hv⟩, hb1⟩; rw [← HPS.out] at hv; have HB1 := Go.Lib.hid (HBW0.out.trans (hb1.mono HBW0.out.size)); have HBR := Go.Lib.hid (HBR0.out.below hb1); have HBX := Go.Lib.hid (HBX0.out.below hb1); obtain ⟨A, c, rfl⟩ := hv.form; have HV := Go.Lib.hid (sl_off hv (fun i x => by rw [hb1.cell (p := ⟨w.heap.size + 1, i, none⟩) HBX0.out.lt]; exact HNO0.out i x)); clear hv hb1))
  go_loopw [21] (fun i wr => ∃ (k : Nat) (acc : List (Int × Int)) (o : Value), k ≤ PS.length ∧ i = .int .i64 k ∧ Box wr (w.heap.size + 1) (Lib.hasPrefix s.data.toList [33]) o ∧ Box wr w.heap.size false (.slice none 0 0) ∧ OwR sideR 57 w1.heap.size wr o (acc.map sideOf2) ∧ Below w.heap.size w wr ∧ w1.grownBy wr (some (w.heap.size + 1)) ∧ pairsD 61 (PS.take k) = some acc) (fun i _ => PS.length - (intOf i).toNat)
  case atStart => exact ⟨0, [], _, Nat.zero_le _, rfl, HBX.out, HBR.out, OwR.nil _ _ (Nat.le_refl _), HB1.out, World.grownBy.refl _ _, rfl⟩
  case round =>
    obtain ⟨k, acc, o, hk, rfl, hbx, hbr, ho, hB, hG, hp⟩ := hrel
    have HX := Go.Lib.hid hbx
    have HRX := Go.Lib.hid hbr
    have HO := Go.Lib.hid ho
    have HB := Go.Lib.hid hB
    have HG := Go.Lib.hid hG
    have HP := Go.Lib.hid hp
    have hal := pairsD_len 61 hp
    rw [List.length_take] at hal
    clear ho hB hp hG
    by_cases hlt : k < PS.length
    · have hltm : k < (PS.map bOf).length := by rw [List.length_map]; exact hlt
      have hvr : Sl strR wr (.slice A (PS.map bOf).length c) (PS.map bOf) := SlR.keep HV.out (fun q hq => HG.out.block q hq.1 (fun e => by injection e with e; exact hq.2 e)) (fun q hq => Nat.lt_of_lt_of_le hq.1 HG.out.size)
      obtain ⟨bk, off, rfl, hbk⟩ := hvr.at_ hltm
      have hcell := hvr.strA hltm
      rw [List.getElem_map] at hcell
      have hsz := HPL.out.2 PS[k] (List.getElem_mem hlt)
      have hsm : (bOf PS[k]).size < 4294967281 := by rw [bOf_size]; omega
      have htwo := fun w hE => two_pair (bOf PS[k]) 61 w hsm hE
      rw [bOf_list] at htwo
      have HT := Go.Lib.hid htwo
      have HK := Go.Lib.hid (List.getElem?_eq_getElem hlt)
      have HN := Go.Lib.hid (show (acc.map sideOf2).length + 1 ≤ 1000000000000 by rw [List.length_map]; omega)
      have hlti : (k : Int) < (PS.length : Int) := by omega
      obtain ⟨x0, x1, x2, x3⟩ := hbx
      obtain ⟨r0, r1, r2, r3⟩ := hbr
      clear htwo hsz hsm hal hvr x2 r2
      go_wp2_with (first
        | (at_builtin; refine wpList_gen (base := w1.heap.size) elt_sideA rfl (.tmp 35) (.tmp 39) rfl ((HO.out.keep HB3.out).keep ((Below.refl _ _).alloc (Nat.le_refl _) _)) (one_flat (r := sideR) (cs := [.int .i64 x, .int .i64 y]) (x := sideOf2 (x, y)) rfl ⟨rfl, hx, hy⟩) (fun _ _ h => h) rfl rfl HN.out (by decide) ?_; intro v2 w4 ho2 hg2; obtain ⟨A9, n9, c9, rfl⟩ := ow_form ho2 (by decide); have HB4 := Go.Lib.hid (after_app HX3.out HRX3.out HO3.out hg2 HBX.out.lt HBR.out.lt); obtain ⟨⟨y0, y1, y2, y3⟩, ⟨z0, z1, z2, z3⟩, _⟩ := HB4.out; have y4 := y2 1; clear y2 z2)
        | (go_at_call 45; refine (HT.out _ (HE.out.below HB.out)).mono ?_; rintro e w3 ⟨⟨x, y, ok, rfl, hpd, hx, hy⟩, hb3⟩; have HPD := Go.Lib.hid hpd; have HB3 := Go.Lib.hid hb3; have HX3 := Go.Lib.hid (HX.out.below hb3); have HRX3 := Go.Lib.hid (HRX.out.below hb3); have HO3 := Go.Lib.hid (HO.out.keep hb3); obtain ⟨y0, y1, y2, y3⟩ := HX3.out; obtain ⟨z0, z1, z2, z3⟩ := HRX3.out; have z4 := z2 0; have z5 := z2 1; clear hpd hb3 y2 z2))
      · have hok : ok = false := by have h := ‹(!ok) = true›; simpa using h
        have hpd := HPD.out
        rw [hok] at hpd
        have hnone := pairsD_fail 61 HK.out hpd
        rw [HPS.out] at hnone
        have hbz := HB.out.trans (HB3.out.mono HB.out.size)
        refine bodyPost_ret (v := .tuple #[.agg #[.bool false, .slice none 0 0], .int .i64 4]) (by simp [results, Tryz.results17, go_sem, z0, z1]) rfl ?_
        exact raf_fin (ra_none hnone) (SlF.nil _ _ _) ((hbz.setCell (p := ⟨w.heap.size, 0, none⟩) (Nat.le_refl _) _).setCell (p := ⟨w.heap.size, 1, none⟩) (Nat.le_refl _) _)
      · have hok : ok = true := by have h := ‹(!ok) = false›; simpa using h
        have hpd := HPD.out
        rw [hok] at hpd
        have hz3 := HB3.out.size
        have hz4 := HB4.out.2.2
        have hz1 := HG.out.size
        have b1 : Below w1.heap.size wr (w3.alloc (.cells #[.int .i64 x, .int .i64 y] 57)) := (HB3.out.mono hz1).alloc (by omega) _
        have b2 : Below w1.heap.size wr w4 := (ow_alloc HO3.out _).below_grown b1 hg2.grown
        have b3 : Below w.heap.size wr w4 := b2.mono (by have := HBX.out.lt; omega)
        go_roundw
        case rel =>
          refine ⟨k + 1, acc ++ [(x, y)], .slice A9 n9 c9, by omega, by go_num, HB4.out.1.set1 _, HB4.out.2.1.keep ?_, by rw [List.map_append]; exact ow_set ho2 HBX.out.lt _ (fun _ _ h => h), (HB.out.trans (b3.mono (Nat.le_refl _))).setCell (p := ⟨w.heap.size + 1, 1, none⟩) (by show w.heap.size ≤ w.heap.size + 1; omega) _, ?_, pairs_take HP.out HK.out hpd⟩
          · exact Below.heap_setCell _ _ _ _ (by simp)
          · exact ⟨b2.os.trans HG.out.os, b2.tape.trans HG.out.tape, b2.output.trans HG.out.output, by simp [World.setCell]; omega, fun q hq hne => by
              rw [Below.heap_setCell _ _ _ _ (fun e => hne (by have e' : q = w.heap.size + 1 := (by first | exact e | exact e.symm); rw [e'])), b2.block q hq]; exact HG.out.block q hq hne⟩
        case measure => simp [intOf]; omega
    · have hke : k = PS.length := by omega
      subst hke
      rw [List.take_length] at HP
      rw [HPS.out] at HP
      have hnlt : ¬ (PS.length : Int) < (PS.length : Int) := by omega
      have hbad := fun h => ra_bad (s := s.data.toList) HP.out h
      have hgood := fun h => ra_good (s := s.data.toList) HP.out h
      generalize acc.map sideOf2 = L at HO hbad hgood
      have HCK := Go.Lib.hid (fun w v h => checkAdj_any (Lib.hasPrefix s.data.toList [33]) v L w h)
      have HBAD := Go.Lib.hid hbad
      have HGOOD := Go.Lib.hid hgood
      have hsl := HO.out.sl (by decide)
      obtain ⟨A2, c2, rfl⟩ := hsl.form
      have HSL := Go.Lib.hid hsl
      obtain ⟨x0, x1, x2, x3⟩ := hbx
      clear hsl hal hk hlt hbad hgood hbr x2
      by_cases hc : chkSides L = 0
      · have HR := Go.Lib.hid (HGOOD.out hc)
        rw [hc] at HCK
        clear hc
        go_wp2_with (go_at_call 46; refine (HCK.out _ _ HSL.out).mono ?_; rintro e w3 ⟨rfl, hb3⟩; have HB3 := Go.Lib.hid hb3; obtain ⟨y0, y1, y2, y3⟩ := HX.out.below hb3; obtain ⟨z0, z1, z2, z3⟩ := HRX.out.below hb3; have z4 := z2 0; have z5 := z2 1; clear hb3 y2 z2)
        have hbz := HB.out.trans (HB3.out.mono HB.out.size)
        refine bodyPost_ret (v := .tuple #[.agg #[.bool (Lib.hasPrefix s.data.toList [33]), .slice A2 L.length c2], .int .i64 0]) (by simp [results, Tryz.results17, go_sem, z0, z1]) rfl ?_
        refine raf_fin HR.out ?_ ((hbz.setCell (p := ⟨w.heap.size, 0, none⟩) (Nat.le_refl _) _).setCell (p := ⟨w.heap.size, 1, none⟩) (Nat.le_refl _) _)
        have hob := HO.out.keep HB3.out
        exact (ow_set (ow_set hob HBR.out.lt _ (fun _ _ h => h)) HBR.out.lt _ (fun _ _ h => h)).slG (by decide) (fun _ _ _ _ h => h) |>.mono (by have := HBX.out.lt; omega)
      · have HR := Go.Lib.hid (HBAD.out hc)
        have hcb : (chkSides L == 0) = false := by rw [beq_eq_false_iff_ne]; exact hc
        clear hc
        go_wp2_with (go_at_call 46; refine (HCK.out _ _ HSL.out).mono ?_; rintro e w3 ⟨rfl, hb3⟩; have HB3 := Go.Lib.hid hb3; obtain ⟨y0, y1, y2, y3⟩ := HX.out.below hb3; obtain ⟨z0, z1, z2, z3⟩ := HRX.out.below hb3; have z4 := z2 0; have z5 := z2 1; clear hb3 y2 z2)
        have hbz := HB.out.trans (HB3.out.mono HB.out.size)
        refine bodyPost_ret (v := .tuple #[.agg #[.bool false, .slice none 0 0], .int .i64 (chkSides L)]) (by simp [results, Tryz.results17, go_sem, z0, z1]) rfl ?_
        exact raf_fin HR.out (SlF.nil _ _ _) ((hbz.setCell (p := ⟨w.heap.size, 0, none⟩) (Nat.le_refl _) _).setCell (p := ⟨w.heap.size, 1, none⟩) (Nat.le_refl _) _)

theorem pre_head {s : List UInt8} : Lib.hasPrefix s [33] = decide (s.head? = some 33) := by
  unfold Lib.hasPrefix
  rcases s with _ | ⟨c, r⟩
  · rfl
  · by_cases e : c = 33
    · subst e; simp [List.isPrefixOf]
    · have e2 : ((33 : UInt8) == c) = false := by rw [beq_eq_false_iff_ne]; exact fun h => e h.symm
      have e3 : ¬ (some c = some (33 : UInt8)) := fun h => e (by injection h)
      rw [List.head?_cons, decide_eq_false e3]
      unfold List.isPrefixOf
      rw [e2]; rfl


set_option maxRecDepth 50000 in
set_option maxHeartbeats 2000000 in
theorem adjOf_fr (s : ByteArray) (w : World) (hl : s.size < 4294967281) (hE : Env w) :
    Calls Tryz.prog 124 #[.string s] w fun e w' => RAdjF s.data.toList w e w' := by
  have HE := Go.Lib.hid hE
  clear hE
  have hsz := size_toList s
  rcases hd : Lib.hasPrefix s.data.toList [33] with _ | _
  · have hh : s.data.toList.head? ≠ some 33 := by
      rw [pre_head] at hd; exact of_decide_eq_false hd
    have hT : s.data.toList = Lib.trimPrefix s.data.toList [33] := by unfold Lib.trimPrefix; rw [if_neg (by rw [hd]; simp)]
    have HD := Go.Lib.hid hd
    have HH := Go.Lib.hid hh
    clear hd hh
    by_cases h0 : s.size = 0
    · have h0i : (s.size : Int) = 0 := by omega
      clear hsz
      have HT0 := Go.Lib.hid hT
      have hpl := partsC_len (Lib.trimPrefix s.data.toList [33])
      have htl := trim_len s.data.toList
      rw [size_toList] at htl
      have hts : (s).size ≤ 4294967281 := by rw [← size_toList, hT]; omega
      obtain ⟨hbr0, hbx0, hbw0, hno0⟩ := two_boxesA w false false (.slice none 0 0) (by intro x e; cases e) 53
      have hpc := cuts_any (s) ((w.alloc (.cells #[.bool false, .slice none 0 0] 53)).alloc (.cells #[.bool false, .slice none 0 0] 53)) hts
      rw [hT] at hpc
      have HPC := Go.Lib.hid hpc
      have HBR0 := Go.Lib.hid hbr0
      have HBX0 := Go.Lib.hid hbx0
      have HBW0 := Go.Lib.hid hbw0
      have HNO0 := Go.Lib.hid hno0
      clear hpc hbr0 hbx0 hbw0 hno0 hT
      obtain ⟨PS, hPS⟩ : ∃ PS, PS = partsC (Lib.trimPrefix s.data.toList [33]) := ⟨_, rfl⟩
      have HPS := Go.Lib.hid hPS
      have hpl' : PS.length ≤ s.size + 1 ∧ ∀ x ∈ PS, x.length ≤ s.size := by rw [hPS]; exact ⟨by omega, fun x hx => by have := hpl.2 x hx; omega⟩
      have HPL := Go.Lib.hid hpl'
      have hpn := hpl'.1
      clear hPS hpl hpl' hts htl
      go_enter Tryz.func124, Tryz.ntmps124
      go_wp2_with (go_at_call 100; refine HPC.out.mono ?_; rintro e w1 ⟨⟨v, rfl, hv⟩, hb1⟩; rw [← HPS.out] at hv; have HB1 := Go.Lib.hid (HBW0.out.trans (hb1.mono HBW0.out.size)); have HBR := Go.Lib.hid (HBR0.out.below hb1); have HBX := Go.Lib.hid (HBX0.out.below hb1); rw [← HD.out] at HBX; obtain ⟨A, c, rfl⟩ := hv.form; have HV := Go.Lib.hid (sl_off hv (fun i x => by rw [hb1.cell (p := ⟨w.heap.size + 1, i, none⟩) HBX0.out.lt]; exact HNO0.out i x)); clear hv hb1)
      go_loopw [6] (fun i wr => ∃ (k : Nat) (acc : List (Int × Int)) (o : Value), k ≤ PS.length ∧ i = .int .i64 k ∧ Box wr (w.heap.size + 1) (Lib.hasPrefix s.data.toList [33]) o ∧ Box wr w.heap.size false (.slice none 0 0) ∧ OwR sideR 57 w1.heap.size wr o (acc.map sideOf2) ∧ Below w.heap.size w wr ∧ w1.grownBy wr (some (w.heap.size + 1)) ∧ pairsD 61 (PS.take k) = some acc) (fun i _ => PS.length - (intOf i).toNat)
      case atStart => exact ⟨0, [], _, Nat.zero_le _, rfl, HBX.out, HBR.out, OwR.nil _ _ (Nat.le_refl _), HB1.out, World.grownBy.refl _ _, rfl⟩
      case round =>
        obtain ⟨k, acc, o, hk, rfl, hbx, hbr, ho, hB, hG, hp⟩ := hrel
        have HX := Go.Lib.hid hbx
        have HRX := Go.Lib.hid hbr
        have HO := Go.Lib.hid ho
        have HB := Go.Lib.hid hB
        have HG := Go.Lib.hid hG
        have HP := Go.Lib.hid hp
        have hal := pairsD_len 61 hp
        rw [List.length_take] at hal
        clear ho hB hp hG
        by_cases hlt : k < PS.length
        · have hltm : k < (PS.map bOf).length := by rw [List.length_map]; exact hlt
          have hvr : Sl strR wr (.slice A (PS.map bOf).length c) (PS.map bOf) := SlR.keep HV.out (fun q hq => HG.out.block q hq.1 (fun e => by injection e with e; exact hq.2 e)) (fun q hq => Nat.lt_of_lt_of_le hq.1 HG.out.size)
          obtain ⟨bk, off, rfl, hbk⟩ := hvr.at_ hltm
          have hcell := hvr.strA hltm
          rw [List.getElem_map] at hcell
          have hsz := HPL.out.2 PS[k] (List.getElem_mem hlt)
          have hsm : (bOf PS[k]).size < 4294967281 := by rw [bOf_size]; omega
          have htwo := fun w hE => pairOf_pair (bOf PS[k]) 61 61 rfl w hsm hE
          rw [bOf_list] at htwo
          have HT := Go.Lib.hid htwo
          have HK := Go.Lib.hid (List.getElem?_eq_getElem hlt)
          have HN := Go.Lib.hid (show (acc.map sideOf2).length + 1 ≤ 1000000000000 by rw [List.length_map]; omega)
          have hlti : (k : Int) < (PS.length : Int) := by omega
          obtain ⟨x0, x1, x2, x3⟩ := hbx
          obtain ⟨r0, r1, r2, r3⟩ := hbr
          clear htwo hsz hsm hal hvr x2 r2
          go_wp2_with (first
            | (at_builtin; refine wpList_gen (base := w1.heap.size) elt_sideA rfl (.tmp 44) (.tmp 48) rfl ((HO.out.keep HB3.out).keep ((Below.refl _ _).alloc (Nat.le_refl _) _)) (one_flat (r := sideR) (cs := [.int .i64 x, .int .i64 y]) (x := sideOf2 (x, y)) rfl ⟨rfl, hx, hy⟩) (fun _ _ h => h) rfl rfl HN.out (by decide) ?_; intro v2 w4 ho2 hg2; obtain ⟨A9, n9, c9, rfl⟩ := ow_form ho2 (by decide); have HB4 := Go.Lib.hid (after_app HX3.out HRX3.out HO3.out hg2 HBX.out.lt HBR.out.lt); obtain ⟨⟨y0, y1, y2, y3⟩, ⟨z0, z1, z2, z3⟩, _⟩ := HB4.out; have y4 := y2 1; clear y2 z2)
            | (go_at_call 101; refine (HT.out _ (HE.out.below HB.out)).mono ?_; rintro e w3 ⟨⟨x, y, ok, rfl, hpd, hx, hy⟩, hb3⟩; have HPD := Go.Lib.hid hpd; have HB3 := Go.Lib.hid hb3; have HX3 := Go.Lib.hid (HX.out.below hb3); have HRX3 := Go.Lib.hid (HRX.out.below hb3); have HO3 := Go.Lib.hid (HO.out.keep hb3); obtain ⟨y0, y1, y2, y3⟩ := HX3.out; obtain ⟨z0, z1, z2, z3⟩ := HRX3.out; have z4 := z2 0; have z5 := z2 1; clear hpd hb3 y2 z2))
          · have hok : ok = false := by have h := ‹(!ok) = true›; simpa using h
            have hpd := HPD.out
            rw [hok] at hpd
            have hnone := pairsD_fail 61 HK.out hpd
            rw [HPS.out] at hnone
            have hbz := HB.out.trans (HB3.out.mono HB.out.size)
            refine bodyPost_ret (v := .tuple #[.agg #[.bool false, .slice none 0 0], .int .i64 4]) (by simp [results, Tryz.results124, go_sem, z0, z1]) rfl ?_
            exact raf_fin (ra_none hnone) (SlF.nil _ _ _) ((hbz.setCell (p := ⟨w.heap.size, 0, none⟩) (Nat.le_refl _) _).setCell (p := ⟨w.heap.size, 1, none⟩) (Nat.le_refl _) _)
          · have hok : ok = true := by have h := ‹(!ok) = false›; simpa using h
            have hpd := HPD.out
            rw [hok] at hpd
            have hz3 := HB3.out.size
            have hz4 := HB4.out.2.2
            have hz1 := HG.out.size
            have b1 : Below w1.heap.size wr (w3.alloc (.cells #[.int .i64 x, .int .i64 y] 57)) := (HB3.out.mono hz1).alloc (by omega) _
            have b2 : Below w1.heap.size wr w4 := (ow_alloc HO3.out _).below_grown b1 hg2.grown
            have b3 : Below w.heap.size wr w4 := b2.mono (by have := HBX.out.lt; omega)
            go_roundw
            case rel =>
              refine ⟨k + 1, acc ++ [(x, y)], .slice A9 n9 c9, by omega, by go_num, HB4.out.1.set1 _, HB4.out.2.1.keep ?_, by rw [List.map_append]; exact ow_set ho2 HBX.out.lt _ (fun _ _ h => h), (HB.out.trans (b3.mono (Nat.le_refl _))).setCell (p := ⟨w.heap.size + 1, 1, none⟩) (by show w.heap.size ≤ w.heap.size + 1; omega) _, ?_, pairs_take HP.out HK.out hpd⟩
              · exact Below.heap_setCell _ _ _ _ (by simp)
              · exact ⟨b2.os.trans HG.out.os, b2.tape.trans HG.out.tape, b2.output.trans HG.out.output, by simp [World.setCell]; omega, fun q hq hne => by
                  rw [Below.heap_setCell _ _ _ _ (fun e => hne (by have e' : q = w.heap.size + 1 := (by first | exact e | exact e.symm); rw [e'])), b2.block q hq]; exact HG.out.block q hq hne⟩
            case measure => simp [intOf]; omega
        · have hke : k = PS.length := by omega
          subst hke
          rw [List.take_length] at HP
          rw [HPS.out] at HP
          have hnlt : ¬ (PS.length : Int) < (PS.length : Int) := by omega
          have hbad := fun h => ra_bad (s := s.data.toList) HP.out h
          have hgood := fun h => ra_good (s := s.data.toList) HP.out h
          generalize acc.map sideOf2 = L at HO hbad hgood
          have HCK := Go.Lib.hid (fun w v h => adjFault_any (Lib.hasPrefix s.data.toList [33]) v L w h)
          have HBAD := Go.Lib.hid hbad
          have HGOOD := Go.Lib.hid hgood
          have hsl := HO.out.sl (by decide)
          obtain ⟨A2, c2, rfl⟩ := hsl.form
          have HSL := Go.Lib.hid hsl
          obtain ⟨x0, x1, x2, x3⟩ := hbx
          clear hsl hal hk hlt hbad hgood hbr x2
          by_cases hc : chkSides L = 0
          · have HR := Go.Lib.hid (HGOOD.out hc)
            rw [hc] at HCK
            clear hc
            go_wp2_with (go_at_call 161; refine (HCK.out _ _ HSL.out).mono ?_; rintro e w3 ⟨rfl, hb3⟩; have HB3 := Go.Lib.hid hb3; obtain ⟨y0, y1, y2, y3⟩ := HX.out.below hb3; obtain ⟨z0, z1, z2, z3⟩ := HRX.out.below hb3; have z4 := z2 0; have z5 := z2 1; clear hb3 y2 z2)
            have hbz := HB.out.trans (HB3.out.mono HB.out.size)
            refine bodyPost_ret (v := .tuple #[.agg #[.bool (Lib.hasPrefix s.data.toList [33]), .slice A2 L.length c2], .int .i64 0]) (by simp [results, Tryz.results124, go_sem, z0, z1]) rfl ?_
            refine raf_fin HR.out ?_ ((hbz.setCell (p := ⟨w.heap.size, 0, none⟩) (Nat.le_refl _) _).setCell (p := ⟨w.heap.size, 1, none⟩) (Nat.le_refl _) _)
            have hob := HO.out.keep HB3.out
            exact (ow_set (ow_set hob HBR.out.lt _ (fun _ _ h => h)) HBR.out.lt _ (fun _ _ h => h)).slG (by decide) (fun _ _ _ _ h => h) |>.mono (by have := HBX.out.lt; omega)
          · have HR := Go.Lib.hid (HBAD.out hc)
            have hcb : (chkSides L == 0) = false := by rw [beq_eq_false_iff_ne]; exact hc
            clear hc
            go_wp2_with (go_at_call 161; refine (HCK.out _ _ HSL.out).mono ?_; rintro e w3 ⟨rfl, hb3⟩; have HB3 := Go.Lib.hid hb3; obtain ⟨y0, y1, y2, y3⟩ := HX.out.below hb3; obtain ⟨z0, z1, z2, z3⟩ := HRX.out.below hb3; have z4 := z2 0; have z5 := z2 1; clear hb3 y2 z2)
            have hbz := HB.out.trans (HB3.out.mono HB.out.size)
            refine bodyPost_ret (v := .tuple #[.agg #[.bool false, .slice none 0 0], .int .i64 (chkSides L)]) (by simp [results, Tryz.results124, go_sem, z0, z1]) rfl ?_
            exact raf_fin HR.out (SlF.nil _ _ _) ((hbz.setCell (p := ⟨w.heap.size, 0, none⟩) (Nat.le_refl _) _).setCell (p := ⟨w.heap.size, 1, none⟩) (Nat.le_refl _) _)
    · have h0i : (0 : Int) < (s.size : Int) := by omega
      have hpos : 0 < s.size := by omega
      have hgd : ((s[0].toNat : Int) == 33) = false := by
        rw [beq_eq_false_iff_ne]; intro e
        apply HH.out
        rw [List.head?_eq_getElem?, List.getElem?_eq_getElem (by omega)]
        show some s[0] = some 33
        congr 1
        exact UInt8.toNat_inj.1 (by have : (33 : UInt8).toNat = 33 := rfl; omega)
      clear hsz
      have HT0 := Go.Lib.hid hT
      have hpl := partsC_len (Lib.trimPrefix s.data.toList [33])
      have htl := trim_len s.data.toList
      rw [size_toList] at htl
      have hts : (s).size ≤ 4294967281 := by rw [← size_toList, hT]; omega
      obtain ⟨hbr0, hbx0, hbw0, hno0⟩ := two_boxesA w false false (.slice none 0 0) (by intro x e; cases e) 53
      have hpc := cuts_any (s) ((w.alloc (.cells #[.bool false, .slice none 0 0] 53)).alloc (.cells #[.bool false, .slice none 0 0] 53)) hts
      rw [hT] at hpc
      have HPC := Go.Lib.hid hpc
      have HBR0 := Go.Lib.hid hbr0
      have HBX0 := Go.Lib.hid hbx0
      have HBW0 := Go.Lib.hid hbw0
      have HNO0 := Go.Lib.hid hno0
      clear hpc hbr0 hbx0 hbw0 hno0 hT
      obtain ⟨PS, hPS⟩ : ∃ PS, PS = partsC (Lib.trimPrefix s.data.toList [33]) := ⟨_, rfl⟩
      have HPS := Go.Lib.hid hPS
      have hpl' : PS.length ≤ s.size + 1 ∧ ∀ x ∈ PS, x.length ≤ s.size := by rw [hPS]; exact ⟨by omega, fun x hx => by have := hpl.2 x hx; omega⟩
      have HPL := Go.Lib.hid hpl'
      have hpn := hpl'.1
      clear hPS hpl hpl' hts htl
      go_enter Tryz.func124, Tryz.ntmps124
      go_wp2_with (go_at_call 100; refine HPC.out.mono ?_; rintro e w1 ⟨⟨v, rfl, hv⟩, hb1⟩; rw [← HPS.out] at hv; have HB1 := Go.Lib.hid (HBW0.out.trans (hb1.mono HBW0.out.size)); have HBR := Go.Lib.hid (HBR0.out.below hb1); have HBX := Go.Lib.hid (HBX0.out.below hb1); rw [← HD.out] at HBX; obtain ⟨A, c, rfl⟩ := hv.form; have HV := Go.Lib.hid (sl_off hv (fun i x => by rw [hb1.cell (p := ⟨w.heap.size + 1, i, none⟩) HBX0.out.lt]; exact HNO0.out i x)); clear hv hb1)
      go_loopw [6] (fun i wr => ∃ (k : Nat) (acc : List (Int × Int)) (o : Value), k ≤ PS.length ∧ i = .int .i64 k ∧ Box wr (w.heap.size + 1) (Lib.hasPrefix s.data.toList [33]) o ∧ Box wr w.heap.size false (.slice none 0 0) ∧ OwR sideR 57 w1.heap.size wr o (acc.map sideOf2) ∧ Below w.heap.size w wr ∧ w1.grownBy wr (some (w.heap.size + 1)) ∧ pairsD 61 (PS.take k) = some acc) (fun i _ => PS.length - (intOf i).toNat)
      case atStart => exact ⟨0, [], _, Nat.zero_le _, rfl, HBX.out, HBR.out, OwR.nil _ _ (Nat.le_refl _), HB1.out, World.grownBy.refl _ _, rfl⟩
      case round =>
        obtain ⟨k, acc, o, hk, rfl, hbx, hbr, ho, hB, hG, hp⟩ := hrel
        have HX := Go.Lib.hid hbx
        have HRX := Go.Lib.hid hbr
        have HO := Go.Lib.hid ho
        have HB := Go.Lib.hid hB
        have HG := Go.Lib.hid hG
        have HP := Go.Lib.hid hp
        have hal := pairsD_len 61 hp
        rw [List.length_take] at hal
        clear ho hB hp hG
        by_cases hlt : k < PS.length
        · have hltm : k < (PS.map bOf).length := by rw [List.length_map]; exact hlt
          have hvr : Sl strR wr (.slice A (PS.map bOf).length c) (PS.map bOf) := SlR.keep HV.out (fun q hq => HG.out.block q hq.1 (fun e => by injection e with e; exact hq.2 e)) (fun q hq => Nat.lt_of_lt_of_le hq.1 HG.out.size)
          obtain ⟨bk, off, rfl, hbk⟩ := hvr.at_ hltm
          have hcell := hvr.strA hltm
          rw [List.getElem_map] at hcell
          have hsz := HPL.out.2 PS[k] (List.getElem_mem hlt)
          have hsm : (bOf PS[k]).size < 4294967281 := by rw [bOf_size]; omega
          have htwo := fun w hE => pairOf_pair (bOf PS[k]) 61 61 rfl w hsm hE
          rw [bOf_list] at htwo
          have HT := Go.Lib.hid htwo
          have HK := Go.Lib.hid (List.getElem?_eq_getElem hlt)
          have HN := Go.Lib.hid (show (acc.map sideOf2).length + 1 ≤ 1000000000000 by rw [List.length_map]; omega)
          have hlti : (k : Int) < (PS.length : Int) := by omega
          obtain ⟨x0, x1, x2, x3⟩ := hbx
          obtain ⟨r0, r1, r2, r3⟩ := hbr
          clear htwo hsz hsm hal hvr x2 r2
          go_wp2_with (first
            | (at_builtin; refine wpList_gen (base := w1.heap.size) elt_sideA rfl (.tmp 44) (.tmp 48) rfl ((HO.out.keep HB3.out).keep ((Below.refl _ _).alloc (Nat.le_refl _) _)) (one_flat (r := sideR) (cs := [.int .i64 x, .int .i64 y]) (x := sideOf2 (x, y)) rfl ⟨rfl, hx, hy⟩) (fun _ _ h => h) rfl rfl HN.out (by decide) ?_; intro v2 w4 ho2 hg2; obtain ⟨A9, n9, c9, rfl⟩ := ow_form ho2 (by decide); have HB4 := Go.Lib.hid (after_app HX3.out HRX3.out HO3.out hg2 HBX.out.lt HBR.out.lt); obtain ⟨⟨y0, y1, y2, y3⟩, ⟨z0, z1, z2, z3⟩, _⟩ := HB4.out; have y4 := y2 1; clear y2 z2)
            | (go_at_call 101; refine (HT.out _ (HE.out.below HB.out)).mono ?_; rintro e w3 ⟨⟨x, y, ok, rfl, hpd, hx, hy⟩, hb3⟩; have HPD := Go.Lib.hid hpd; have HB3 := Go.Lib.hid hb3; have HX3 := Go.Lib.hid (HX.out.below hb3); have HRX3 := Go.Lib.hid (HRX.out.below hb3); have HO3 := Go.Lib.hid (HO.out.keep hb3); obtain ⟨y0, y1, y2, y3⟩ := HX3.out; obtain ⟨z0, z1, z2, z3⟩ := HRX3.out; have z4 := z2 0; have z5 := z2 1; clear hpd hb3 y2 z2))
          · have hok : ok = false := by have h := ‹(!ok) = true›; simpa using h
            have hpd := HPD.out
            rw [hok] at hpd
            have hnone := pairsD_fail 61 HK.out hpd
            rw [HPS.out] at hnone
            have hbz := HB.out.trans (HB3.out.mono HB.out.size)
            refine bodyPost_ret (v := .tuple #[.agg #[.bool false, .slice none 0 0], .int .i64 4]) (by simp [results, Tryz.results124, go_sem, z0, z1]) rfl ?_
            exact raf_fin (ra_none hnone) (SlF.nil _ _ _) ((hbz.setCell (p := ⟨w.heap.size, 0, none⟩) (Nat.le_refl _) _).setCell (p := ⟨w.heap.size, 1, none⟩) (Nat.le_refl _) _)
          · have hok : ok = true := by have h := ‹(!ok) = false›; simpa using h
            have hpd := HPD.out
            rw [hok] at hpd
            have hz3 := HB3.out.size
            have hz4 := HB4.out.2.2
            have hz1 := HG.out.size
            have b1 : Below w1.heap.size wr (w3.alloc (.cells #[.int .i64 x, .int .i64 y] 57)) := (HB3.out.mono hz1).alloc (by omega) _
            have b2 : Below w1.heap.size wr w4 := (ow_alloc HO3.out _).below_grown b1 hg2.grown
            have b3 : Below w.heap.size wr w4 := b2.mono (by have := HBX.out.lt; omega)
            go_roundw
            case rel =>
              refine ⟨k + 1, acc ++ [(x, y)], .slice A9 n9 c9, by omega, by go_num, HB4.out.1.set1 _, HB4.out.2.1.keep ?_, by rw [List.map_append]; exact ow_set ho2 HBX.out.lt _ (fun _ _ h => h), (HB.out.trans (b3.mono (Nat.le_refl _))).setCell (p := ⟨w.heap.size + 1, 1, none⟩) (by show w.heap.size ≤ w.heap.size + 1; omega) _, ?_, pairs_take HP.out HK.out hpd⟩
              · exact Below.heap_setCell _ _ _ _ (by simp)
              · exact ⟨b2.os.trans HG.out.os, b2.tape.trans HG.out.tape, b2.output.trans HG.out.output, by simp [World.setCell]; omega, fun q hq hne => by
                  rw [Below.heap_setCell _ _ _ _ (fun e => hne (by have e' : q = w.heap.size + 1 := (by first | exact e | exact e.symm); rw [e'])), b2.block q hq]; exact HG.out.block q hq hne⟩
            case measure => simp [intOf]; omega
        · have hke : k = PS.length := by omega
          subst hke
          rw [List.take_length] at HP
          rw [HPS.out] at HP
          have hnlt : ¬ (PS.length : Int) < (PS.length : Int) := by omega
          have hbad := fun h => ra_bad (s := s.data.toList) HP.out h
          have hgood := fun h => ra_good (s := s.data.toList) HP.out h
          generalize acc.map sideOf2 = L at HO hbad hgood
          have HCK := Go.Lib.hid (fun w v h => adjFault_any (Lib.hasPrefix s.data.toList [33]) v L w h)
          have HBAD := Go.Lib.hid hbad
          have HGOOD := Go.Lib.hid hgood
          have hsl := HO.out.sl (by decide)
          obtain ⟨A2, c2, rfl⟩ := hsl.form
          have HSL := Go.Lib.hid hsl
          obtain ⟨x0, x1, x2, x3⟩ := hbx
          clear hsl hal hk hlt hbad hgood hbr x2
          by_cases hc : chkSides L = 0
          · have HR := Go.Lib.hid (HGOOD.out hc)
            rw [hc] at HCK
            clear hc
            go_wp2_with (go_at_call 161; refine (HCK.out _ _ HSL.out).mono ?_; rintro e w3 ⟨rfl, hb3⟩; have HB3 := Go.Lib.hid hb3; obtain ⟨y0, y1, y2, y3⟩ := HX.out.below hb3; obtain ⟨z0, z1, z2, z3⟩ := HRX.out.below hb3; have z4 := z2 0; have z5 := z2 1; clear hb3 y2 z2)
            have hbz := HB.out.trans (HB3.out.mono HB.out.size)
            refine bodyPost_ret (v := .tuple #[.agg #[.bool (Lib.hasPrefix s.data.toList [33]), .slice A2 L.length c2], .int .i64 0]) (by simp [results, Tryz.results124, go_sem, z0, z1]) rfl ?_
            refine raf_fin HR.out ?_ ((hbz.setCell (p := ⟨w.heap.size, 0, none⟩) (Nat.le_refl _) _).setCell (p := ⟨w.heap.size, 1, none⟩) (Nat.le_refl _) _)
            have hob := HO.out.keep HB3.out
            exact (ow_set (ow_set hob HBR.out.lt _ (fun _ _ h => h)) HBR.out.lt _ (fun _ _ h => h)).slG (by decide) (fun _ _ _ _ h => h) |>.mono (by have := HBX.out.lt; omega)
          · have HR := Go.Lib.hid (HBAD.out hc)
            have hcb : (chkSides L == 0) = false := by rw [beq_eq_false_iff_ne]; exact hc
            clear hc
            go_wp2_with (go_at_call 161; refine (HCK.out _ _ HSL.out).mono ?_; rintro e w3 ⟨rfl, hb3⟩; have HB3 := Go.Lib.hid hb3; obtain ⟨y0, y1, y2, y3⟩ := HX.out.below hb3; obtain ⟨z0, z1, z2, z3⟩ := HRX.out.below hb3; have z4 := z2 0; have z5 := z2 1; clear hb3 y2 z2)
            have hbz := HB.out.trans (HB3.out.mono HB.out.size)
            refine bodyPost_ret (v := .tuple #[.agg #[.bool false, .slice none 0 0], .int .i64 (chkSides L)]) (by simp [results, Tryz.results124, go_sem, z0, z1]) rfl ?_
            exact raf_fin HR.out (SlF.nil _ _ _) ((hbz.setCell (p := ⟨w.heap.size, 0, none⟩) (Nat.le_refl _) _).setCell (p := ⟨w.heap.size, 1, none⟩) (Nat.le_refl _) _)
  · have hh : s.data.toList.head? = some 33 := by
      rw [pre_head] at hd; exact of_decide_eq_true hd
    have hT : (s.extract 1 s.size).data.toList = Lib.trimPrefix s.data.toList [33] := by unfold Lib.trimPrefix; rw [if_pos hd, Lib.extract_to_end]; rfl
    have HD := Go.Lib.hid hd
    have hpos : 0 < s.size := by
      rcases Nat.eq_zero_or_pos s.size with h0 | h0
      · have := (nil_iff s).1 h0
        rw [this] at hh; cases hh
      · exact h0
    have h0i : (0 : Int) < (s.size : Int) := by omega
    have h1i : (1 : Int) ≤ (s.size : Int) := by omega
    have hgd : ((s[0].toNat : Int) == 33) = true := by
      have : s[0] = 33 := by
        rw [List.head?_eq_getElem?, List.getElem?_eq_getElem (by omega)] at hh
        injection hh
      rw [this]; rfl
    clear hd hh hsz
    have HT0 := Go.Lib.hid hT
    have hpl := partsC_len (Lib.trimPrefix s.data.toList [33])
    have htl := trim_len s.data.toList
    rw [size_toList] at htl
    have hts : (s.extract 1 s.size).size ≤ 4294967281 := by rw [← size_toList, hT]; omega
    obtain ⟨hbr0, hbx0, hbw0, hno0⟩ := two_boxesA w false true (.slice none 0 0) (by intro x e; cases e) 53
    have hpc := cuts_any (s.extract 1 s.size) ((w.alloc (.cells #[.bool false, .slice none 0 0] 53)).alloc (.cells #[.bool true, .slice none 0 0] 53)) hts
    rw [hT] at hpc
    have HPC := Go.Lib.hid hpc
    have HBR0 := Go.Lib.hid hbr0
    have HBX0 := Go.Lib.hid hbx0
    have HBW0 := Go.Lib.hid hbw0
    have HNO0 := Go.Lib.hid hno0
    clear hpc hbr0 hbx0 hbw0 hno0 hT
    obtain ⟨PS, hPS⟩ : ∃ PS, PS = partsC (Lib.trimPrefix s.data.toList [33]) := ⟨_, rfl⟩
    have HPS := Go.Lib.hid hPS
    have hpl' : PS.length ≤ s.size + 1 ∧ ∀ x ∈ PS, x.length ≤ s.size := by rw [hPS]; exact ⟨by omega, fun x hx => by have := hpl.2 x hx; omega⟩
    have HPL := Go.Lib.hid hpl'
    have hpn := hpl'.1
    clear hPS hpl hpl' hts htl
    go_enter Tryz.func124, Tryz.ntmps124
    go_wp2_with (go_at_call 100; refine HPC.out.mono ?_; rintro e w1 ⟨⟨v, rfl, hv⟩, hb1⟩; rw [← HPS.out] at hv; have HB1 := Go.Lib.hid (HBW0.out.trans (hb1.mono HBW0.out.size)); have HBR := Go.Lib.hid (HBR0.out.below hb1); have HBX := Go.Lib.hid (HBX0.out.below hb1); rw [← HD.out] at HBX; obtain ⟨A, c, rfl⟩ := hv.form; have HV := Go.Lib.hid (sl_off hv (fun i x => by rw [hb1.cell (p := ⟨w.heap.size + 1, i, none⟩) HBX0.out.lt]; exact HNO0.out i x)); clear hv hb1)
    go_loopw [6] (fun i wr => ∃ (k : Nat) (acc : List (Int × Int)) (o : Value), k ≤ PS.length ∧ i = .int .i64 k ∧ Box wr (w.heap.size + 1) (Lib.hasPrefix s.data.toList [33]) o ∧ Box wr w.heap.size false (.slice none 0 0) ∧ OwR sideR 57 w1.heap.size wr o (acc.map sideOf2) ∧ Below w.heap.size w wr ∧ w1.grownBy wr (some (w.heap.size + 1)) ∧ pairsD 61 (PS.take k) = some acc) (fun i _ => PS.length - (intOf i).toNat)
    case atStart => exact ⟨0, [], _, Nat.zero_le _, rfl, HBX.out, HBR.out, OwR.nil _ _ (Nat.le_refl _), HB1.out, World.grownBy.refl _ _, rfl⟩
    case round =>
      obtain ⟨k, acc, o, hk, rfl, hbx, hbr, ho, hB, hG, hp⟩ := hrel
      have HX := Go.Lib.hid hbx
      have HRX := Go.Lib.hid hbr
      have HO := Go.Lib.hid ho
      have HB := Go.Lib.hid hB
      have HG := Go.Lib.hid hG
      have HP := Go.Lib.hid hp
      have hal := pairsD_len 61 hp
      rw [List.length_take] at hal
      clear ho hB hp hG
      by_cases hlt : k < PS.length
      · have hltm : k < (PS.map bOf).length := by rw [List.length_map]; exact hlt
        have hvr : Sl strR wr (.slice A (PS.map bOf).length c) (PS.map bOf) := SlR.keep HV.out (fun q hq => HG.out.block q hq.1 (fun e => by injection e with e; exact hq.2 e)) (fun q hq => Nat.lt_of_lt_of_le hq.1 HG.out.size)
        obtain ⟨bk, off, rfl, hbk⟩ := hvr.at_ hltm
        have hcell := hvr.strA hltm
        rw [List.getElem_map] at hcell
        have hsz := HPL.out.2 PS[k] (List.getElem_mem hlt)
        have hsm : (bOf PS[k]).size < 4294967281 := by rw [bOf_size]; omega
        have htwo := fun w hE => pairOf_pair (bOf PS[k]) 61 61 rfl w hsm hE
        rw [bOf_list] at htwo
        have HT := Go.Lib.hid htwo
        have HK := Go.Lib.hid (List.getElem?_eq_getElem hlt)
        have HN := Go.Lib.hid (show (acc.map sideOf2).length + 1 ≤ 1000000000000 by rw [List.length_map]; omega)
        have hlti : (k : Int) < (PS.length : Int) := by omega
        obtain ⟨x0, x1, x2, x3⟩ := hbx
        obtain ⟨r0, r1, r2, r3⟩ := hbr
        clear htwo hsz hsm hal hvr x2 r2
        go_wp2_with (first
          | (at_builtin; refine wpList_gen (base := w1.heap.size) elt_sideA rfl (.tmp 44) (.tmp 48) rfl ((HO.out.keep HB3.out).keep ((Below.refl _ _).alloc (Nat.le_refl _) _)) (one_flat (r := sideR) (cs := [.int .i64 x, .int .i64 y]) (x := sideOf2 (x, y)) rfl ⟨rfl, hx, hy⟩) (fun _ _ h => h) rfl rfl HN.out (by decide) ?_; intro v2 w4 ho2 hg2; obtain ⟨A9, n9, c9, rfl⟩ := ow_form ho2 (by decide); have HB4 := Go.Lib.hid (after_app HX3.out HRX3.out HO3.out hg2 HBX.out.lt HBR.out.lt); obtain ⟨⟨y0, y1, y2, y3⟩, ⟨z0, z1, z2, z3⟩, _⟩ := HB4.out; have y4 := y2 1; clear y2 z2)
          | (go_at_call 101; refine (HT.out _ (HE.out.below HB.out)).mono ?_; rintro e w3 ⟨⟨x, y, ok, rfl, hpd, hx, hy⟩, hb3⟩; have HPD := Go.Lib.hid hpd; have HB3 := Go.Lib.hid hb3; have HX3 := Go.Lib.hid (HX.out.below hb3); have HRX3 := Go.Lib.hid (HRX.out.below hb3); have HO3 := Go.Lib.hid (HO.out.keep hb3); obtain ⟨y0, y1, y2, y3⟩ := HX3.out; obtain ⟨z0, z1, z2, z3⟩ := HRX3.out; have z4 := z2 0; have z5 := z2 1; clear hpd hb3 y2 z2))
        · have hok : ok = false := by have h := ‹(!ok) = true›; simpa using h
          have hpd := HPD.out
          rw [hok] at hpd
          have hnone := pairsD_fail 61 HK.out hpd
          rw [HPS.out] at hnone
          have hbz := HB.out.trans (HB3.out.mono HB.out.size)
          refine bodyPost_ret (v := .tuple #[.agg #[.bool false, .slice none 0 0], .int .i64 4]) (by simp [results, Tryz.results124, go_sem, z0, z1]) rfl ?_
          exact raf_fin (ra_none hnone) (SlF.nil _ _ _) ((hbz.setCell (p := ⟨w.heap.size, 0, none⟩) (Nat.le_refl _) _).setCell (p := ⟨w.heap.size, 1, none⟩) (Nat.le_refl _) _)
        · have hok : ok = true := by have h := ‹(!ok) = false›; simpa using h
          have hpd := HPD.out
          rw [hok] at hpd
          have hz3 := HB3.out.size
          have hz4 := HB4.out.2.2
          have hz1 := HG.out.size
          have b1 : Below w1.heap.size wr (w3.alloc (.cells #[.int .i64 x, .int .i64 y] 57)) := (HB3.out.mono hz1).alloc (by omega) _
          have b2 : Below w1.heap.size wr w4 := (ow_alloc HO3.out _).below_grown b1 hg2.grown
          have b3 : Below w.heap.size wr w4 := b2.mono (by have := HBX.out.lt; omega)
          go_roundw
          case rel =>
            refine ⟨k + 1, acc ++ [(x, y)], .slice A9 n9 c9, by omega, by go_num, HB4.out.1.set1 _, HB4.out.2.1.keep ?_, by rw [List.map_append]; exact ow_set ho2 HBX.out.lt _ (fun _ _ h => h), (HB.out.trans (b3.mono (Nat.le_refl _))).setCell (p := ⟨w.heap.size + 1, 1, none⟩) (by show w.heap.size ≤ w.heap.size + 1; omega) _, ?_, pairs_take HP.out HK.out hpd⟩
            · exact Below.heap_setCell _ _ _ _ (by simp)
            · exact ⟨b2.os.trans HG.out.os, b2.tape.trans HG.out.tape, b2.output.trans HG.out.output, by simp [World.setCell]; omega, fun q hq hne => by
                rw [Below.heap_setCell _ _ _ _ (fun e => hne (by have e' : q = w.heap.size + 1 := (by first | exact e | exact e.symm); rw [e'])), b2.block q hq]; exact HG.out.block q hq hne⟩
          case measure => simp [intOf]; omega
      · have hke : k = PS.length := by omega
        subst hke
        rw [List.take_length] at HP
        rw [HPS.out] at HP
        have hnlt : ¬ (PS.length : Int) < (PS.length : Int) := by omega
        have hbad := fun h => ra_bad (s := s.data.toList) HP.out h
        have hgood := fun h => ra_good (s := s.data.toList) HP.out h
        generalize acc.map sideOf2 = L at HO hbad hgood
        have HCK := Go.Lib.hid (fun w v h => adjFault_any (Lib.hasPrefix s.data.toList [33]) v L w h)
        have HBAD := Go.Lib.hid hbad
        have HGOOD := Go.Lib.hid hgood
        have hsl := HO.out.sl (by decide)
        obtain ⟨A2, c2, rfl⟩ := hsl.form
        have HSL := Go.Lib.hid hsl
        obtain ⟨x0, x1, x2, x3⟩ := hbx
        clear hsl hal hk hlt hbad hgood hbr x2
        by_cases hc : chkSides L = 0
        · have HR := Go.Lib.hid (HGOOD.out hc)
          rw [hc] at HCK
          clear hc
          go_wp2_with (go_at_call 161; refine (HCK.out _ _ HSL.out).mono ?_; rintro e w3 ⟨rfl, hb3⟩; have HB3 := Go.Lib.hid hb3; obtain ⟨y0, y1, y2, y3⟩ := HX.out.below hb3; obtain ⟨z0, z1, z2, z3⟩ := HRX.out.below hb3; have z4 := z2 0; have z5 := z2 1; clear hb3 y2 z2)
          have hbz := HB.out.trans (HB3.out.mono HB.out.size)
          refine bodyPost_ret (v := .tuple #[.agg #[.bool (Lib.hasPrefix s.data.toList [33]), .slice A2 L.length c2], .int .i64 0]) (by simp [results, Tryz.results124, go_sem, z0, z1]) rfl ?_
          refine raf_fin HR.out ?_ ((hbz.setCell (p := ⟨w.heap.size, 0, none⟩) (Nat.le_refl _) _).setCell (p := ⟨w.heap.size, 1, none⟩) (Nat.le_refl _) _)
          have hob := HO.out.keep HB3.out
          exact (ow_set (ow_set hob HBR.out.lt _ (fun _ _ h => h)) HBR.out.lt _ (fun _ _ h => h)).slG (by decide) (fun _ _ _ _ h => h) |>.mono (by have := HBX.out.lt; omega)
        · have HR := Go.Lib.hid (HBAD.out hc)
          have hcb : (chkSides L == 0) = false := by rw [beq_eq_false_iff_ne]; exact hc
          clear hc
          go_wp2_with (go_at_call 161; refine (HCK.out _ _ HSL.out).mono ?_; rintro e w3 ⟨rfl, hb3⟩; have HB3 := Go.Lib.hid hb3; obtain ⟨y0, y1, y2, y3⟩ := HX.out.below hb3; obtain ⟨z0, z1, z2, z3⟩ := HRX.out.below hb3; have z4 := z2 0; have z5 := z2 1; clear hb3 y2 z2)
          have hbz := HB.out.trans (HB3.out.mono HB.out.size)
          refine bodyPost_ret (v := .tuple #[.agg #[.bool false, .slice none 0 0], .int .i64 (chkSides L)]) (by simp [results, Tryz.results124, go_sem, z0, z1]) rfl ?_
          exact raf_fin HR.out (SlF.nil _ _ _) ((hbz.setCell (p := ⟨w.heap.size, 0, none⟩) (Nat.le_refl _) _).setCell (p := ⟨w.heap.size, 1, none⟩) (Nat.le_refl _) _)
theorem readAdj_any (s : ByteArray) (w : World) (hl : s.size < 4294967281) (hE : Env w) :
    Calls Tryz.prog 17 #[.string s] w fun e w' => RAdj s.data.toList w e w' := (readAdj_fr s w hl hE).mono fun _ _ h => raf_any h
theorem adjOf_any (s : ByteArray) (w : World) (hl : s.size < 4294967281) (hE : Env w) :
    Calls Tryz.prog 124 #[.string s] w fun e w' => RAdj s.data.toList w e w' := (adjOf_fr s w hl hE).mono fun _ _ h => raf_any h
end Go.Proofs.YtcbkimbeljhbhaaGreatDoor
