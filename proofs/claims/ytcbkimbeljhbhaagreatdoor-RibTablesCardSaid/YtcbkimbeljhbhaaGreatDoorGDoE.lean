/-
  The document's cutting of texts: pairOf, cuts, walked.
  Reading the text of prefixes: ReadPrefixes and PrefixesOf, walked.
  samePrefixes, sameAdj at what is the same.
-/
import Derived.Test.YtcbkimbeljhbhaaGreatDoorGDoB
import Derived.Laws.StructEq
set_option linter.unusedVariables false
set_option linter.unusedSimpArgs false
namespace Go.Proofs.YtcbkimbeljhbhaaGreatDoor
open Go Go.RowKit

/-- two numbers of a text, or none -/
def Pair2 (b : UInt8) (s : List UInt8) (e : Ending) : Prop := ∃ x y ok, e = .returned (.tuple #[.int .i64 x, .int .i64 y, .bool ok]) ∧ (pairD b s = if ok = true then some (x, y) else none) ∧ inR x ∧ inR y
theorem num_inR (s : List UInt8) : inR (numD 100000 s) := by have := num_le 100000 (by omega) s; unfold inR; omega
theorem two_pair (s : ByteArray) (b : UInt8) (w : World) (hs : s.size < 4294967281) (hE : Env w) :
    Calls Tryz.prog 45 #[.string s, .string ⟨#[b]⟩, .int .i64 100000] w fun e w' => Pair2 b s.data.toList e ∧ Below w.heap.size w w' :=
  (two_any s b 100000 w hs (by unfold inR; omega) hE).mono fun e w' ⟨he, hb⟩ => ⟨⟨_, _, _, he, by
    unfold pairD
    simp only [Bool.and_eq_true, decide_eq_true_eq], num_inR _, num_inR _⟩, hb⟩

set_option maxRecDepth 50000 in
set_option maxHeartbeats 1000000 in
theorem pairOf_any (s : ByteArray) (b : UInt8) (w : World) (hl : s.size ≤ 4294967281) :
    Calls Tryz.prog 101 #[.string s, .int .u8 b.toNat] w fun e w' => Pair2 b s.data.toList e ∧ w = w' := by
  have hsz := size_toList s
  go_enter Tryz.func101, Tryz.ntmps101
  go_wp2_with fail
  have HSZ := Go.Lib.hid hsz
  clear hsz
  go_loop [7] (fun i => ∃ k : Nat, k ≤ s.size ∧ i = .int .i64 k ∧ b ∉ s.data.toList.take k) (fun i => s.size - (intOf i).toNat)
  case atStart => exact ⟨0, Nat.zero_le _, rfl, by simp⟩
  case round =>
    obtain ⟨k, hk, rfl, hno⟩ := hrel
    have HNO := Go.Lib.hid hno
    clear hno
    by_cases hlt : k < s.size
    · have hl' : k < s.data.toList.length := by rw [HSZ.out]; exact hlt
      have hx : ∀ h : k < s.data.toList.length, s.data.toList[k]'h = s[k] := fun _ => rfl
      have HX := Go.Lib.hid hx
      clear hx
      by_cases hb : s[k] = b
      · have hcut : cutB b s.data.toList = (s.data.toList.take k, s.data.toList.drop (k + 1), true) := by
          have h1 : s.data.toList = s.data.toList.take k ++ b :: s.data.toList.drop (k + 1) := by
            rw [← hb, ← HX.out hl', List.getElem_cons_drop, List.take_append_drop]
          conv => lhs; rw [h1]
          exact cutB_at _ HNO.out
        have n1 := fun w => numOf_any (s.extract 0 k) w (by rw [Lib.size_eq, Lib.extract_from_zero, List.length_take, HSZ.out]; omega)
        have n2 := fun w => numOf_any (s.extract (k + 1) s.size) w (by rw [Lib.size_eq, Lib.extract_to_end, List.length_drop, HSZ.out]; omega)
        rw [Lib.extract_from_zero, num_ref] at n1
        rw [Lib.extract_to_end, num_ref] at n2
        have N1 := Go.Lib.hid n1
        have N2 := Go.Lib.hid n2
        have HC := Go.Lib.hid hcut
        have hbe : ((s[k].toNat : Int) == (b.toNat : Int)) = true := by rw [hb]; simp
        clear n1 n2 hcut hb
        go_wp2_with (first
          | (go_at_call 126; have U' := U; refine (N2.out _).mono ?_; rintro e w' ⟨rfl, rfl⟩)
          | (go_at_call 126; refine (N1.out _).mono ?_; rintro e w' ⟨rfl, rfl⟩; have U := trivial))
        · have h1 := ‹0 ≤ numD 100000 (List.take k s.data.toList)›
          go_ret3
          refine ⟨⟨_, _, _, rfl, ?_, num_inR _, num_inR _⟩, rfl⟩
          unfold pairD
          rw [HC.out]
          simp [h1]
        · have h1 := ‹numD 100000 (List.take k s.data.toList) < 0›
          go_ret3
          refine ⟨⟨_, _, _, rfl, ?_, num_inR _, num_inR _⟩, rfl⟩
          unfold pairD
          rw [HC.out]
          simp; omega
      · have hbe : ((s[k].toNat : Int) == (b.toNat : Int)) = false := by
          rw [beq_eq_false_iff_ne]; intro e
          exact hb (UInt8.toNat_inj.1 (by omega))
        have HB := Go.Lib.hid hb
        have HL := Go.Lib.hid hl'
        clear hb
        go_wp2_with fail
        go_round
        case rel =>
          refine ⟨k + 1, by omega, by go_num, ?_⟩
          rw [List.take_succ_eq_append_getElem HL.out, HX.out HL.out]
          intro h
          rcases List.mem_append.1 h with h | h
          · exact HNO.out h
          · rw [List.mem_singleton] at h; exact HB.out h.symm
        case measure => simp [intOf]; omega
    · have hte : s.data.toList.take k = s.data.toList := List.take_of_length_le (by rw [HSZ.out]; omega)
      rw [hte] at HNO
      have hcut := cutB_no HNO.out
      have HC := Go.Lib.hid hcut
      clear hte hcut
      go_wp2_with fail
      go_ret3
      exact ⟨⟨0, 0, false, rfl, by unfold pairD; rw [HC.out]; simp, by unfold inR; omega, by unfold inR; omega⟩, rfl⟩

theorem ext_data (s : ByteArray) (a b : Nat) : bOf ((s.data.toList.drop a).take (b - a)) = s.extract a b := by
  rw [← Lib.extract_data, bOf_data]

set_option maxRecDepth 50000 in
set_option maxHeartbeats 1000000 in
theorem cuts_any (s : ByteArray) (w : World) (hl : s.size ≤ 4294967281) :
    Calls Tryz.prog 100 #[.string s] w fun e w' => (∃ v, e = .returned v ∧ Sl strR w' v ((partsC s.data.toList).map bOf)) ∧ Below w.heap.size w w' := by
  have hsz := size_toList s
  have HSZ := Go.Lib.hid hsz
  rcases Nat.eq_zero_or_pos s.size with h0 | h0
  · have HP := Go.Lib.hid (show partsC s.data.toList = [] by unfold partsC; rw [if_pos ((nil_iff s).1 h0)])
    clear hsz
    go_enter Tryz.func100, Tryz.ntmps100
    go_wp2_with fail
    go_loop [4, 3, 5] (fun f o i => f = .int .i64 0 ∧ o = .slice none 0 0 ∧ i = .int .i64 0) (fun _ _ i => (intOf i).toNat)
    case atStart => exact ⟨rfl, rfl, rfl⟩
    case round =>
      obtain ⟨rfl, rfl, rfl⟩ := hrel
      go_wp2_with fail
      go_ret
      exact ⟨⟨_, rfl, by rw [HP.out]; exact Sl.nil _ _⟩, Below.refl _ _⟩
  · have hne : s.data.toList ≠ [] := fun e => by have := (nil_iff s).2 e; omega
    have HP := Go.Lib.hid (show partsC s.data.toList = splitC 44 s.data.toList by unfold partsC; rw [if_neg hne])
    have hpl := partsC_len s.data.toList
    rw [HP.out, HSZ.out] at hpl
    have HPL := Go.Lib.hid hpl
    have h0i : (0 : Int) < (s.size : Int) := by omega
    have hli : (s.size : Int) ≤ 4294967281 := by omega
    clear hsz hne hpl
    go_enter Tryz.func100, Tryz.ntmps100
    go_wp2_with fail
    go_loopw [3, 4, 5] (fun o f i wr => ∃ (k a : Nat) (xs : List (List UInt8)), k ≤ s.size + 1 ∧ i = .int .i64 k ∧ f = .int .i64 a ∧ OwR strR 9 w.heap.size wr o (xs.map bOf) ∧ Below w.heap.size w wr ∧ xs.length ≤ k ∧
      ((k = s.size + 1 ∧ splitC 44 s.data.toList = xs) ∨ (k ≤ s.size ∧ a ≤ k ∧ splitC 44 s.data.toList = xs ++ splitC 44 (s.data.toList.drop a) ∧ (44 : UInt8) ∉ (s.data.toList.drop a).take (k - a)))) (fun _ _ i _ => s.size + 1 - (intOf i).toNat)
    case atStart => exact ⟨0, 0, [], Nat.zero_le _, rfl, rfl, OwR.nil _ _ (Nat.le_refl _), Below.refl _ _, Nat.le_refl _, .inr ⟨Nat.zero_le _, Nat.le_refl _, rfl, by simp⟩⟩
    case round =>
      obtain ⟨k, a, xs, hk, rfl, rfl, ho, hB, hxl, hcase⟩ := hrel
      have HO := Go.Lib.hid ho
      have HB := Go.Lib.hid hB
      clear ho hB
      rcases hcase with ⟨rfl, hs⟩ | ⟨hk', hak, hs, hno⟩
      · have HS := Go.Lib.hid hs
        clear hs
        go_wp2_with fail
        go_ret
        exact ⟨⟨_, rfl, by rw [HP.out, HS.out]; exact HO.out.sl (by decide)⟩, HB.out⟩
      · have HS := Go.Lib.hid hs
        have HNO := Go.Lib.hid hno
        clear hs hno hk
        have hki : (k : Int) ≤ (s.size : Int) := by omega
        have haki : (a : Int) ≤ (k : Int) := by omega
        by_cases hlt : k < s.size
        · have hl' : k < s.data.toList.length := by rw [HSZ.out]; exact hlt
          have hx : ∀ h : k < s.data.toList.length, s.data.toList[k]'h = s[k] := fun _ => rfl
          have HX := Go.Lib.hid hx
          have hki' : ((k : Int) == (s.size : Int)) = false := by rw [beq_eq_false_iff_ne]; omega
          have hdk : (s.data.toList.drop a)[k - a]? = some s[k] := by
            rw [List.getElem?_drop, show a + (k - a) = k by omega, List.getElem?_eq_getElem hl', hx]
          have HDK := Go.Lib.hid hdk
          clear hx hdk
          by_cases hb : s[k] = 44
          · have hbe : ((s[k].toNat : Int) == 44) = true := by rw [hb]; rfl
            have hda : s.data.toList.drop a = (s.data.toList.drop a).take (k - a) ++ 44 :: s.data.toList.drop (k + 1) := by
              conv => lhs; rw [← List.take_append_drop (k - a) (s.data.toList.drop a)]
              rw [List.drop_drop, show a + (k - a) = k by omega, ← List.getElem_cons_drop hl', HX.out, hb]
            have hsp : splitC 44 (s.data.toList.drop a) = (s.data.toList.drop a).take (k - a) :: splitC 44 (s.data.toList.drop (k + 1)) := by
              conv => lhs; rw [hda]
              exact splitC_at _ HNO.out
            have HSP := Go.Lib.hid hsp
            clear hb hda hsp
            have hxl2 : (xs.map bOf).length + 1 ≤ 1000000000000 := by rw [List.length_map]; omega
            have hwf : (s.extract a k).size ≤ maxLen := by
              rw [Lib.size_eq, Lib.extract_data, List.length_take, List.length_drop, HSZ.out]; unfold maxLen; omega
            have hone := one_flat (r := strR) (w := wr) (B := wr.heap.size) (cs := [.string (s.extract a k)]) (x := s.extract a k) (E := 9) rfl ⟨rfl, hwf⟩
            have HONE := Go.Lib.hid hone
            have HOA := Go.Lib.hid (ow_alloc HO.out (.cells #[.string (s.extract a k)] 9))
            have HBA := Go.Lib.hid (HB.out.alloc HB.out.size (.cells #[.string (s.extract a k)] 9))
            have HN1 := Go.Lib.hid hxl2
            clear hone hwf hxl2
            go_wp2_with (at_builtin; refine wpList_gen (base := w.heap.size) elt_strA rfl (.tmp 27) (.tmp 32) rfl HOA.out HONE.out (fun _ _ h => h) rfl rfl HN1.out (by decide) ?_; intro v2 w2 ho2 hg2; have B2 := Go.Lib.hid (HOA.out.below_grown HBA.out hg2.grown))
            go_roundw
            case rel =>
              refine ⟨k + 1, k + 1, xs ++ [(s.data.toList.drop a).take (k - a)], by omega, by go_num, by go_num, by rw [List.map_append, List.map_singleton, ext_data]; exact ho2, B2.out, by simp; omega, .inr ⟨by omega, Nat.le_refl _, ?_, by simp⟩⟩
              rw [HS.out, HSP.out]; simp
            case measure => simp [intOf]; omega
          · have hbe : ((s[k].toNat : Int) == 44) = false := by
              rw [beq_eq_false_iff_ne]; intro e
              exact hb (UInt8.toNat_inj.1 (by have : (44 : UInt8).toNat = 44 := rfl; omega))
            have HBN := Go.Lib.hid hb
            clear hb
            go_wp2_with fail
            go_roundw
            case rel =>
              refine ⟨k + 1, a, xs, by omega, by go_num, rfl, HO.out, HB.out, by omega, .inr ⟨by omega, by omega, HS.out, ?_⟩⟩
              rw [show k + 1 - a = (k - a) + 1 by omega, List.take_add_one, HDK.out]
              intro h
              rcases List.mem_append.1 h with h | h
              · exact HNO.out h
              · simp at h; exact HBN.out h.symm
            case measure => simp [intOf]; omega
        · have hke : k = s.size := by omega
          have hbe : ((k : Int) == (s.size : Int)) = true := by rw [hke]; simp
          have htk : (s.data.toList.drop a).take (k - a) = s.data.toList.drop a := List.take_of_length_le (by rw [List.length_drop, HSZ.out]; omega)
          have hsp : splitC 44 (s.data.toList.drop a) = [(s.data.toList.drop a).take (k - a)] := by
            rw [htk] at HNO
            rw [htk]; exact splitC_no HNO.out
          have HSP := Go.Lib.hid hsp
          have HKE := Go.Lib.hid hke
          clear hke htk hsp
          have hxl2 : (xs.map bOf).length + 1 ≤ 1000000000000 := by rw [List.length_map]; omega
          have hwf : (s.extract a k).size ≤ maxLen := by
            rw [Lib.size_eq, Lib.extract_data, List.length_take, List.length_drop, HSZ.out]; unfold maxLen; omega
          have hone := one_flat (r := strR) (w := wr) (B := wr.heap.size) (cs := [.string (s.extract a k)]) (x := s.extract a k) (E := 9) rfl ⟨rfl, hwf⟩
          have HONE := Go.Lib.hid hone
          have HOA := Go.Lib.hid (ow_alloc HO.out (.cells #[.string (s.extract a k)] 9))
          have HBA := Go.Lib.hid (HB.out.alloc HB.out.size (.cells #[.string (s.extract a k)] 9))
          have HN1 := Go.Lib.hid hxl2
          clear hone hwf hxl2
          go_wp2_with (at_builtin; refine wpList_gen (base := w.heap.size) elt_strA rfl (.tmp 27) (.tmp 32) rfl HOA.out HONE.out (fun _ _ h => h) rfl rfl HN1.out (by decide) ?_; intro v2 w2 ho2 hg2; have B2 := Go.Lib.hid (HOA.out.below_grown HBA.out hg2.grown))
          go_roundw
          case rel =>
            refine ⟨k + 1, k + 1, xs ++ [(s.data.toList.drop a).take (k - a)], by omega, by go_num, by go_num, by rw [List.map_append, List.map_singleton, ext_data]; exact ho2, B2.out, by simp; omega, .inl ⟨by rw [HKE.out], ?_⟩⟩
            rw [HS.out, HSP.out]
          case measure => simp [intOf]; omega
end Go.Proofs.YtcbkimbeljhbhaaGreatDoor

namespace Go.Proofs.YtcbkimbeljhbhaaGreatDoor
open Go Go.RowKit

def prefOf (x : Int × Int) : Prefix := ⟨x.1, x.2⟩
def sideOf2 (x : Int × Int) : Side := ⟨x.1, x.2⟩
def RPref (s : List UInt8) (w : World) (e : Ending) (w' : World) : Prop := ∃ v, e = .returned (.tuple #[v, .int .i64 (readPrefs s).2]) ∧ Sl prefR w' v (readPrefs s).1 ∧ Below w.heap.size w w'
theorem rp_fin {s : List UInt8} {w w' : World} {v : Value} {l : List Prefix} {n : Int} (h : readPrefs s = (l, n)) (hs : Sl prefR w' v l) (hb : Below w.heap.size w w') : RPref s w (.returned (.tuple #[v, .int .i64 n])) w' := ⟨v, by rw [h], by rw [h]; exact hs, hb⟩
/-- .. the list lies in blocks from b on -/
def SlF {α : Type} (r : Rep α) (b : Nat) (w : World) (v : Value) (xs : List α) : Prop := SlR r w (fun k => k < w.heap.size ∧ b ≤ k) v xs
theorem SlF.sl {α : Type} {r : Rep α} {b : Nat} {w : World} {v : Value} {xs : List α} (h : SlF r b w v xs) : Sl r w v xs := SlR.keep h (fun _ _ => rfl) (fun _ hk => hk.1)
theorem SlF.nil {α : Type} (r : Rep α) (b : Nat) (w : World) : SlF r b w (.slice none 0 0) [] := ⟨none, 0, rfl, Nat.le_refl _, Nat.zero_le _, fun i x h => by simp at h⟩
theorem SlF.below {α : Type} {r : Rep α} {b : Nat} {w w' : World} {v : Value} {xs : List α} (h : SlF r b w v xs) (hb : Below w.heap.size w w') : SlF r b w' v xs := SlR.keep h (fun k hk => hb.block k hk.1) (fun k hk => ⟨Nat.lt_of_lt_of_le hk.1 hb.size, hk.2⟩)
theorem SlF.mono {α : Type} {r : Rep α} {b b' : Nat} {w : World} {v : Value} {xs : List α} (h : SlF r b w v xs) (hb : b' ≤ b) : SlF r b' w v xs := SlR.keep h (fun _ _ => rfl) (fun _ hk => ⟨hk.1, Nat.le_trans hb hk.2⟩)
theorem OwR.slG {α : Type} {r : Rep α} {E base : Nat} {w : World} {v : Value} {xs : List α} (h : OwR r E base w v xs) (hs : 0 < r.size) (hf : ∀ S S' cs x, r.holds w S cs x → r.holds w S' cs x) : SlF r base w v xs := by
  obtain ⟨A, c, rfl, h1, h2, h3⟩ := h.sl hs
  refine ⟨A, c, rfl, h1, h2, fun i x hx => ?_⟩
  obtain ⟨b, off, cs, rfl, hS, hb, hh, hc⟩ := h3 i x hx
  exact ⟨b, off, cs, rfl, ⟨hb, (h.base_le b rfl).1⟩, hb, hf _ _ _ _ hh, hc⟩
def RPrefF (s : List UInt8) (w : World) (e : Ending) (w' : World) : Prop := ∃ v, e = .returned (.tuple #[v, .int .i64 (readPrefs s).2]) ∧ SlF prefR w.heap.size w' v (readPrefs s).1 ∧ Below w.heap.size w w'
theorem rpf_fin {s : List UInt8} {w w' : World} {v : Value} {l : List Prefix} {n : Int} (h : readPrefs s = (l, n)) (hs : SlF prefR w.heap.size w' v l) (hb : Below w.heap.size w w') : RPrefF s w (.returned (.tuple #[v, .int .i64 n])) w' := ⟨v, by rw [h], by rw [h]; exact hs, hb⟩
theorem rpf_any {s : List UInt8} {w : World} {e : Ending} {w' : World} (h : RPrefF s w e w') : RPref s w e w' := by
  obtain ⟨v, h1, h2, h3⟩ := h
  exact ⟨v, h1, h2.sl, h3⟩
theorem rp_none {s : List UInt8} (h : pairsD 47 (partsC s) = none) : readPrefs s = ([], 4) := by unfold readPrefs; rw [h]
theorem rp_bad {s : List UInt8} {l : List (Int × Int)} (h : pairsD 47 (partsC s) = some l) (hc : chkPrefs (l.map prefOf) ≠ 0) : readPrefs s = ([], chkPrefs (l.map prefOf)) := by unfold readPrefs; rw [h]; exact if_neg hc
theorem rp_good {s : List UInt8} {l : List (Int × Int)} (h : pairsD 47 (partsC s) = some l) (hc : chkPrefs (l.map prefOf) = 0) : readPrefs s = (l.map prefOf, 0) := by unfold readPrefs; rw [h]; exact if_pos hc
theorem pairs_take {b : UInt8} {l : List (List UInt8)} {k : Nat} {acc : List (Int × Int)} {p : List UInt8} {x : Int × Int} (h : pairsD b (l.take k) = some acc) (hp : l[k]? = some p) (hx : pairD b p = some x) : pairsD b (l.take (k + 1)) = some (acc ++ [x]) := by
  rw [List.take_add_one, hp]
  show pairsD b (l.take k ++ [p]) = _
  rw [pairsD_snoc, h]; simp only [hx]


set_option maxRecDepth 50000 in
set_option maxHeartbeats 2000000 in
theorem readPrefs_fr (s : ByteArray) (w : World) (hl : s.size < 4294967281) (hE : Env w) :
    Calls Tryz.prog 40 #[.string s] w fun e w' => RPrefF s.data.toList w e w' := by
  have HSZ := Go.Lib.hid (size_toList s)
  have hpl := partsC_len s.data.toList
  rw [HSZ.out] at hpl
  have HPL := Go.Lib.hid hpl
  have HE := Go.Lib.hid hE
  clear hE hpl
  go_enter Tryz.func40, Tryz.ntmps40
  obtain ⟨PS, hPS⟩ : ∃ PS, PS = partsC s.data.toList := ⟨_, rfl⟩
  have HPS := Go.Lib.hid hPS
  have hpn : PS.length ≤ s.size + 1 := by rw [hPS]; exact HPL.out.1
  clear hPS
  go_wp2_with (go_at_call 44; refine (parts_any s _ hl HE.out).mono ?_; rintro e w1 ⟨⟨v, rfl, hv⟩, hb1⟩; rw [← HPS.out] at hv; have HB1 := Go.Lib.hid hb1; have HE1 := Go.Lib.hid (HE.out.below hb1); clear hb1; obtain ⟨A, c, rfl⟩ := hv.form; have HV := Go.Lib.hid hv; clear hv)
  go_loopw [4, 14] (fun o i wr => ∃ (k : Nat) (acc : List (Int × Int)), k ≤ PS.length ∧ i = .int .i64 k ∧ OwR prefR 62 w1.heap.size wr o (acc.map prefOf) ∧ Below w1.heap.size w1 wr ∧ pairsD 47 (PS.take k) = some acc) (fun _ i _ => PS.length - (intOf i).toNat)
  case atStart => exact ⟨0, [], Nat.zero_le _, rfl, OwR.nil _ _ (Nat.le_refl _), Below.refl _ _, rfl⟩
  case round =>
    obtain ⟨k, acc, hk, rfl, ho, hB, hp⟩ := hrel
    have HO := Go.Lib.hid ho
    have HB := Go.Lib.hid hB
    have HP := Go.Lib.hid hp
    have hal := pairsD_len 47 hp
    rw [List.length_take] at hal
    clear ho hB hp
    by_cases hlt : k < PS.length
    · have hltm : k < (PS.map bOf).length := by rw [List.length_map]; exact hlt
      obtain ⟨bk, off, rfl, hbk⟩ := HV.out.at_ hltm
      have hcell := (HV.out.below HB.out).strA hltm
      rw [List.getElem_map] at hcell
      have hsz := HPL.out.2 PS[k] (by rw [← HPS.out]; exact List.getElem_mem hlt)
      have hsm : (bOf PS[k]).size < 4294967281 := by rw [bOf_size]; omega
      have htwo := fun w hE => two_pair (bOf PS[k]) 47 w hsm hE
      rw [bOf_list] at htwo
      have HT := Go.Lib.hid htwo
      have HK := Go.Lib.hid (List.getElem?_eq_getElem hlt)
      have HN := Go.Lib.hid (show (acc.map prefOf).length + 1 ≤ 1000000000000 by rw [List.length_map]; omega)
      have hlti : (k : Int) < (PS.length : Int) := by omega
      clear htwo hsz hsm hal
      go_wp2_with (first
        | (at_builtin; refine wpList_gen (base := w1.heap.size) elt_prefA rfl (.tmp 26) (.tmp 30) rfl ((HO.out.keep hb3).keep ((Below.refl _ _).alloc (Nat.le_refl _) _)) (one_flat (r := prefR) (cs := [.int .i64 x, .int .i64 y]) (x := prefOf (x, y)) rfl ⟨rfl, hx, hy⟩) (fun _ _ h => h) rfl rfl HN.out (by decide) ?_; intro v2 w4 ho2 hg2)
        | (go_at_call 45; refine (HT.out _ (HE1.out.below HB.out)).mono ?_; rintro e w3 ⟨⟨x, y, ok, rfl, hpd, hx, hy⟩, hb3⟩; have HPD := Go.Lib.hid hpd; clear hpd))
      · have hok : ok = false := by have h := ‹(!ok) = true›; simpa using h
        have hpd := HPD.out
        rw [hok] at hpd
        have B3 := HB.out.trans (hb3.mono HB.out.size)
        go_ret2
        have hnone := pairsD_fail 47 HK.out hpd
        rw [HPS.out] at hnone
        exact rpf_fin (rp_none hnone) (SlF.nil _ _ _) (HB1.out.trans (B3.mono HB1.out.size))
      · have hok : ok = true := by have h := ‹(!ok) = false›; simpa using h
        have B3 := HB.out.trans (hb3.mono HB.out.size)
        have B4 := (ow_alloc (HO.out.keep hb3) (.cells #[.int .i64 x, .int .i64 y] 62)).below_grown (B3.alloc B3.size (.cells #[.int .i64 x, .int .i64 y] 62)) hg2.grown
        have hpd := HPD.out
        rw [hok] at hpd
        go_roundw
        case rel => exact ⟨k + 1, acc ++ [(x, y)], by omega, by go_num, by rw [List.map_append]; exact ho2, B4, pairs_take HP.out HK.out hpd⟩
        case measure => simp [intOf]; omega
    · have hke : k = PS.length := by omega
      subst hke
      rw [List.take_length] at HP
      rw [HPS.out] at HP
      have hnlt : ¬ (PS.length : Int) < (PS.length : Int) := by omega
      have hal' : acc.length ≤ 4294967290 := by omega
      have hbad := fun h => rp_bad (s := s.data.toList) HP.out h
      have hgood := fun h => rp_good (s := s.data.toList) HP.out h
      generalize acc.map prefOf = L at HO hbad hgood
      have HCK := Go.Lib.hid (fun w v h => checkPrefs_any v L w h)
      have HBAD := Go.Lib.hid hbad
      have HGOOD := Go.Lib.hid hgood
      have hsl := (HO.out.slG (by decide) (fun _ _ _ _ h => h)).mono HB1.out.size
      obtain ⟨A2, c2, rfl⟩ := hsl.sl.form
      have HSL := Go.Lib.hid hsl
      clear hsl hal hk hlt hbad hgood
      by_cases hc : chkPrefs L = 0
      · have HR := Go.Lib.hid (HGOOD.out hc)
        rw [hc] at HCK
        clear hc
        go_wp2_with (go_at_call 49; refine (HCK.out _ _ HSL.out.sl).mono ?_; rintro e w3 ⟨rfl, hb3⟩)
        go_ret2
        exact rpf_fin HR.out (HSL.out.below hb3) (HB1.out.trans ((HB.out.trans (hb3.mono HB.out.size)).mono HB1.out.size))
      · have HR := Go.Lib.hid (HBAD.out hc)
        have hcb : (chkPrefs L == 0) = false := by rw [beq_eq_false_iff_ne]; exact hc
        clear hc
        go_wp2_with (go_at_call 49; refine (HCK.out _ _ HSL.out.sl).mono ?_; rintro e w3 ⟨rfl, hb3⟩)
        go_ret2
        exact rpf_fin HR.out (SlF.nil _ _ _) (HB1.out.trans ((HB.out.trans (hb3.mono HB.out.size)).mono HB1.out.size))

theorem readPrefs_any (s : ByteArray) (w : World) (hl : s.size < 4294967281) (hE : Env w) :
    Calls Tryz.prog 40 #[.string s] w fun e w' => RPref s.data.toList w e w' := (readPrefs_fr s w hl hE).mono fun _ _ h => rpf_any h

theorem pairOf_pair (s : ByteArray) (b : UInt8) (c : Int) (hc : c = b.toNat) (w : World) (hs : s.size < 4294967281) (_ : Env w) :
    Calls Tryz.prog 101 #[.string s, .int .u8 c] w fun e w' => Pair2 b s.data.toList e ∧ Below w.heap.size w w' := by
  subst hc
  exact (pairOf_any s b w (by omega)).mono fun e w' ⟨he, hw⟩ => ⟨he, by subst hw; exact Below.refl _ _⟩

set_option maxRecDepth 50000 in
set_option maxHeartbeats 2000000 in
theorem prefsOf_fr (s : ByteArray) (w : World) (hl : s.size < 4294967281) (hE : Env w) :
    Calls Tryz.prog 71 #[.string s] w fun e w' => RPrefF s.data.toList w e w' := by
  have HSZ := Go.Lib.hid (size_toList s)
  have hpl := partsC_len s.data.toList
  rw [HSZ.out] at hpl
  have HPL := Go.Lib.hid hpl
  have HE := Go.Lib.hid hE
  clear hE hpl
  go_enter Tryz.func71, Tryz.ntmps71
  obtain ⟨PS, hPS⟩ : ∃ PS, PS = partsC s.data.toList := ⟨_, rfl⟩
  have HPS := Go.Lib.hid hPS
  have hpn : PS.length ≤ s.size + 1 := by rw [hPS]; exact HPL.out.1
  clear hPS
  go_wp2_with (go_at_call 100; refine (cuts_any s _ (by omega)).mono ?_; rintro e w1 ⟨⟨v, rfl, hv⟩, hb1⟩; rw [← HPS.out] at hv; have HB1 := Go.Lib.hid hb1; have HE1 := Go.Lib.hid (HE.out.below hb1); clear hb1; obtain ⟨A, c, rfl⟩ := hv.form; have HV := Go.Lib.hid hv; clear hv)
  go_loopw [4, 6] (fun o i wr => ∃ (k : Nat) (acc : List (Int × Int)), k ≤ PS.length ∧ i = .int .i64 k ∧ OwR prefR 62 w1.heap.size wr o (acc.map prefOf) ∧ Below w1.heap.size w1 wr ∧ pairsD 47 (PS.take k) = some acc) (fun _ i _ => PS.length - (intOf i).toNat)
  case atStart => exact ⟨0, [], Nat.zero_le _, rfl, OwR.nil _ _ (Nat.le_refl _), Below.refl _ _, rfl⟩
  case round =>
    obtain ⟨k, acc, hk, rfl, ho, hB, hp⟩ := hrel
    have HO := Go.Lib.hid ho
    have HB := Go.Lib.hid hB
    have HP := Go.Lib.hid hp
    have hal := pairsD_len 47 hp
    rw [List.length_take] at hal
    clear ho hB hp
    by_cases hlt : k < PS.length
    · have hltm : k < (PS.map bOf).length := by rw [List.length_map]; exact hlt
      obtain ⟨bk, off, rfl, hbk⟩ := HV.out.at_ hltm
      have hcell := (HV.out.below HB.out).strA hltm
      rw [List.getElem_map] at hcell
      have hsz := HPL.out.2 PS[k] (by rw [← HPS.out]; exact List.getElem_mem hlt)
      have hsm : (bOf PS[k]).size < 4294967281 := by rw [bOf_size]; omega
      have htwo := fun w hE => pairOf_pair (bOf PS[k]) 47 47 rfl w hsm hE
      rw [bOf_list] at htwo
      have HT := Go.Lib.hid htwo
      have HK := Go.Lib.hid (List.getElem?_eq_getElem hlt)
      have HN := Go.Lib.hid (show (acc.map prefOf).length + 1 ≤ 1000000000000 by rw [List.length_map]; omega)
      have hlti : (k : Int) < (PS.length : Int) := by omega
      clear htwo hsz hsm hal
      go_wp2_with (first
        | (at_builtin; refine wpList_gen (base := w1.heap.size) elt_prefA rfl (.tmp 30) (.tmp 34) rfl ((HO.out.keep hb3).keep ((Below.refl _ _).alloc (Nat.le_refl _) _)) (one_flat (r := prefR) (cs := [.int .i64 x, .int .i64 y]) (x := prefOf (x, y)) rfl ⟨rfl, hx, hy⟩) (fun _ _ h => h) rfl rfl HN.out (by decide) ?_; intro v2 w4 ho2 hg2)
        | (go_at_call 101; refine (HT.out _ (HE1.out.below HB.out)).mono ?_; rintro e w3 ⟨⟨x, y, ok, rfl, hpd, hx, hy⟩, hb3⟩; have HPD := Go.Lib.hid hpd; clear hpd))
      · have hok : ok = false := by have h := ‹(!ok) = true›; simpa using h
        have hpd := HPD.out
        rw [hok] at hpd
        have B3 := HB.out.trans (hb3.mono HB.out.size)
        go_ret2
        have hnone := pairsD_fail 47 HK.out hpd
        rw [HPS.out] at hnone
        exact rpf_fin (rp_none hnone) (SlF.nil _ _ _) (HB1.out.trans (B3.mono HB1.out.size))
      · have hok : ok = true := by have h := ‹(!ok) = false›; simpa using h
        have B3 := HB.out.trans (hb3.mono HB.out.size)
        have B4 := (ow_alloc (HO.out.keep hb3) (.cells #[.int .i64 x, .int .i64 y] 62)).below_grown (B3.alloc B3.size (.cells #[.int .i64 x, .int .i64 y] 62)) hg2.grown
        have hpd := HPD.out
        rw [hok] at hpd
        go_roundw
        case rel => exact ⟨k + 1, acc ++ [(x, y)], by omega, by go_num, by rw [List.map_append]; exact ho2, B4, pairs_take HP.out HK.out hpd⟩
        case measure => simp [intOf]; omega
    · have hke : k = PS.length := by omega
      subst hke
      rw [List.take_length] at HP
      rw [HPS.out] at HP
      have hnlt : ¬ (PS.length : Int) < (PS.length : Int) := by omega
      have hal' : acc.length ≤ 4294967290 := by omega
      have hbad := fun h => rp_bad (s := s.data.toList) HP.out h
      have hgood := fun h => rp_good (s := s.data.toList) HP.out h
      generalize acc.map prefOf = L at HO hbad hgood
      have HCK := Go.Lib.hid (fun w v h => prefsFault_any v L w h)
      have HBAD := Go.Lib.hid hbad
      have HGOOD := Go.Lib.hid hgood
      have hsl := (HO.out.slG (by decide) (fun _ _ _ _ h => h)).mono HB1.out.size
      obtain ⟨A2, c2, rfl⟩ := hsl.sl.form
      have HSL := Go.Lib.hid hsl
      clear hsl hal hk hlt hbad hgood
      by_cases hc : chkPrefs L = 0
      · have HR := Go.Lib.hid (HGOOD.out hc)
        rw [hc] at HCK
        clear hc
        go_wp2_with (go_at_call 102; refine (HCK.out _ _ HSL.out.sl).mono ?_; rintro e w3 ⟨rfl, hb3⟩)
        go_ret2
        exact rpf_fin HR.out (HSL.out.below hb3) (HB1.out.trans ((HB.out.trans (hb3.mono HB.out.size)).mono HB1.out.size))
      · have HR := Go.Lib.hid (HBAD.out hc)
        have hcb : (chkPrefs L == 0) = false := by rw [beq_eq_false_iff_ne]; exact hc
        clear hc
        go_wp2_with (go_at_call 102; refine (HCK.out _ _ HSL.out.sl).mono ?_; rintro e w3 ⟨rfl, hb3⟩)
        go_ret2
        exact rpf_fin HR.out (SlF.nil _ _ _) (HB1.out.trans ((HB.out.trans (hb3.mono HB.out.size)).mono HB1.out.size))
theorem prefsOf_any (s : ByteArray) (w : World) (hl : s.size < 4294967281) (hE : Env w) :
    Calls Tryz.prog 71 #[.string s] w fun e w' => RPref s.data.toList w e w' := (prefsOf_fr s w hl hE).mono fun _ _ h => rpf_any h
end Go.Proofs.YtcbkimbeljhbhaaGreatDoor

namespace Go.Proofs.YtcbkimbeljhbhaaGreatDoor
open Go Go.RowKit

theorem neq_prefA (a b c d : Int) (w : World) :
    (binOp .neq 62 (.agg #[.int .i64 a, .int .i64 b]) (.agg #[.int .i64 c, .int .i64 d])).run Tryz.prog w = .ok (.bool (!(a == c && b == d))) w := by
  have hS : Tryz.prog.underlying 62 = some (.struct (Tryz.prog.fieldsOf 62)) := by kernel_rfl
  have hp : Tryz.prog.stoodInHeld 62 = false := by kernel_rfl
  have u3 := Tryz.underlying3
  have a3 := Tryz.isAgg3
  have z3 := Tryz.sizeOf3
  rw [run_neq_struct, show (10000 : Nat) = 9999 + 1 from rfl, run_equalIn_agg w 9999 62 _ _ hS hp]
  simp only [Program.fieldsOf, Tryz.underlying62]
  go_simp
  by_cases h1 : a = c <;> by_cases h2 : b = d <;> simp [h1, h2]
theorem guard_prefA (op : BinOp) (a b : Operand) (x y : Array Value) (w : World) : (eqGuard op 62 a b (.agg x) (.agg y)).run Tryz.prog w = .ok () w :=
  run_eqGuard_agg w op _ a b x y (by kernel_rfl)
theorem neq_sideA (a b c d : Int) (w : World) :
    (binOp .neq 57 (.agg #[.int .i64 a, .int .i64 b]) (.agg #[.int .i64 c, .int .i64 d])).run Tryz.prog w = .ok (.bool (!(a == c && b == d))) w := by
  have hS : Tryz.prog.underlying 57 = some (.struct (Tryz.prog.fieldsOf 57)) := by kernel_rfl
  have hp : Tryz.prog.stoodInHeld 57 = false := by kernel_rfl
  have u3 := Tryz.underlying3
  have a3 := Tryz.isAgg3
  have z3 := Tryz.sizeOf3
  rw [run_neq_struct, show (10000 : Nat) = 9999 + 1 from rfl, run_equalIn_agg w 9999 57 _ _ hS hp]
  simp only [Program.fieldsOf, Tryz.underlying57]
  go_simp
  by_cases h1 : a = c <;> by_cases h2 : b = d <;> simp [h1, h2]
theorem guard_sideA (op : BinOp) (a b : Operand) (x y : Array Value) (w : World) : (eqGuard op 57 a b (.agg x) (.agg y)).run Tryz.prog w = .ok () w :=
  run_eqGuard_agg w op _ a b x y (by kernel_rfl)

end Go.Proofs.YtcbkimbeljhbhaaGreatDoor
