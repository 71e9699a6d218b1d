/-
  The document's cutting of texts: pairOf, cuts, walked.
-/
import Derived.Test.YtlmcipnogodnfaaDoorDoB
namespace Go.Proofs.YtlmcipnogodnfaaDoor
open Go Go.RowKit

/-- two numbers of a text, or none -/
def Pair2 (b : UInt8) (s : List UInt8) (e : Ending) : Prop := ∃ x y ok, e = .returned (.tuple #[.int .i64 x, .int .i64 y, .bool ok]) ∧ (pairD b s = if ok = true then some (x, y) else none) ∧ inR x ∧ inR y
theorem num_inR (s : List UInt8) : inR (numD 100000 s) := by have := num_le 100000 (by omega) s; unfold inR; omega
theorem two_pair (s : ByteArray) (b : UInt8) (w : World) (hs : s.size < 4294967281) (hE : Env w) :
    Calls Tryd.prog 34 #[.string s, .string ⟨#[b]⟩, .int .i64 100000] w fun e w' => Pair2 b s.data.toList e ∧ Below w.heap.size w w' :=
  (two_any s b 100000 w hs (by unfold inR; omega) hE).mono fun e w' ⟨he, hb⟩ => ⟨⟨_, _, _, he, by
    unfold pairD
    simp only [Bool.and_eq_true, decide_eq_true_eq], num_inR _, num_inR _⟩, hb⟩

set_option maxRecDepth 50000 in
set_option maxHeartbeats 1000000 in
theorem pairOf_any (s : ByteArray) (b : UInt8) (w : World) (hl : s.size ≤ 4294967281) :
    Calls Tryd.prog 36 #[.string s, .int .u8 b.toNat] w fun e w' => Pair2 b s.data.toList e ∧ w = w' := by
  have hsz := size_toList s
  go_enter Tryd.func36, Tryd.ntmps36
  go_wp2_with fail
  have HSZ := Go.Lib.hid hsz
  clear hsz
  go_loop [7] (fun i => ∃ k : Nat, k ≤ s.size ∧ i = .int .i64 k ∧ b ∉ s.data.toList.take k) (fun i => s.size - (intOf i).toNat)
  case atStart => exact ⟨0, Nat.zero_le _, rfl, by simp⟩
  case round =>
    obtain ⟨k, hk, rfl, hno⟩ := hrel
    have HNO := Go.Lib.hid hno
    clear hno
    by_cases hlt : k < s.size
    · have hl' : k < s.data.toList.length := by rw [HSZ.out]; exact hlt
      have hx : ∀ h : k < s.data.toList.length, s.data.toList[k]'h = s[k] := fun _ => rfl
      have HX := Go.Lib.hid hx
      clear hx
      by_cases hb : s[k] = b
      · have hcut : cutB b s.data.toList = (s.data.toList.take k, s.data.toList.drop (k + 1), true) := by
          have h1 : s.data.toList = s.data.toList.take k ++ b :: s.data.toList.drop (k + 1) := by
            rw [← hb, ← HX.out hl', List.getElem_cons_drop, List.take_append_drop]
          conv => lhs; rw [h1]
          exact cutB_at _ HNO.out
        have n1 := fun w => numOf_any (s.extract 0 k) w (by rw [Lib.size_eq, Lib.extract_from_zero, List.length_take, HSZ.out]; omega)
        have n2 := fun w => numOf_any (s.extract (k + 1) s.size) w (by rw [Lib.size_eq, Lib.extract_to_end, List.length_drop, HSZ.out]; omega)
        rw [Lib.extract_from_zero, num_ref] at n1
        rw [Lib.extract_to_end, num_ref] at n2
        have N1 := Go.Lib.hid n1
        have N2 := Go.Lib.hid n2
        have HC := Go.Lib.hid hcut
        have hbe : ((s[k].toNat : Int) == (b.toNat : Int)) = true := by rw [hb]; simp
        clear n1 n2 hcut hb
        go_wp2_with (first
          | (go_at_call 54; have U' := U; refine (N2.out _).mono ?_; rintro e w' ⟨rfl, rfl⟩)
          | (go_at_call 54; refine (N1.out _).mono ?_; rintro e w' ⟨rfl, rfl⟩; have U := trivial))
        · have h1 := ‹0 ≤ numD 100000 (List.take k s.data.toList)›
          go_ret3
          refine ⟨⟨_, _, _, rfl, ?_, num_inR _, num_inR _⟩, rfl⟩
          unfold pairD
          rw [HC.out]
          simp [h1]
        · have h1 := ‹numD 100000 (List.take k s.data.toList) < 0›
          go_ret3
          refine ⟨⟨_, _, _, rfl, ?_, num_inR _, num_inR _⟩, rfl⟩
          unfold pairD
          rw [HC.out]
          simp; omega
      · have hbe : ((s[k].toNat : Int) == (b.toNat : Int)) = false := by
          rw [beq_eq_false_iff_ne]; intro e
          exact hb (UInt8.toNat_inj.1 (by omega))
        have HB := Go.Lib.hid hb
        have HL := Go.Lib.hid hl'
        clear hb
        go_wp2_with fail
        go_round
        case rel =>
          refine ⟨k + 1, by omega, by go_num, ?_⟩
          rw [List.take_succ_eq_append_getElem HL.out, HX.out HL.out]
          intro h
          rcases List.mem_append.1 h with h | h
          · exact HNO.out h
          · rw [List.mem_singleton] at h; exact HB.out h.symm
        case measure => simp [intOf]; omega
    · have hte : s.data.toList.take k = s.data.toList := List.take_of_length_le (by rw [HSZ.out]; omega)
      rw [hte] at HNO
      have hcut := cutB_no HNO.out
      have HC := Go.Lib.hid hcut
      clear hte hcut
      go_wp2_with fail
      go_ret3
      exact ⟨⟨0, 0, false, rfl, by unfold pairD; rw [HC.out]; simp, by unfold inR; omega, by unfold inR; omega⟩, rfl⟩

theorem ext_data (s : ByteArray) (a b : Nat) : bOf ((s.data.toList.drop a).take (b - a)) = s.extract a b := by
  rw [← Lib.extract_data, bOf_data]

set_option maxRecDepth 50000 in
set_option maxHeartbeats 1000000 in
theorem cuts_any (s : ByteArray) (w : World) (hl : s.size ≤ 4294967281) :
    Calls Tryd.prog 35 #[.string s] w fun e w' => (∃ v, e = .returned v ∧ Sl strR w' v ((partsC s.data.toList).map bOf)) ∧ Below w.heap.size w w' := by
  have hsz := size_toList s
  have HSZ := Go.Lib.hid hsz
  rcases Nat.eq_zero_or_pos s.size with h0 | h0
  · have HP := Go.Lib.hid (show partsC s.data.toList = [] by unfold partsC; rw [if_pos ((nil_iff s).1 h0)])
    clear hsz
    go_enter Tryd.func35, Tryd.ntmps35
    go_wp2_with fail
    go_loop [4, 3, 5] (fun f o i => f = .int .i64 0 ∧ o = .slice none 0 0 ∧ i = .int .i64 0) (fun _ _ i => (intOf i).toNat)
    case atStart => exact ⟨rfl, rfl, rfl⟩
    case round =>
      obtain ⟨rfl, rfl, rfl⟩ := hrel
      go_wp2_with fail
      go_ret
      exact ⟨⟨_, rfl, by rw [HP.out]; exact Sl.nil _ _⟩, Below.refl _ _⟩
  · have hne : s.data.toList ≠ [] := fun e => by have := (nil_iff s).2 e; omega
    have HP := Go.Lib.hid (show partsC s.data.toList = splitC 44 s.data.toList by unfold partsC; rw [if_neg hne])
    have hpl := partsC_len s.data.toList
    rw [HP.out, HSZ.out] at hpl
    have HPL := Go.Lib.hid hpl
    have h0i : (0 : Int) < (s.size : Int) := by omega
    have hli : (s.size : Int) ≤ 4294967281 := by omega
    clear hsz hne hpl
    go_enter Tryd.func35, Tryd.ntmps35
    go_wp2_with fail
    go_loopw [3, 4, 5] (fun o f i wr => ∃ (k a : Nat) (xs : List (List UInt8)), k ≤ s.size + 1 ∧ i = .int .i64 k ∧ f = .int .i64 a ∧ OwR strR 9 w.heap.size wr o (xs.map bOf) ∧ Below w.heap.size w wr ∧ xs.length ≤ k ∧
      ((k = s.size + 1 ∧ splitC 44 s.data.toList = xs) ∨ (k ≤ s.size ∧ a ≤ k ∧ splitC 44 s.data.toList = xs ++ splitC 44 (s.data.toList.drop a) ∧ (44 : UInt8) ∉ (s.data.toList.drop a).take (k - a)))) (fun _ _ i _ => s.size + 1 - (intOf i).toNat)
    case atStart => exact ⟨0, 0, [], Nat.zero_le _, rfl, rfl, OwR.nil _ _ (Nat.le_refl _), Below.refl _ _, Nat.le_refl _, .inr ⟨Nat.zero_le _, Nat.le_refl _, rfl, by simp⟩⟩
    case round =>
      obtain ⟨k, a, xs, hk, rfl, rfl, ho, hB, hxl, hcase⟩ := hrel
      have HO := Go.Lib.hid ho
      have HB := Go.Lib.hid hB
      clear ho hB
      rcases hcase with ⟨rfl, hs⟩ | ⟨hk', hak, hs, hno⟩
      · have HS := Go.Lib.hid hs
        clear hs
        go_wp2_with fail
        go_ret
        exact ⟨⟨_, rfl, by rw [HP.out, HS.out]; exact HO.out.sl (by decide)⟩, HB.out⟩
      · have HS := Go.Lib.hid hs
        have HNO := Go.Lib.hid hno
        clear hs hno hk
        have hki : (k : Int) ≤ (s.size : Int) := by omega
        have haki : (a : Int) ≤ (k : Int) := by omega
        by_cases hlt : k < s.size
        · have hl' : k < s.data.toList.length := by rw [HSZ.out]; exact hlt
          have hx : ∀ h : k < s.data.toList.length, s.data.toList[k]'h = s[k] := fun _ => rfl
          have HX := Go.Lib.hid hx
          have hki' : ((k : Int) == (s.size : Int)) = false := by rw [beq_eq_false_iff_ne]; omega
          have hdk : (s.data.toList.drop a)[k - a]? = some s[k] := by
            rw [List.getElem?_drop, show a + (k - a) = k by omega, List.getElem?_eq_getElem hl', hx]
          have HDK := Go.Lib.hid hdk
          clear hx hdk
          by_cases hb : s[k] = 44
          · have hbe : ((s[k].toNat : Int) == 44) = true := by rw [hb]; rfl
            have hda : s.data.toList.drop a = (s.data.toList.drop a).take (k - a) ++ 44 :: s.data.toList.drop (k + 1) := by
              conv => lhs; rw [← List.take_append_drop (k - a) (s.data.toList.drop a)]
              rw [List.drop_drop, show a + (k - a) = k by omega, ← List.getElem_cons_drop hl', HX.out, hb]
            have hsp : splitC 44 (s.data.toList.drop a) = (s.data.toList.drop a).take (k - a) :: splitC 44 (s.data.toList.drop (k + 1)) := by
              conv => lhs; rw [hda]
              exact splitC_at _ HNO.out
            have HSP := Go.Lib.hid hsp
            clear hb hda hsp
            have hxl2 : (xs.map bOf).length + 1 ≤ 1000000000000 := by rw [List.length_map]; omega
            have hwf : (s.extract a k).size ≤ maxLen := by
              rw [Lib.size_eq, Lib.extract_data, List.length_take, List.length_drop, HSZ.out]; unfold maxLen; omega
            have hone := one_flat (r := strR) (w := wr) (B := wr.heap.size) (cs := [.string (s.extract a k)]) (x := s.extract a k) (E := 9) rfl ⟨rfl, hwf⟩
            have HONE := Go.Lib.hid hone
            have HOA := Go.Lib.hid (ow_alloc HO.out (.cells #[.string (s.extract a k)] 9))
            have HBA := Go.Lib.hid (HB.out.alloc HB.out.size (.cells #[.string (s.extract a k)] 9))
            have HN1 := Go.Lib.hid hxl2
            clear hone hwf hxl2
            go_wp2_with (at_builtin; refine wpList_gen (base := w.heap.size) elt_strA rfl (.tmp 27) (.tmp 32) rfl HOA.out HONE.out (fun _ _ h => h) rfl rfl HN1.out (by decide) ?_; intro v2 w2 ho2 hg2; have B2 := Go.Lib.hid (HOA.out.below_grown HBA.out hg2.grown))
            go_roundw
            case rel =>
              refine ⟨k + 1, k + 1, xs ++ [(s.data.toList.drop a).take (k - a)], by omega, by go_num, by go_num, by rw [List.map_append, List.map_singleton, ext_data]; exact ho2, B2.out, by simp; omega, .inr ⟨by omega, Nat.le_refl _, ?_, by simp⟩⟩
              rw [HS.out, HSP.out]; simp
            case measure => simp [intOf]; omega
          · have hbe : ((s[k].toNat : Int) == 44) = false := by
              rw [beq_eq_false_iff_ne]; intro e
              exact hb (UInt8.toNat_inj.1 (by have : (44 : UInt8).toNat = 44 := rfl; omega))
            have HBN := Go.Lib.hid hb
            clear hb
            go_wp2_with fail
            go_roundw
            case rel =>
              refine ⟨k + 1, a, xs, by omega, by go_num, rfl, HO.out, HB.out, by omega, .inr ⟨by omega, by omega, HS.out, ?_⟩⟩
              rw [show k + 1 - a = (k - a) + 1 by omega, List.take_add_one, HDK.out]
              intro h
              rcases List.mem_append.1 h with h | h
              · exact HNO.out h
              · simp at h; exact HBN.out h.symm
            case measure => simp [intOf]; omega
        · have hke : k = s.size := by omega
          have hbe : ((k : Int) == (s.size : Int)) = true := by rw [hke]; simp
          have htk : (s.data.toList.drop a).take (k - a) = s.data.toList.drop a := List.take_of_length_le (by rw [List.length_drop, HSZ.out]; omega)
          have hsp : splitC 44 (s.data.toList.drop a) = [(s.data.toList.drop a).take (k - a)] := by
            rw [htk] at HNO
            rw [htk]; exact splitC_no HNO.out
          have HSP := Go.Lib.hid hsp
          have HKE := Go.Lib.hid hke
          clear hke htk hsp
          have hxl2 : (xs.map bOf).length + 1 ≤ 1000000000000 := by rw [List.length_map]; omega
          have hwf : (s.extract a k).size ≤ maxLen := by
            rw [Lib.size_eq, Lib.extract_data, List.length_take, List.length_drop, HSZ.out]; unfold maxLen; omega
          have hone := one_flat (r := strR) (w := wr) (B := wr.heap.size) (cs := [.string (s.extract a k)]) (x := s.extract a k) (E := 9) rfl ⟨rfl, hwf⟩
          have HONE := Go.Lib.hid hone
          have HOA := Go.Lib.hid (ow_alloc HO.out (.cells #[.string (s.extract a k)] 9))
          have HBA := Go.Lib.hid (HB.out.alloc HB.out.size (.cells #[.string (s.extract a k)] 9))
          have HN1 := Go.Lib.hid hxl2
          clear hone hwf hxl2
          go_wp2_with (at_builtin; refine wpList_gen (base := w.heap.size) elt_strA rfl (.tmp 27) (.tmp 32) rfl HOA.out HONE.out (fun _ _ h => h) rfl rfl HN1.out (by decide) ?_; intro v2 w2 ho2 hg2; have B2 := Go.Lib.hid (HOA.out.below_grown HBA.out hg2.grown))
          go_roundw
          case rel =>
            refine ⟨k + 1, k + 1, xs ++ [(s.data.toList.drop a).take (k - a)], by omega, by go_num, by go_num, by rw [List.map_append, List.map_singleton, ext_data]; exact ho2, B2.out, by simp; omega, .inl ⟨by rw [HKE.out], ?_⟩⟩
            rw [HS.out, HSP.out]
          case measure => simp [intOf]; omega
end Go.Proofs.YtlmcipnogodnfaaDoor
