/-
  
-/
import Derived.Test.YtojojpjldkpmoaaGreatDoorGGrA
set_option linter.unusedVariables false
set_option linter.unusedSimpArgs false
set_option maxHeartbeats 16000000
namespace Go.Proofs.YtojojpjldkpmoaaGreatDoor
open Go.RowKit
structure Prefix where
 addr : Int
 bits : Int
def spanN (bits : Int) : Int := ((256 / 2 ^ bits.toNat : Nat) : Int)
def prefBad (p : Prefix) : Int := if 0 <= p.bits /\ p.bits <= 8 /\ 0 <= p.addr /\ p.addr <= 255 then (if p.addr % spanN p.bits = 0 then 0 else 4) else 2
def prefOrd (p q : Prefix) : Bool := decide (p.addr < q.addr) || (decide (p.addr = q.addr) && decide (p.bits < q.bits))
def chkPrefs (l : List Prefix) : Int := if 6 < l.length then 1 else seqChk prefBad prefOrd l (l.length - 0) 0
def prefR : Rep Prefix := flatR 2 (fun s => [.int .i64 s.addr, .int .i64 s.bits]) (fun s => inR s.addr /\ inR s.bits) (fun _ => rfl) (fun x u h => by simp at h; rcases h with rfl | rfl <;> rfl)
theorem Sl.pref {w : World} {b off c n : Nat} {xs : List Prefix} (h : Sl prefR w (.slice (some ⟨b, off, none⟩) n c) xs) {k : Nat} (hk : k < xs.length) :
  w.cell? ⟨b, off + k * 2, none⟩ = some (.int .i64 xs[k].addr) /\ w.cell? ⟨b, off + k * 2 + 1, none⟩ = some (.int .i64 xs[k].bits) /\ inR xs[k].addr /\ inR xs[k].bits := by
 obtain ⟨cs, ⟨rfl, hw⟩, hc⟩ := h.cell hk
 exact ⟨hc 0 _ rfl, hc 1 _ rfl, hw⟩
theorem i64_of (a : Nat) (ha : a < 9223372036854775808) : (BitVec.ofInt 64 (a : Int)).toNat = a := by
 rw [BitVec.ofInt_natCast, BitVec.toNat_ofNat]; exact zbM (by omega)
theorem i64_and (a b : Nat) (ha : a < 9223372036854775808) (hb : b < 9223372036854775808) : bits .and .i64 (a : Int) (b : Int) = ((a &&& b : Nat) : Int) := by
 have hx : a &&& b < 2 ^ 63 := Nat.and_lt_two_pow _ (by omega)
 show IntKind.i64.wrap ((BitVec.ofInt 64 (a : Int) &&& BitVec.ofInt 64 (b : Int)).toNat : Int) = _
 rw [BitVec.toNat_and, i64_of a ha, i64_of b hb, IntKind.wrap_i64]
 omega
theorem and_span (a b : Int) (h1 : 0 <= b) (h2 : b <= 8) (h3 : 0 <= a) (h4 : a <= 255) : bits .and .i64 a (255 / 2 ^ b.toNat) = a % spanN b := by
 obtain ⟨n, rfl⟩ := zaZ h1
 obtain ⟨m, rfl⟩ := zaZ h3
 rw [zaL]
 have hn : n <= 8 := by omega
 have hs : spanN (n : Int) = ((2 ^ (8 - n) : Nat) : Int) := by
  unfold spanN
  rw [zaL]
  have : ∀ n, n <= 8 -> 256 / 2 ^ n = 2 ^ (8 - n) := by decide
  rw [this n hn]
 have hm : ((255 : Int) / 2 ^ n) = ((2 ^ (8 - n) - 1 : Nat) : Int) := by
  have : ∀ n, n <= 8 -> ((255 : Int) / 2 ^ n) = ((2 ^ (8 - n) - 1 : Nat) : Int) := by decide
  exact this n hn
 have hp : 2 ^ (8 - n) <= 256 := by
  have : ∀ n, n <= 8 -> 2 ^ (8 - n) <= 256 := by decide
  exact this n hn
 rw [hm, hs, i64_and m (2 ^ (8 - n) - 1) (by omega) (by omega), Nat.and_two_pow_sub_one_eq_mod]
 omega
theorem prefOrd_iff (p q : Prefix) : prefOrd p q = true ↔ p.addr < q.addr ∨ (p.addr = q.addr /\ p.bits < q.bits) := by simp [prefOrd]
theorem checkPrefs_any (v : Value) (xs : List Prefix) (w : World) (h : Sl prefR w v xs) :
  Calls Tryz.prog 53 #[v] w fun e w' => e = .returned (.int .i64 (chkPrefs xs)) /\ Below w.heap.size w w' := by
 have hl := h.len_le
 obtain ⟨A, c, rfl⟩ := h.form
 have H := zaa h
 clear h
 by_cases h6 : 6 < xs.length
 · have h6' : (6 : Int) < (xs.length : Int) := by omega
   go_enter Tryz.func53, Tryz.ntmps53
   go_wp2_with fail
   go_ret
   exact ⟨ei (by simp [chkPrefs, h6]), zad _ _⟩
 · have h6' : ¬ (6 : Int) < (xs.length : Int) := by omega
   go_enter Tryz.func53, Tryz.ntmps53
   go_wp2_with fail
   have hs0 : chkPrefs xs = seqChk prefBad prefOrd xs (xs.length - 0) 0 := by simp [chkPrefs, h6]
   go_loopw [2, 3, 4, 10, 12, 13, 14] (fun _ _ _ i _ _ _ wr => ∃ k : Nat, k <= xs.length /\ i = .int .i64 k /\ Below w.heap.size w wr /\ chkPrefs xs = seqChk prefBad prefOrd xs (xs.length - k) k) (fun _ _ _ i _ _ _ _ => xs.length - (intOf i).toNat)
   case atStart => exact ⟨0, zak _, rfl, zad _ _, hs0⟩
   case round =>
    obtain ⟨k, hk, rfl, hB, hs⟩ := hrel
    have HS := zaa hs
    clear hs hs0
    by_cases hlt : k < xs.length
    · obtain ⟨b, off, rfl, hb⟩ := H.out.at_ hlt
      obtain ⟨f1, f2, _, _⟩ := (H.out.below hB).pref hlt
      have hbw : b < wr.heap.size := by have := hB.size; omega
      have HB := zaa (hB.alloc hB.size (.cells #[.int .i64 xs[k].addr, .int .i64 xs[k].bits] 32))
      by_cases hok : 0 <= xs[k].bits /\ xs[k].bits <= 8 /\ 0 <= xs[k].addr /\ xs[k].addr <= 255
      · obtain ⟨o1, o2, o3, o4⟩ := hok
        have o1' : ¬ xs[k].bits < 0 := by omega
        have o2' : ¬ 8 < xs[k].bits := by omega
        have o3' : ¬ xs[k].addr < 0 := by omega
        have o4' : ¬ 255 < xs[k].addr := by omega
        go_wp2_with fail
        go_quiet (fail)
        have hand := and_span xs[k].addr xs[k].bits o1 o2 o3 o4
        have HAND := zaa hand
        clear hand
        go_wp2_with fail
        · go_ret
          have hne := ‹(bits BinOp.and IntKind.i64 xs[k].addr (255 / 2 ^ xs[k].bits.toNat) != 0) = true›
          rw [HAND.out, bne_iff_ne] at hne
          have hbad : prefBad xs[k] = 4 := by unfold prefBad; rw [if_pos ⟨o1, o2, o3, o4⟩, if_neg hne]
          exact ⟨ei (by rw [HS.out, sc_bad xs k hlt (by rw [hbad]; decide)]; exact hbad.symm), bDrewN HB.out _⟩
        · have heq := ‹(bits BinOp.and IntKind.i64 xs[k].addr (255 / 2 ^ xs[k].bits.toNat) != 0) = false›
          rw [HAND.out] at heq
          have hbad : prefBad xs[k] = 0 := by unfold prefBad; rw [if_pos ⟨o1, o2, o3, o4⟩, if_pos (by simpa using heq)]
          have HBAD := zaa hbad
          clear hbad heq
          rcases zaJ k with h0 | h0
          · subst h0
            go_quiet (fail)
            go_wp2
            go_roundw
            case rel => exact ⟨1, by omega, by go_num, bDrewN HB.out _, by rw [HS.out]; exact sc_first xs hlt HBAD.out⟩
            case measure => simp [intOf]; omega
          · obtain ⟨m, rfl⟩ : ∃ m, k = m + 1 := ⟨k - 1, by omega⟩
            have hd : decide ((0 : Int) < (m : Int) + 1) = true := by rw [decide_eq_true_iff]; omega
            have hm : m < xs.length := by omega
            have q2 : (m : Int) < (xs.length : Int) := by omega
            obtain ⟨g1, g2, _, _⟩ := (H.out.below hB).pref hm
            rcases Int.lt_trichotomy xs[m].addr xs[m + 1].addr with hx | hx | hx
            · have t1 : decide (xs[m + 1].addr < xs[m].addr) = false := by rw [decide_eq_false_iff_not]; omega
              have t2 : (xs[m].addr == xs[m + 1].addr) = false := by rw [beq_eq_false_iff_ne]; omega
              have HO := zaa ((prefOrd_iff xs[m] xs[m + 1]).2 (.inl hx))
              clear hx
              go_quiet (fail)
              go_wp2
              go_roundw
              case rel => exact ⟨m + 1 + 1, by omega, by go_num, bDrewN HB.out _, by rw [HS.out]; exact sc_next xs m hlt HBAD.out HO.out⟩
              case measure => simp [intOf]; omega
            · have t1 : decide (xs[m + 1].addr < xs[m].addr) = false := by rw [decide_eq_false_iff_not]; omega
              have t2 : (xs[m].addr == xs[m + 1].addr) = true := by rw [beq_iff_eq]; exact hx
              by_cases hy : xs[m].bits < xs[m + 1].bits
              · have t3 : decide (xs[m + 1].bits <= xs[m].bits) = false := by rw [decide_eq_false_iff_not]; omega
                have HO := zaa ((prefOrd_iff xs[m] xs[m + 1]).2 (.inr ⟨hx, hy⟩))
                clear hx hy
                go_quiet (fail)
                go_wp2
                go_roundw
                case rel => exact ⟨m + 1 + 1, by omega, by go_num, bDrewN HB.out _, by rw [HS.out]; exact sc_next xs m hlt HBAD.out HO.out⟩
                case measure => simp [intOf]; omega
              · have t3 : decide (xs[m + 1].bits <= xs[m].bits) = true := by rw [decide_eq_true_iff]; omega
                have ho : prefOrd xs[m] xs[m + 1] = false := by rw [Bool.eq_false_iff]; intro e; rw [prefOrd_iff] at e; omega
                have HO := zaa ho
                clear hx hy ho
                go_quiet (fail)
                go_wp2
                go_ret
                exact ⟨ei (by rw [HS.out, sc_order xs m hlt HBAD.out HO.out]), by first | exact bDrewN HB.out _ | exact bDrewN (bDrewN HB.out _) _⟩
            · have t1 : decide (xs[m + 1].addr < xs[m].addr) = true := by rw [decide_eq_true_iff]; omega
              have ho : prefOrd xs[m] xs[m + 1] = false := by rw [Bool.eq_false_iff]; intro e; rw [prefOrd_iff] at e; omega
              have HO := zaa ho
              clear hx ho
              go_quiet (fail)
              go_wp2
              go_ret
              exact ⟨ei (by rw [HS.out, sc_order xs m hlt HBAD.out HO.out]), by first | exact bDrewN HB.out _ | exact bDrewN (bDrewN HB.out _) _⟩
      · have hbad : prefBad xs[k] = 2 := by unfold prefBad; rw [if_neg hok]
        have HBAD := zaa hbad
        have hdis : xs[k].bits < 0 ∨ 8 < xs[k].bits ∨ xs[k].addr < 0 ∨ 255 < xs[k].addr := by omega
        clear hbad hok
        rcases hdis with hx | hx | hx | hx
        all_goals
         go_wp2_with fail
         all_goals (go_ret; exact ⟨ei (by rw [HS.out, sc_bad xs k hlt (by rw [HBAD.out]; decide)]; exact HBAD.out.symm), HB.out⟩)
    · go_wp2_with fail
      go_ret
      exact ⟨ei (by rw [HS.out, sc_end xs k (by omega)]), hB⟩
end Go.Proofs.YtojojpjldkpmoaaGreatDoor
