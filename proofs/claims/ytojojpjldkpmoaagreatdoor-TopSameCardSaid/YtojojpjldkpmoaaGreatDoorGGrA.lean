/-
  
-/
import Derived.Test.YtojojpjldkpmoaaGreatDoorGRow
import Derived.Test.YtojojpjldkpmoaaGreatDoorGStB
set_option linter.unusedVariables false
set_option linter.unusedSimpArgs false
set_option maxHeartbeats 16000000
namespace Go.Proofs.YtojojpjldkpmoaaGreatDoor
open Go.RowKit
def seqChk {α : Type} (bad : α -> Int) (ord : α -> α -> Bool) (l : List α) : Nat -> Nat -> Int
 | 0, _ => 0
 | n + 1, k =>
   match l[k]? with
   | none => 0
   | some e => if bad e ≠ 0 then bad e else
     if (match k with | 0 => false | j + 1 => match l[j]? with | some p => !ord p e | none => false) = true then 7 else seqChk bad ord l n (k + 1)
section
variable {α : Type} {bad : α -> Int} {ord : α -> α -> Bool}
theorem sc_end (l : List α) (k : Nat) (h : l.length <= k) (n : Nat) : seqChk bad ord l n k = 0 := by
 cases n with
 | zero => rfl
 | succ n => unfold seqChk; rw [zbG h]
theorem sc_bad (l : List α) (k : Nat) (hk : k < l.length) (h : bad l[k] ≠ 0) : seqChk bad ord l (l.length - k) k = bad l[k] := by
 obtain ⟨n, hn⟩ : ∃ n, l.length - k = n + 1 := ⟨l.length - k - 1, by omega⟩
 rw [hn]; unfold seqChk; rw [zac hk]; simp [h]
theorem sc_first (l : List α) (hk : 0 < l.length) (h : bad l[0] = 0) : seqChk bad ord l (l.length - 0) 0 = seqChk bad ord l (l.length - 1) 1 := by
 obtain ⟨n, hn⟩ : ∃ n, l.length = n + 1 := ⟨l.length - 1, by omega⟩
 rw [show l.length - 1 = n by omega, show l.length - 0 = n + 1 by omega]
 conv => lhs; unfold seqChk
 rw [zac hk]; simp [h]
theorem sc_order (l : List α) (j : Nat) (hk : j + 1 < l.length) (h : bad l[j + 1] = 0) (ho : ord l[j] l[j + 1] = false) : seqChk bad ord l (l.length - (j + 1)) (j + 1) = 7 := by
 obtain ⟨n, hn⟩ : ∃ n, l.length - (j + 1) = n + 1 := ⟨l.length - (j + 1) - 1, by omega⟩
 have h1 : l[j]? = some l[j] := zac (by omega)
 rw [hn]; unfold seqChk; rw [zac hk]; simp [h, ho, h1]
theorem sc_next (l : List α) (j : Nat) (hk : j + 1 < l.length) (h : bad l[j + 1] = 0) (ho : ord l[j] l[j + 1] = true) : seqChk bad ord l (l.length - (j + 1)) (j + 1) = seqChk bad ord l (l.length - (j + 1 + 1)) (j + 1 + 1) := by
 obtain ⟨n, hn⟩ : ∃ n, l.length - (j + 1) = n + 1 := ⟨l.length - (j + 1) - 1, by omega⟩
 rw [hn, show l.length - (j + 1 + 1) = n by omega]
 conv => lhs; unfold seqChk
 have h1 : l[j]? = some l[j] := zac (by omega)
 rw [zac hk]; simp [h, ho, h1]
end
structure Side where
 node : Int
 cost : Int
def sideBad (s : Side) : Int := if 0 <= s.node /\ s.node <= 11 /\ 1 <= s.cost /\ s.cost <= 1000 then 0 else 2
def sideOrd (p s : Side) : Bool := decide (p.node < s.node)
def chkSides (l : List Side) : Int := seqChk sideBad sideOrd l (l.length - 0) 0
def sideR : Rep Side := flatR 2 (fun s => [.int .i64 s.node, .int .i64 s.cost]) (fun s => inR s.node /\ inR s.cost) (fun _ => rfl) (fun x u h => by simp at h; rcases h with rfl | rfl <;> rfl)
theorem Sl.side {w : World} {b off c n : Nat} {xs : List Side} (h : Sl sideR w (.slice (some ⟨b, off, none⟩) n c) xs) {k : Nat} (hk : k < xs.length) :
  w.cell? ⟨b, off + k * 2, none⟩ = some (.int .i64 xs[k].node) /\ w.cell? ⟨b, off + k * 2 + 1, none⟩ = some (.int .i64 xs[k].cost) /\ inR xs[k].node /\ inR xs[k].cost := by
 obtain ⟨cs, ⟨rfl, hw⟩, hc⟩ := h.cell hk
 exact ⟨hc 0 _ rfl, hc 1 _ rfl, hw⟩
theorem checkAdj_any (d : Bool) (v : Value) (xs : List Side) (w : World) (h : Sl sideR w v xs) :
  Calls Tryz.prog 91 #[.agg #[.bool d, v]] w fun e w' => e = .returned (.int .i64 (chkSides xs)) /\ Below w.heap.size w w' := by
 have hl := h.len_le
 obtain ⟨A, c, rfl⟩ := h.form
 have H := zaa h
 clear h
 go_enter Tryz.func91, Tryz.ntmps91
 go_wp2_with fail
 go_loopw [2, 3, 4, 8, 10, 11, 12] (fun _ _ _ i _ _ _ wr => ∃ k : Nat, k <= xs.length /\ i = .int .i64 k /\ Below w.heap.size w wr /\ w.heap.size < wr.heap.size /\ wr.cell? ⟨w.heap.size, 1, none⟩ = some (.slice A xs.length c) /\ chkSides xs = seqChk sideBad sideOrd xs (xs.length - k) k) (fun _ _ _ i _ _ _ _ => xs.length - (intOf i).toNat)
 case atStart => exact ⟨0, zak _, rfl, (zad _ _).alloc (zab _) _, by simp, by rw [zae _ _ _ _ rfl]; rfl, rfl⟩
 case round =>
  obtain ⟨k, hk, rfl, hB, hz, hbox, hs⟩ := hrel
  have HS := zaa hs
  clear hs
  by_cases hlt : k < xs.length
  · obtain ⟨b, off, rfl, hb⟩ := H.out.at_ hlt
    obtain ⟨f1, f2, _, _⟩ := (H.out.below hB).side hlt
    have hbw : b < wr.heap.size := by have := hB.size; omega
    have HB := zaa (hB.alloc hB.size (.cells #[.int .i64 xs[k].node, .int .i64 xs[k].cost] 99))
    by_cases hok : 0 <= xs[k].node /\ xs[k].node <= 11 /\ 1 <= xs[k].cost /\ xs[k].cost <= 1000
    · obtain ⟨o1, o2, o3, o4⟩ := hok
      have hbad : sideBad xs[k] = 0 := by unfold sideBad; rw [if_pos ⟨o1, o2, o3, o4⟩]
      have HBAD := zaa hbad
      clear hbad
      have o1' : ¬ xs[k].node < 0 := by omega
      have o2' : ¬ 12 <= xs[k].node := by omega
      have o3' : ¬ xs[k].cost < 1 := by omega
      have o4' : ¬ 1000 < xs[k].cost := by omega
      have hbox2 : (wr.alloc (.cells #[.int .i64 xs[k].node, .int .i64 xs[k].cost] 99)).cell? ⟨w.heap.size, 1, none⟩ = some (.slice (some ⟨b, off, none⟩) xs.length c) := by
       rw [World.cell?_alloc_lt _ _ _ (by show _ < _; omega)]; exact hbox
      have HBOX := zaa hbox2
      clear hbox2
      go_wp2_with fail
      rcases zaJ k with h0 | h0
      · subst h0
        go_quiet (fail)
        go_wp2
        go_roundw
        case rel => exact ⟨1, by omega, by go_num, bDrewN HB.out _, by simp; omega, HBOX.out, by rw [HS.out]; exact sc_first xs hlt HBAD.out⟩
        case measure => simp [intOf]; omega
      · obtain ⟨m, rfl⟩ : ∃ m, k = m + 1 := ⟨k - 1, by omega⟩
        have hd : decide ((0 : Int) < (m : Int) + 1) = true := by rw [decide_eq_true_iff]; omega
        have hm : m < xs.length := by omega
        have q2 : (m : Int) < (xs.length : Int) := by omega
        obtain ⟨g1, _, _, _⟩ := (H.out.below hB).side hm
        go_quiet (fail)
        go_wp2
        · go_ret
          have ho : sideOrd xs[m] xs[m + 1] = false := by unfold sideOrd; rw [decide_eq_false_iff_not]; omega
          exact ⟨ei (by rw [HS.out, sc_order xs m hlt HBAD.out ho]), bDrewN HB.out _⟩
        · have ho : sideOrd xs[m] xs[m + 1] = true := by unfold sideOrd; rw [decide_eq_true_iff]; omega
          go_roundw
          case rel => exact ⟨m + 1 + 1, by omega, by go_num, bDrewN HB.out _, by simp; omega, HBOX.out, by rw [HS.out]; exact sc_next xs m hlt HBAD.out ho⟩
          case measure => simp [intOf]; omega
    · have hbad : sideBad xs[k] = 2 := by unfold sideBad; rw [if_neg hok]
      have HBAD := zaa hbad
      have hdis : xs[k].node < 0 ∨ 12 <= xs[k].node ∨ xs[k].cost < 1 ∨ 1000 < xs[k].cost := by omega
      clear hbad hok
      rcases hdis with hx | hx | hx | hx
      all_goals
       go_wp2_with fail
       all_goals (go_ret; exact ⟨ei (by rw [HS.out, sc_bad xs k hlt (by rw [HBAD.out]; decide)]; exact HBAD.out.symm), HB.out⟩)
  · go_wp2_with fail
    go_ret
    exact ⟨ei (by rw [HS.out, sc_end xs k (by omega)]), hB⟩
end Go.Proofs.YtojojpjldkpmoaaGreatDoor
