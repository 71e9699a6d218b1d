/-
  
-/
import Derived.Test.YtojojpjldkpmoaaGreatDoorGStC
import Derived.Test.YtojojpjldkpmoaaGreatDoorGSrt
import Derived.Test.YtojojpjldkpmoaaGreatDoorGWaD
set_option linter.unusedVariables false
set_option linter.unusedSimpArgs false
set_option maxHeartbeats 16000000
namespace Go.Proofs.YtojojpjldkpmoaaGreatDoor
section
open Go.RowKit
theorem cmpB_neg (a b : ByteArray) : cmpB a b < 0 ↔ ltB a b = true := by
 unfold cmpB
 rcases e : ltB a b with _ | _
 · simp only [Bool.false_eq_true, if_false, iff_false]
   split <;> omega
 · simp
theorem cmpB_zero (a b : ByteArray) : cmpB a b = 0 ↔ a = b := by
 unfold cmpB
 constructor
 · intro h
   rcases e : ltB a b with _ | _
   · rcases e2 : ltB b a with _ | _
     · exact ltB_total e e2
     · simp [e, e2] at h
   · simp [e] at h
 · rintro rfl
   simp [ltB_irrefl]
theorem findC_any (e : Entry) (k : ByteArray) (w : World) : Calls Tryz.prog 105 #[e.val, .string k] w fun r w' => r = .returned (.int .i64 (cmpB e.key k)) /\ Below w.heap.size w w' := by
 unfold Entry.val
 have hB : Below w.heap.size w (w.alloc (.cells #[.string e.key, .int .i64 e.version, .int .i64 e.origin, .string e.value] 44)) := (zad _ _).alloc (zab _) _
 have HB := zaa hB
 clear hB
 go_enter Tryz.func105, Tryz.ntmps105
 go_wp2_with (go_at_call 106; refine (cmpStr_any _ _ _).mono ?_; rintro e w' ⟨rfl, rfl⟩)
 go_ret
 exact ⟨rfl, HB.out⟩
set_option maxRecDepth 100000 in
theorem bsearch_any (v : Value) (xs : List Entry) (k : ByteArray) (w : World) (h : Sl entR w v xs) (hord : xs.Pairwise ltE) (hl : xs.length <= 4611686018427387903) :
  Calls Tryz.prog 104 #[v, .string k, .func (.func 105) #[] #[]] w fun e w' => e = .returned (.tuple #[.int .i64 (lbE xs k : Nat), .bool (hasE xs k)]) /\ Below w.heap.size w w' := by
 obtain ⟨A, c, rfl⟩ := h.form
 have H := zaa h
 have HO := zaa hord
 clear h hord
 go_enter Tryz.func104, Tryz.ntmps104
 go_wp2_with fail
 go_loopw [9, 10, 11] (fun i j _ wr => ∃ lo hi : Nat, i = .int .i64 lo /\ j = .int .i64 hi /\ lo <= hi /\ hi <= xs.length /\ Below w.heap.size w wr /\ (∀ t, (h : t < xs.length) -> t < lo -> ltB xs[t].key k = true) /\ (∀ t, (h : t < xs.length) -> hi <= t -> ltB xs[t].key k = false)) (fun i j _ _ => (intOf j).toNat - (intOf i).toNat)
 case atStart => exact ⟨0, xs.length, rfl, rfl, zak _, zab _, zad _ _, fun t _ ht => absurd ht (Nat.not_lt_zero _), fun t h1 h2 => by omega⟩
 case round =>
  obtain ⟨lo, hi, rfl, rfl, hlh, hin, hB, hI1, hI2⟩ := hrel
  have I1 := zaa hI1
  have I2 := zaa hI2
  clear hI1 hI2
  by_cases hlt : lo < hi
  · have hm : (lo + hi) / 2 < xs.length := by omega
    obtain ⟨b, off, rfl, hb⟩ := H.out.at_ hm
    obtain ⟨f1, f2, f3, f4, _⟩ := (H.out.below hB).ent hm
    obtain ⟨y, hy⟩ : ∃ y, xs[(lo + hi) / 2] = y := ⟨_, rfl⟩
    rw [hy] at f1 f2 f3 f4
    have Y := zaa hy
    have HB := zaa hB
    clear hy hB
    go_wp2_with fail
    refine (findC_any y k _).mono ?_
    rintro r w1 ⟨rfl, hb1⟩
    have HB1 := zaa (HB.out.trans (hb1.mono HB.out.size))
    clear hb1 f1 f2 f3 f4
    by_cases hc : cmpB y.key k < 0
    · have hlt' := (cmpB_neg _ _).1 hc
      have HL := zaa hlt'
      clear hlt'
      go_wp2_with fail
      go_roundw
      case rel =>
       refine ⟨(lo + hi) / 2 + 1, hi, by first | go_num | (rw [show ((lo : Int) + (hi : Int)) / 2 + 1 = (((lo + hi) / 2 + 1 : Nat) : Int) by omega]), rfl, by omega, hin, HB1.out, fun t ht htl => ?_, I2.out⟩
       exact lt_iff HO.out (by omega) hm (by rw [Y.out]; exact HL.out)
      case measure => simp [intOf]; omega
    · have hge : ltB y.key k = false := by rw [Bool.eq_false_iff]; intro e; exact hc ((cmpB_neg _ _).2 e)
      have HL := zaa hge
      clear hge
      go_wp2_with fail
      go_roundw
      case rel =>
       refine ⟨lo, (lo + hi) / 2, rfl, by first | go_num | (rw [show ((lo : Int) + (hi : Int)) / 2 = (((lo + hi) / 2 : Nat) : Int) by omega]), by omega, by omega, HB1.out, I1.out, fun t ht htl => ?_⟩
       rw [Bool.eq_false_iff]
       intro e
       have := lt_iff HO.out htl ht e
       rw [Y.out, HL.out] at this
       cases this
      case measure => simp [intOf]; omega
  · obtain rfl : lo = hi := by omega
    have hlb : lbE xs k = lo := lbE_eq xs k lo hin I1.out (fun h => I2.out lo h (zab _))
    have HLB := zaa hlb
    have HB := zaa hB
    clear hlb hB
    by_cases hn : lo < xs.length
    · obtain ⟨b, off, rfl, hb⟩ := H.out.at_ hn
      obtain ⟨f1, f2, f3, f4, _⟩ := (H.out.below HB.out).ent hn
      have hhas := hasE_iff HO.out k
      rw [HLB.out] at hhas
      obtain ⟨y, hy⟩ : ∃ y, xs[lo] = y := ⟨_, rfl⟩
      rw [hy] at f1 f2 f3 f4
      have hh : hasE xs k = true ↔ cmpB y.key k = 0 := by rw [hhas, cmpB_zero, <- hy]; exact ⟨fun ⟨_, h⟩ => h, fun h => ⟨hn, h⟩⟩
      have HH := zaa hh
      clear hhas hy hh
      go_wp2_with fail
      refine (findC_any y k _).mono ?_
      rintro r w1 ⟨rfl, hb1⟩
      have HB1 := zaa (HB.out.trans (hb1.mono HB.out.size))
      clear hb1 f1 f2 f3 f4
      go_wp2_with fail
      go_ret2
      refine ⟨?_, HB1.out⟩
      have : hasE xs k = (cmpB y.key k == 0) := by rw [Bool.eq_iff_iff, HH.out, beq_iff_eq]
      rw [HLB.out, this]
      rfl
    · go_wp2_with fail
      go_ret2
      refine ⟨?_, HB.out⟩
      have : hasE xs k = false := by
       rw [Bool.eq_false_iff]
       intro e
       obtain ⟨h1, _⟩ := (hasE_iff HO.out k).1 e
       rw [HLB.out] at h1
       exact hn h1
      rw [this, HLB.out]
      rfl
theorem find_any (v : Value) (xs : List Entry) (k : ByteArray) (w : World) (h : Sl entR w v xs) (hord : xs.Pairwise ltE) (hl : xs.length <= 4611686018427387903) :
  Calls Tryz.prog 65 #[v, .string k] w fun e w' => e = .returned (.tuple #[.int .i64 (lbE xs k : Nat), .bool (hasE xs k)]) /\ Below w.heap.size w w' := by
 have H := zaa (bsearch_any v xs k w h hord hl)
 clear h hord
 go_enter Tryz.func65, Tryz.ntmps65
 go_wp2_with fail
 refine H.out.mono ?_
 rintro r w1 ⟨rfl, hb1⟩
 have HB1 := zaa hb1
 clear hb1
 go_wp2_with fail
 go_ret2
 exact ⟨rfl, HB1.out⟩
theorem b4 {w w1 : World} (h : Below w.heap.size w w1) (a b c d : Value) :
  Below w.heap.size w ((((w1.setCell ⟨w.heap.size, 0, none⟩ a).setCell ⟨w.heap.size, 1, none⟩ b).setCell ⟨w.heap.size, 2, none⟩ c).setCell ⟨w.heap.size, 3, none⟩ d) :=
 (((h.setCell (zab _) _).setCell (zab _) _).setCell (zab _) _).setCell (zab _) _
def zeroE : Entry := ⟨⟨#[]⟩, 0, 0, ⟨#[]⟩⟩
def getS (xs : List Entry) (k : ByteArray) : Entry × Int :=
 if checkS xs = 0 then (match findE xs k with | some e => (e, 0) | none => (zeroE, 6)) else (zeroE, checkS xs)
theorem getS_bad {xs : List Entry} {k : ByteArray} (h : checkS xs ≠ 0) : getS xs k = (zeroE, checkS xs) := by unfold getS; rw [if_neg h]
theorem getS_none {xs : List Entry} {k : ByteArray} (h : checkS xs = 0) (h2 : hasE xs k = false) : getS xs k = (zeroE, 6) := by unfold getS; rw [if_pos h, findE_none h2]
theorem getS_some {xs : List Entry} {k : ByteArray} (h : checkS xs = 0) (h2 : hasE xs k = true) : ∃ hl : lbE xs k < xs.length, getS xs k = (xs[lbE xs k], 0) := by
 obtain ⟨hl, hk⟩ := (hasE_iff (okS_of h).ord k).1 h2
 exact ⟨hl, by unfold getS; rw [if_pos h, findE_some (okS_of h).ord k hl hk]⟩
theorem get_any (v : Value) (xs : List Entry) (k : ByteArray) (w : World) (h : Sl entR w v xs) :
  Calls Tryz.prog 93 #[v, .string k] w fun e w' => e = .returned (.tuple #[(getS xs k).1.val, .int .i64 (getS xs k).2]) /\ Below w.heap.size w w' := by
 have hB0 : Below w.heap.size w (w.alloc (.cells #[.string ⟨#[]⟩, .int .i64 0, .int .i64 0, .string ⟨#[]⟩] 44)) := (zad _ _).alloc (zab _) _
 have H0 := zaa (h.below hB0)
 obtain ⟨A, c, rfl⟩ := h.form
 have H := zaa h
 clear h hB0
 go_enter Tryz.func93, Tryz.ntmps93
 go_wp2_with fail
 refine (check_any _ xs _ H0.out).mono ?_
 rintro r w1 ⟨rfl, hb1⟩
 obtain ⟨hA, hN, hM, hS⟩ := pastAlloc hb1
 have HA := zaa hA
 have H1 := zaa (H.out.below hA)
 clear hA hb1 H0
 by_cases hc : checkS xs = 0
 · have t1 : (checkS xs != 0) = false := by simp [hc]
   have hok := okS_of hc
   have HOK := zaa hok
   have HC := zaa hc
   have hl60 := hok.len
   clear hok hc
   go_wp2_with fail
   refine (find_any _ xs k _ H1.out HOK.out.ord (by omega)).mono ?_
   rintro r w2 ⟨rfl, hb2⟩
   have hN2 : ∀ i, w2.cell? ⟨w.heap.size, i, none⟩ = #[Value.string ⟨#[]⟩, .int .i64 0, .int .i64 0, .string ⟨#[]⟩][i]? := fun i => (bAt hb2 hS i).trans (hN i)
   have hM2 : ∀ i, w2.frozen? ⟨w.heap.size, i, none⟩ = false := fun i => (bFz hb2 hS i).trans (hM i)
   have hS2 : w.heap.size < w2.heap.size := zan hS hb2.size
   have HA2 := zaa (HA.out.trans (hb2.mono HA.out.size))
   have H2 := zaa (H.out.below HA2.out)
   clear hb2 hN hM
   rcases hh : hasE xs k with _ | _
   · have HH := zaa (getS_none HC.out hh)
     clear hh
     go_wp2_with fail
     refine bodyPost_ret (v := .tuple #[zeroE.val, .int .i64 6]) (by simp [results, Tryz.results93, go_sem, zeroE, Entry.val, *]) rfl ⟨by rw [HH.out], ?_⟩
     exact b4 HA2.out _ _ _ _
   · obtain ⟨hl, hg⟩ := getS_some HC.out hh
     obtain ⟨i, hi⟩ : ∃ i, lbE xs k = i := ⟨_, rfl⟩
     have HI := zaa hi
     have hl' : i < xs.length := by omega
     have hg' : getS xs k = (xs[i], 0) := by rw [hg]; simp only [hi]
     have HG := zaa hg'
     obtain ⟨b, off, rfl, hb⟩ := H.out.at_ hl
     obtain ⟨f1, f2, f3, f4, _⟩ := H2.out.ent hl'
     clear hh hg hg' hl
     rw [hi]
     clear hi
     go_wp2_with fail
     refine bodyPost_ret (v := .tuple #[xs[i].val, .int .i64 0]) (by simp [results, Tryz.results93, go_sem, Entry.val, *]) rfl ⟨by rw [HG.out], ?_⟩
     exact b4 HA2.out _ _ _ _
 · have t1 : (checkS xs != 0) = true := by simp [hc]
   have HG := zaa (getS_bad (k := k) hc)
   clear hc
   go_wp2_with fail
   refine bodyPost_ret (v := .tuple #[zeroE.val, .int .i64 (checkS xs)]) (by simp [results, Tryz.results93, go_sem, zeroE, Entry.val, *]) rfl ⟨by rw [HG.out], ?_⟩
   exact b4 HA.out _ _ _ _
end
end Go.Proofs.YtojojpjldkpmoaaGreatDoor
