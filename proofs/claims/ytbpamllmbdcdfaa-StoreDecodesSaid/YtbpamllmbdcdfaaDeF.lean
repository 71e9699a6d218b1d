/-
  Walks of StoreOf, part F: the spool's text and next.
-/
import Derived.Test.YtbpamllmbdcdfaaDeE
import Derived.Test.YtbpamllmbdcdfaaDeB
namespace Go.Proofs.Ytbpamllmbdcdfaa
open Go.RowKit Go.Deep

set_option maxRecDepth 100000 in
set_option maxHeartbeats 1000000 in
theorem stext_any (w : World) (g : Nat) (L : List UInt8) (s : RSt) (h : SpAt w g L s) :
    Calls Try.prog 95 #[.pointer (some ⟨g, 0, none⟩)] w (SpPost pText Value.string (fun a => a.size ≤ 255) w g L s) := by
  have HS := Go.Lib.hid h
  clear h
  go_enter Try.func95, Try.ntmps95
  go_wp2_with fail
  refine (sone_any w g L s HS.out).mono ?_
  rintro e w1 ⟨a, s1, rfl, hst, ha, hr1, hg1⟩
  have HR1 := Go.Lib.hid hr1
  have HG1 := Go.Lib.hid hg1
  obtain ⟨A, c, i, hg, f0, f1, f2, f3, hs, hi, hd, hl⟩ := hr1
  have HSR := Go.Lib.hid hs
  obtain ⟨n, hn⟩ : ∃ n, L.length = n := ⟨_, rfl⟩
  have HN := Go.Lib.hid hn
  obtain ⟨hc1, hc2⟩ := hs.cap
  rw [hn] at f0 hi hl hc1
  clear hs hg1 hn
  by_cases hn : s1.2 = 0
  · have hs0 := hst.keeps hn
    rcases hp : pByte s.1 with e | ⟨c0, r⟩
    · have := (hst.2 hs0).2 e hp
      exact absurd hn (by rw [this]; exact pByte_err hp)
    · obtain ⟨rfl, rfl⟩ := (hst.2 hs0).1 c0 r hp
      have HP := Go.Lib.hid (pText_of hp)
      have HS0 := Go.Lib.hid hs0
      obtain ⟨m, rfl⟩ := Int.eq_ofNat_of_zero_le ha.1
      simp only at f2 hd
      have hrl : r.length = n - i := by rw [hd, List.length_drop, HN.out]
      have HRL := Go.Lib.hid hrl
      have HD := Go.Lib.hid hd
      clear hp hst hn hs0 hd hrl
      by_cases hlt : (n : Int) < (i : Int) + (m : Int)
      · have HF := Go.Lib.hid (HP.out.trans (if_pos (by have := HRL.out; omega)))
        go_wp2_with fail
        go_quiet (fail)
        go_wp2_with fail
        go_ret
        exact ⟨⟨#[]⟩, (r, 5), rfl, .err HS0.out HF.out rfl, Nat.zero_le _, ((HR1.out.drewN nq).err 5).1, ((gDrew HG1.out nq)).trans ((HR1.out.drewN nq).err 5).2⟩
      · have HF := Go.Lib.hid (HP.out.trans (if_neg (by have := HRL.out; omega)))
        have him : i + m ≤ n := by omega
        have hsub := HSR.out.sub i (i + m) (by omega) (by rw [HN.out]; exact him)
        rw [show i + m - i = m by omega] at hsub
        have hst2 : (L.take (i + m)).drop i = r.take m := by rw [HD.out, List.take_drop]
        have hdr : L.drop (i + m) = r.drop m := by rw [HD.out, List.drop_drop]
        rw [hst2] at hsub
        have HSUB := Go.Lib.hid hsub
        have HDR := Go.Lib.hid hdr
        clear hsub hst2 hdr
        go_wp2_with fail
        go_quiet (fail)
        obtain ⟨q1, rfl⟩ : ∃ m, m = nq := ⟨nq, rfl⟩
        have hmv := (HR1.out.drewN q1).move (i + m) (by rw [HN.out]; exact him)
        rw [show ((i + m : Nat) : Int) = (i : Int) + (m : Int) by omega] at hmv
        have HMV := Go.Lib.hid hmv
        clear hmv
        have hsl := HSUB.out.to_sl (fun k hk => hk.1)
        have hW : ∀ k, Sl byteR (((w1.drewN q1).setCell ⟨g, 1, none⟩ (.int .i64 ((i : Int) + (m : Int)))).drewN k) (.slice (if c = i then A else A.map (·.add i)) m (c - i)) (r.take m) := fun k =>
          (HSUB.out.other (gDrew ((gDrew (World.grownBy.refl w1 (some g)) q1).trans (set_row _ g 1 _)) k)).to_sl (fun k hk => hk.1)
        have q2 := fun k => conv_str (hW k)
        clear hsl hW
        by_cases hci : c = i
        · have hm0 : m = 0 := by omega
          subst hm0
          rw [if_pos hci, show c - i = 0 by omega] at q2
          rw [Int.natCast_zero, Int.add_zero] at q2 HMV
          subst hci
          go_wp2_with fail
          go_quiet (fail)
          go_wp2_with fail
          go_ret
          refine ⟨⟨(r.take 0).toArray⟩, (r.drop 0, 0), rfl, .ok HS0.out HF.out, ?_, ?_, ?_⟩
          · show (r.take 0).toArray.size ≤ 255
            rw [List.size_toArray, List.length_take]; omega
          · have := HMV.out.1.drewN nq
            rw [HDR.out] at this
            exact this
          · exact gDrew ((gDrew HG1.out q1).trans HMV.out.2) _
        · rw [if_neg hci] at q2
          go_wp2_with fail
          go_quiet (fail)
          go_wp2_with fail
          go_ret
          refine ⟨⟨(r.take m).toArray⟩, (r.drop m, 0), rfl, .ok HS0.out HF.out, ?_, ?_, ?_⟩
          · show (r.take m).toArray.size ≤ 255
            rw [List.size_toArray, List.length_take]; omega
          · have := HMV.out.1.drewN nq
            rw [HDR.out] at this
            exact this
          · exact gDrew ((gDrew HG1.out q1).trans HMV.out.2) _
  · have t1 : (s1.2 == 0) = false := by simpa using hn
    have t2 : (s1.2 != 0) = true := by simpa using hn
    have HN' := Go.Lib.hid hn
    have HST := Go.Lib.hid hst
    clear hn hst hd
    go_wp2_with fail
    go_quiet (fail)
    go_wp2_with fail
    go_ret
    refine ⟨⟨#[]⟩, s1, rfl, ?_, Nat.zero_le _, HR1.out.drewN _, gDrew HG1.out _⟩
    refine ⟨HST.out.1, fun h0 => ⟨fun x r hx => ?_, fun e he => ?_⟩⟩
    · rcases hp : pByte s.1 with e | ⟨c0, r0⟩
      · rw [pText_of_err hp] at hx; cases hx
      · have := ((HST.out.2 h0).1 c0 r0 hp).2
        exact absurd (by rw [this]) HN'.out
    · rcases hp : pByte s.1 with e' | ⟨c0, r0⟩
      · rw [pText_of_err hp] at he
        injection he with he
        rw [← he]; exact (HST.out.2 h0).2 e' hp
      · have := ((HST.out.2 h0).1 c0 r0 hp).2
        exact absurd (by rw [this]) HN'.out
end Go.Proofs.Ytbpamllmbdcdfaa
