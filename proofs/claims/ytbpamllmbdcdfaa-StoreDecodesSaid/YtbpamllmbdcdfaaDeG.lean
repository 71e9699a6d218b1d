/-
  Walks of StoreOf, part G: the spool's next.
-/
import Derived.Test.YtbpamllmbdcdfaaDeF
import Derived.Test.YtbpamllmbdcdfaaDeC
namespace Go.Proofs.Ytbpamllmbdcdfaa
open Go.RowKit Go.Deep

theorem wrap_sum (m c P q : Nat) (hq : c % 128 * P = q) (hm : m < 562949953421312) (hb : q ≤ 127 * 562949953421312) : wrap64 ((m : Int) + wrap64 ((c : Int) % 128 * (P : Int))) = ((m + q : Nat) : Int) := by
  have e : (c : Int) % 128 * (P : Int) = (q : Int) := by rw [← hq]; push_cast; rfl
  rw [e]
  unfold wrap64
  omega
set_option maxRecDepth 100000 in
set_option maxHeartbeats 2000000 in
theorem snext_any (w : World) (g : Nat) (L : List UInt8) (s : RSt) (h : SpAt w g L s) :
    Calls Try.prog 96 #[.pointer (some ⟨g, 0, none⟩)] w (SpPost pNum (Value.int .i64) (fun a => 0 ≤ a ∧ a < 9223372036854775808) w g L s) := by
  have HR := Go.Lib.hid h
  have hst : NumAt s s 0 0 := by
    by_cases hs : s.2 = 0
    · exact .inl ⟨hs, hs, rfl, by omega, by decide⟩
    · exact .inr ⟨hs, fun _ => rfl, fun h => absurd h hs, by omega⟩
  have HST := Go.Lib.hid hst
  clear h hst
  go_enter Try.func96, Try.ntmps96
  go_wp2_with fail
  go_loopw [3, 4, 5, 6] (fun s3 s4 s5 _ wr => ∃ (m i : Nat) (s' : RSt), s3 = .int .i64 m ∧ s4 = .int .i64 ((128 ^ i : Nat) : Int) ∧ s5 = .int .i64 i ∧ m < 9223372036854775808 ∧ NumAt s s' i m ∧ SpAt wr g L s' ∧ w.grownBy wr (some g)) (fun _ _ s5 _ _ => 9 - (intOf s5).toNat)
  case atStart => exact ⟨0, 0, s, rfl, rfl, rfl, by omega, HST.out, HR.out, World.grownBy.refl _ _⟩
  case round =>
    obtain ⟨m, i, s', rfl, rfl, rfl, hm, hna, hrd, hgr⟩ := hrel
    have HRD := Go.Lib.hid hrd
    have HGR := Go.Lib.hid hgr
    have HNA := Go.Lib.hid hna
    obtain ⟨A, c, q, hg, f0, f1, f2, f3, _, _, _, _⟩ := hrd
    clear hgr
    by_cases he : s'.2 = 0
    · rcases hna with ⟨_, hs0, hpn, hi7, hmi⟩ | ⟨hx, _⟩
      · have HS0 := Go.Lib.hid hs0
        have HPN := Go.Lib.hid hpn
        have HBY := Go.Lib.hid (sone_any wr g L s' HRD.out)
        have HE := Go.Lib.hid he
        rw [he] at f2
        clear hs0 hpn he
        go_wp2_with fail
        refine HBY.out.mono ?_
        rintro e w1 ⟨a, s1, rfl, hst, ha, hr1, hg1⟩
        obtain ⟨cn, rfl⟩ := Int.eq_ofNat_of_zero_le ha.1
        have hcn : cn ≤ 255 := by omega
        clear f0 f1 f2 f3 hg ha
        have HR1 := Go.Lib.hid hr1
        have HG1 := Go.Lib.hid (HGR.out.trans hg1)
        obtain ⟨A1, c1, q1, hg, f0, f1, f2, f3, _, _, _, _⟩ := hr1
        clear hg1
        have hp7 := pow_le7 i hi7
        have hmul : cn % 128 * 128 ^ i ≤ 127 * 562949953421312 := Nat.mul_le_mul (by omega) hp7
        rcases hp : pByte s'.1 with e | ⟨c0, r⟩
        · have h5 := (hst.2 HE.out).2 e hp
          have hne : s1.2 ≠ 0 := by rw [h5]; exact pByte_err hp
          have t1 : (s1.2 == 0) = false := by simpa using hne
          have t2 : (s1.2 != 0) = true := by simpa using hne
          have HN := Go.Lib.hid (show pNum s.1 = .error s1.2 by
            rw [HPN.out, h5]
            cases hq : s'.1 with
            | nil => rw [hq] at hp; rw [pNumGo_nil]; simpa [pByte] using hp
            | cons c0 r => rw [hq] at hp; simp [pByte] at hp)
          clear hst hp h5 hmul hp7
          go_wp2_with fail
          go_ret
          exact ⟨0, s1, rfl, .err HS0.out HN.out rfl, by omega, HR1.out, HG1.out⟩
        · obtain ⟨rfl, rfl⟩ := (hst.2 HE.out).1 _ _ hp
          obtain ⟨x, hx⟩ : ∃ x : UInt8, s'.1 = x :: r ∧ cn = x.toNat := by
            cases hq : s'.1 with
            | nil => rw [hq] at hp; simp [pByte] at hp
            | cons x r' =>
              rw [hq] at hp
              simp only [pByte, Except.ok.injEq, Prod.mk.injEq] at hp
              exact ⟨x, by rw [hp.2], by omega⟩
          have hstep := pNumGo_cons i m x r
          rw [← hx.1, ← HPN.out, ← hx.2] at hstep
          have HSTEP := Go.Lib.hid hstep
          simp only at f2
          clear hst hp hx hstep
          by_cases hbad : i = 7 ∨ (0 < i ∧ cn = 0)
          · have H1 := Go.Lib.hid (HR1.out.err 4)
            have HN := Go.Lib.hid (show pNum s.1 = .error 4 by rw [HSTEP.out, if_pos hbad])
            by_cases h7 : i = 7
            · have t7 : ((i : Int) == 7) = true := by simp; omega
              clear hbad h7 hmul hp7
              go_wp2_with fail
              go_ret
              exact ⟨0, (r, 4), rfl, .err HS0.out HN.out rfl, by omega, H1.out.1, HG1.out.trans H1.out.2⟩
            · have t7 : ((i : Int) == 7) = false := by simp; omega
              have h0 : (0 : Int) < (i : Int) := by omega
              have t8 : ((cn : Int) == 0) = true := by simp; omega
              clear hbad h7 hmul hp7
              go_wp2_with fail
              go_ret
              exact ⟨0, (r, 4), rfl, .err HS0.out HN.out rfl, by omega, H1.out.1, HG1.out.trans H1.out.2⟩
          · have HG := Go.Lib.hid hbad
            have t7 : ((i : Int) == 7) = false := by simp; omega
            obtain ⟨P, hP⟩ : ∃ P, 128 ^ i = P := ⟨_, rfl⟩
            have HV := Go.Lib.hid (show wrap64 ((m : Int) + wrap64 ((cn : Int) % 128 * (P : Int))) = ((m + cn % 128 * 128 ^ i : Nat) : Int) by
              rw [hP] at hmi hp7 hmul ⊢
              exact wrap_sum m cn P _ rfl (Nat.lt_of_lt_of_le hmi hp7) hmul)
            have HU := Go.Lib.hid (show (128 : Int) * (P : Int) = ((128 ^ (i + 1) : Nat) : Int) by rw [Nat.pow_succ, hP]; omega)
            by_cases h0 : 0 < i
            · have h0' : (0 : Int) < (i : Int) := by omega
              have t8 : ((cn : Int) == 0) = false := by simp; omega
              clear hbad h0
              go_wp2_with fail
              · have hc := ‹(cn : Int) < 128›
                go_ret
                exact ⟨((m + cn % 128 * 128 ^ i : Nat) : Int), (r, 0), ei (by rw [HV.out]), .ok HS0.out (by rw [HSTEP.out, if_neg HG.out, if_pos (by omega)]), by omega, HR1.out, HG1.out⟩
              · have hc := ‹128 ≤ (cn : Int)›
                refine ⟨⟨m + cn % 128 * 128 ^ i, i + 1, (r, 0), by rw [HV.out], ?_, by go_num, by omega, .inl ⟨rfl, HS0.out, by rw [HSTEP.out, if_neg HG.out, if_neg (by omega)], ?_, ?_⟩, HR1.out, HG1.out⟩, by simp [intOf]; omega⟩
                · rw [HU.out]
                · have := HG.out; omega
                · rw [Nat.pow_succ]
                  have h1 : cn % 128 * 128 ^ i ≤ 127 * 128 ^ i := Nat.mul_le_mul_right _ (by omega)
                  omega
            · have h0' : ¬ (0 : Int) < (i : Int) := by omega
              clear hbad h0
              go_wp2_with fail
              · have hc := ‹(cn : Int) < 128›
                go_ret
                exact ⟨((m + cn % 128 * 128 ^ i : Nat) : Int), (r, 0), ei (by rw [HV.out]), .ok HS0.out (by rw [HSTEP.out, if_neg HG.out, if_pos (by omega)]), by omega, HR1.out, HG1.out⟩
              · have hc := ‹128 ≤ (cn : Int)›
                refine ⟨⟨m + cn % 128 * 128 ^ i, i + 1, (r, 0), by rw [HV.out], ?_, by go_num, by omega, .inl ⟨rfl, HS0.out, by rw [HSTEP.out, if_neg HG.out, if_neg (by omega)], ?_, ?_⟩, HR1.out, HG1.out⟩, by simp [intOf]; omega⟩
                · rw [HU.out]
                · have := HG.out; omega
                · rw [Nat.pow_succ]
                  have h1 : cn % 128 * 128 ^ i ≤ 127 * 128 ^ i := Nat.mul_le_mul_right _ (by omega)
                  omega
      · exact absurd he hx
    · have t1 : (s'.2 == 0) = false := by simpa using he
      have HE := Go.Lib.hid he
      clear he hna
      go_wp2_with fail
      go_ret
      exact ⟨(m : Int), s', rfl, HNA.out.off HE.out _, by omega, HRD.out, HGR.out⟩
end Go.Proofs.Ytbpamllmbdcdfaa
