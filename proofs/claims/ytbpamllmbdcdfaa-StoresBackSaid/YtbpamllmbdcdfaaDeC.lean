/-
  Walks of Decode, part C: the reader's number.
-/
import Derived.Test.YtbpamllmbdcdfaaDeB
namespace Go.Proofs.Ytbpamllmbdcdfaa
open Go.RowKit Go.Deep

/-- how far a number has been read -/
def NumAt (s s' : RSt) (i m : Nat) : Prop :=
  (s'.2 = 0 ∧ s.2 = 0 ∧ pNum s.1 = pNumGo i m s'.1 ∧ i ≤ 7 ∧ m < 128 ^ i) ∨ (s'.2 ≠ 0 ∧ (s.2 ≠ 0 → s'.2 = s.2) ∧ (s.2 = 0 → pNum s.1 = .error s'.2) ∧ i ≤ 8)
theorem NumAt.off {s s' : RSt} {i m : Nat} (h : NumAt s s' i m) (h0 : s'.2 ≠ 0) (a : Int) : Stp pNum s a s' := by
  rcases h with ⟨h1, _⟩ | ⟨_, h2, h3, _⟩
  · exact absurd h1 h0
  · by_cases hs : s.2 = 0
    · exact .err hs (h3 hs) rfl
    · exact .off hs (h2 hs)
theorem pow_le7 (i : Nat) (h : i ≤ 7) : 128 ^ i ≤ 562949953421312 := by
  have : 128 ^ i ≤ 128 ^ 7 := Nat.pow_le_pow_right (by omega) h
  simpa using this
theorem seven_step (m c i : Nat) (hm : m < 128 ^ i) (hi : i ≤ 7) : bits .or .i64 (m : Int) ((c % 128 * 128 ^ i : Nat) : Int) = ((m + c % 128 * 128 ^ i : Nat) : Int) := by
  have hp := pow_le7 i hi
  have h1 : c % 128 * 128 ^ i ≤ 127 * 562949953421312 := Nat.mul_le_mul (by omega) hp
  rw [i64n_or m _ (by omega) (by omega)]
  congr 1
  have e : 128 ^ i = 2 ^ (7 * i) := by rw [Nat.pow_mul]
  rw [e] at hm ⊢
  rw [Nat.or_comm, or_add m (c % 128) (7 * i) hm, Nat.add_comm]
theorem and127 (c : Nat) (h : c < 9223372036854775808) : bits .and .i64 (c : Int) 127 = ((c % 128 : Nat) : Int) := by
  rw [show (127 : Int) = ((127 : Nat) : Int) from rfl, i64n_and c 127 h (by omega), show 127 = 2 ^ 7 - 1 from rfl, Nat.and_two_pow_sub_one_eq_mod]
theorem seven_val (m c i : Nat) (hm : m < 128 ^ i) (hi : i ≤ 7) (hc : c ≤ 255) : bits .or .i64 (m : Int) (wrap64 (bits .and .i64 (c : Int) 127 * 2 ^ (7 * i))) = ((m + c % 128 * 128 ^ i : Nat) : Int) := by
  have hp := pow_le7 i hi
  have h1 : c % 128 * 128 ^ i ≤ 127 * 562949953421312 := Nat.mul_le_mul (by omega) hp
  have e : bits .and .i64 (c : Int) 127 * 2 ^ (7 * i) = ((c % 128 * 128 ^ i : Nat) : Int) := by
    have e1 : 128 ^ i = 2 ^ (7 * i) := by rw [Nat.pow_mul]
    rw [e1, and127 c (by omega)]
    push_cast
    rfl
  have hw : wrap64 ((c % 128 * 128 ^ i : Nat) : Int) = ((c % 128 * 128 ^ i : Nat) : Int) := by
    unfold wrap64; omega
  rw [e, hw, seven_step m c i hm hi]
theorem pNumGo_nil (i n : Nat) : pNumGo i n [] = .error 5 := rfl
theorem pNumGo_cons (i n : Nat) (c : UInt8) (r : List UInt8) : pNumGo i n (c :: r) = if i = 7 ∨ (0 < i ∧ c.toNat = 0) then .error 4 else
    if c.toNat < 128 then .ok (((n + c.toNat % 128 * 128 ^ i : Nat) : Int), r) else pNumGo (i + 1) (n + c.toNat % 128 * 128 ^ i) r := by rw [pNumGo]

set_option maxRecDepth 100000 in
set_option maxHeartbeats 2000000 in
theorem rnum_any (w : World) (g : Nat) (s : RSt) (h : RdAt w g s) :
    Calls Try.prog 93 #[.pointer (some ⟨g, 0, none⟩)] w (RdPost pNum (Value.int .i64) (fun a => 0 ≤ a ∧ a < 9223372036854775808) w g s) := by
  have HR := Go.Lib.hid h
  have hst : NumAt s s 0 0 := by
    by_cases hs : s.2 = 0
    · exact .inl ⟨hs, hs, rfl, by omega, by decide⟩
    · exact .inr ⟨hs, fun _ => rfl, fun h => absurd h hs, by omega⟩
  have HST := Go.Lib.hid hst
  clear h hst
  go_enter Try.func93, Try.ntmps93
  go_wp2_with fail
  go_loopw [3, 4, 5] (fun s3 s4 _ wr => ∃ (m i : Nat) (s' : RSt), s3 = .int .i64 m ∧ s4 = .int .i64 i ∧ m < 9223372036854775808 ∧ NumAt s s' i m ∧ RdAt wr g s' ∧ w.grownBy wr (some g) ∧ s'.1.length ≤ s.1.length) (fun _ s4 _ _ => 9 - (intOf s4).toNat)
  case atStart => exact ⟨0, 0, s, rfl, rfl, by omega, HST.out, HR.out, World.grownBy.refl _ _, Nat.le_refl _⟩
  case round =>
    obtain ⟨m, i, s', rfl, rfl, hm, hna, hrd, hgr, hle⟩ := hrel
    have HRD := Go.Lib.hid hrd
    have HGR := Go.Lib.hid hgr
    have HNA := Go.Lib.hid hna
    obtain ⟨A, c, hg, f0, f1, f2, hs, hl, hc1, hc2⟩ := hrd.open
    clear hrd hgr hs
    by_cases he : s'.2 = 0
    · rcases hna with ⟨_, hs0, hpn, hi7, hmi⟩ | ⟨hx, _⟩
      · have HS0 := Go.Lib.hid hs0
        have HPN := Go.Lib.hid hpn
        have HBY := Go.Lib.hid (rbyte_any wr g s' HRD.out)
        have HE := Go.Lib.hid he
        rw [he] at f1
        clear hs0 hpn he
        go_wp2_with fail
        refine HBY.out.mono ?_
        rintro e w1 ⟨a, s1, rfl, hst, ha, hr1, hg1, hl1⟩
        obtain ⟨cn, rfl⟩ := Int.eq_ofNat_of_zero_le ha.1
        have hcn : cn ≤ 255 := by omega
        clear f0 f1 f2 hc1 hc2 hl hg ha
        have HR1 := Go.Lib.hid hr1
        have HG1 := Go.Lib.hid (HGR.out.trans hg1)
        obtain ⟨A1, c1, hg, f0, f1, f2, hs, hl, hc1, hc2⟩ := hr1.open
        clear hr1 hg1 hs
        have hp7 := pow_le7 i hi7
        have hmul : cn % 128 * 128 ^ i ≤ 127 * 562949953421312 := Nat.mul_le_mul (by omega) hp7
        rcases hp : pByte s'.1 with e | ⟨c0, r⟩
        · have h5 := (hst.2 HE.out).2 e hp
          have hne : s1.2 ≠ 0 := by rw [h5]; exact pByte_err hp
          have t1 : (s1.2 == 0) = false := by simpa using hne
          have HN := Go.Lib.hid (show pNum s.1 = .error s1.2 by
            rw [HPN.out, h5]
            cases hq : s'.1 with
            | nil => rw [hq] at hp; rw [pNumGo_nil]; simpa [pByte] using hp
            | cons c0 r => rw [hq] at hp; simp [pByte] at hp)
          clear hst hp h5
          have hval := seven_val m cn i hmi hi7 hcn
          have HV := Go.Lib.hid hval
          have HNA2 := Go.Lib.hid (show ∀ m', NumAt s s1 (i + 1) m' from fun m' => .inr ⟨hne, fun h => absurd HS0.out h, fun _ => HN.out, by omega⟩)
          clear hval
          go_wp2_with fail
          · go_ret
            exact ⟨((m + cn % 128 * 128 ^ i : Nat) : Int), s1, ei HV.out, (HNA2.out m).off hne _, by omega, HR1.out, HG1.out, by omega⟩
          · exact ⟨⟨m + cn % 128 * 128 ^ i, i + 1, s1, by rw [HV.out], by go_num, by omega, HNA2.out _, HR1.out, HG1.out, by omega⟩, by simp [intOf]; omega⟩
        · obtain ⟨rfl, rfl⟩ := (hst.2 HE.out).1 _ _ hp
          obtain ⟨x, hx⟩ : ∃ x : UInt8, s'.1 = x :: r ∧ cn = x.toNat := by
            cases hq : s'.1 with
            | nil => rw [hq] at hp; simp [pByte] at hp
            | cons x r' =>
              rw [hq] at hp
              simp only [pByte, Except.ok.injEq, Prod.mk.injEq] at hp
              exact ⟨x, by rw [hp.2], by omega⟩
          have hstep := pNumGo_cons i m x r
          rw [← hx.1, ← HPN.out, ← hx.2] at hstep
          have HSTEP := Go.Lib.hid hstep
          have hval := seven_val m cn i hmi hi7 hcn
          have HV := Go.Lib.hid hval
          simp only at f0 f1 hl hc1 hl1
          clear hval hst hp hx hstep
          by_cases hbad : i = 7 ∨ (0 < i ∧ cn = 0)
          · obtain ⟨h1, h2⟩ := HR1.out.err 4
            have H1 := Go.Lib.hid h1
            have H2 := Go.Lib.hid h2
            have HN := Go.Lib.hid (show pNum s.1 = .error 4 by rw [HSTEP.out, if_pos hbad])
            have HNA2 := Go.Lib.hid (show ∀ m', NumAt s (r, (4 : Int)) (i + 1) m' from fun m' => .inr ⟨by simp, fun h => absurd HS0.out h, fun _ => HN.out, by omega⟩)
            clear h1 h2
            have HI7 := Go.Lib.hid hi7
            by_cases h7 : i = 7
            · have t7 : ((i : Int) == 7) = true := by simp; omega
              clear hbad h7
              go_wp2_with fail
              · go_ret
                exact ⟨((m + cn % 128 * 128 ^ i : Nat) : Int), (r, 4), ei HV.out, (HNA2.out m).off (by simp) _, by omega, H1.out, HG1.out.trans H2.out, by simp only; omega⟩
              · exact ⟨⟨m + cn % 128 * 128 ^ i, i + 1, (r, 4), by rw [HV.out], by go_num, by omega, HNA2.out _, H1.out, HG1.out.trans H2.out, by simp only; omega⟩, by simp [intOf]; omega⟩
            · have t7 : ((i : Int) == 7) = false := by simp; omega
              have h0 : (0 : Int) < (i : Int) := by omega
              have t8 : ((cn : Int) == 0) = true := by simp; omega
              clear hbad h7
              go_wp2_with fail
              · go_ret
                exact ⟨((m + cn % 128 * 128 ^ i : Nat) : Int), (r, 4), ei HV.out, (HNA2.out m).off (by simp) _, by omega, H1.out, HG1.out.trans H2.out, by simp only; omega⟩
              · exact ⟨⟨m + cn % 128 * 128 ^ i, i + 1, (r, 4), by rw [HV.out], by go_num, by omega, HNA2.out _, H1.out, HG1.out.trans H2.out, by simp only; omega⟩, by simp [intOf]; omega⟩
          · have HG := Go.Lib.hid hbad
            have t7 : ((i : Int) == 7) = false := by simp; omega
            by_cases h0 : 0 < i
            · have h0' : (0 : Int) < (i : Int) := by omega
              have t8 : ((cn : Int) == 0) = false := by simp; omega
              clear hbad h0
              go_wp2_with fail
              · have hc := ‹(cn : Int) < 128›
                go_ret
                exact ⟨((m + cn % 128 * 128 ^ i : Nat) : Int), (r, 0), ei HV.out, .ok HS0.out (by rw [HSTEP.out, if_neg HG.out, if_pos (by omega)]), by omega, HR1.out, HG1.out, by simp only; omega⟩
              · have hc := ‹128 ≤ (cn : Int)›
                refine ⟨⟨m + cn % 128 * 128 ^ i, i + 1, (r, 0), by rw [HV.out], by go_num, by omega, .inl ⟨rfl, HS0.out, by rw [HSTEP.out, if_neg HG.out, if_neg (by omega)], ?_, ?_⟩, HR1.out, HG1.out, by simp only; omega⟩, by simp [intOf]; omega⟩
                · have := HG.out; omega
                · rw [Nat.pow_succ]
                  have h1 : cn % 128 * 128 ^ i ≤ 127 * 128 ^ i := Nat.mul_le_mul_right _ (by omega)
                  omega
            · have h0' : ¬ (0 : Int) < (i : Int) := by omega
              clear hbad h0
              go_wp2_with fail
              · have hc := ‹(cn : Int) < 128›
                go_ret
                exact ⟨((m + cn % 128 * 128 ^ i : Nat) : Int), (r, 0), ei HV.out, .ok HS0.out (by rw [HSTEP.out, if_neg HG.out, if_pos (by omega)]), by omega, HR1.out, HG1.out, by simp only; omega⟩
              · have hc := ‹128 ≤ (cn : Int)›
                refine ⟨⟨m + cn % 128 * 128 ^ i, i + 1, (r, 0), by rw [HV.out], by go_num, by omega, .inl ⟨rfl, HS0.out, by rw [HSTEP.out, if_neg HG.out, if_neg (by omega)], ?_, ?_⟩, HR1.out, HG1.out, by simp only; omega⟩, by simp [intOf]; omega⟩
                · have := HG.out; omega
                · rw [Nat.pow_succ]
                  have h1 : cn % 128 * 128 ^ i ≤ 127 * 128 ^ i := Nat.mul_le_mul_right _ (by omega)
                  omega
      · exact absurd he hx
    · have t1 : (s'.2 == 0) = false := by simpa using he
      have HE := Go.Lib.hid he
      clear he hna
      go_wp2_with fail
      go_ret
      exact ⟨(m : Int), s', rfl, HNA.out.off HE.out _, by omega, HRD.out, HGR.out, hle⟩
end Go.Proofs.Ytbpamllmbdcdfaa
