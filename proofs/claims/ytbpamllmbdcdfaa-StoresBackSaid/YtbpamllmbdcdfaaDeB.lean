/-
  Walks of Decode, part B: the reader's text and number.
-/
import Derived.Test.YtbpamllmbdcdfaaDeA
import Derived.Test.YtbpamllmbdcdfaaCnv
namespace Go.Proofs.Ytbpamllmbdcdfaa
open Go.RowKit Go.Deep

theorem RdAt.sl {w : World} {g : Nat} {s : RSt} (h : RdAt w g s) : ∃ A c, w.cell? ⟨g, 0, none⟩ = some (.slice A s.1.length c) ∧ Sl byteR w (.slice A s.1.length c) s.1 := by
  obtain ⟨A, c, h0, h1, h2, h3, h4, h5, h6, h7⟩ := h.open
  exact ⟨A, c, h1, h4.to_sl (fun k hk => hk.1)⟩
theorem add_zero (a : Addr) : a.add 0 = a := by unfold Addr.add; simp
theorem SlR.take {w : World} {S : Nat → Prop} {A : Option Addr} {n c : Nat} {xs : List UInt8} (h : SlR byteR w S (.slice A n c) xs) (k : Nat) (hk : k ≤ xs.length) : SlR byteR w S (.slice A k c) (xs.take k) := by
  have := h.sub 0 k (Nat.zero_le _) hk
  rw [List.drop_zero, Nat.sub_zero, Nat.sub_zero] at this
  have e : (if c = 0 then A else A.map (·.add 0)) = A := by split <;> cases A <;> simp [add_zero]
  rw [e] at this
  exact this
theorem pText_of {l : List UInt8} {n : Int} {r : List UInt8} (h : pByte l = .ok (n, r)) : pText l = if (r.length : Int) < n then .error 5 else .ok (⟨(r.take n.toNat).toArray⟩, r.drop n.toNat) := by
  cases l with
  | nil => simp [pByte] at h
  | cons c t =>
    simp only [pByte, Except.ok.injEq, Prod.mk.injEq] at h
    obtain ⟨rfl, rfl⟩ := h
    rw [pText_cons, Int.toNat_natCast]
    by_cases hl : t.length < c.toNat
    · rw [if_pos hl, if_pos (by omega)]
    · rw [if_neg hl, if_neg (by omega)]
theorem pText_of_err {l : List UInt8} {e : Int} (h : pByte l = .error e) : pText l = .error e := by
  cases l with
  | nil => simpa [pByte, pText] using h
  | cons c t => simp [pByte] at h

set_option maxRecDepth 100000 in
set_option maxHeartbeats 1000000 in
theorem rtext_any (w : World) (g : Nat) (s : RSt) (h : RdAt w g s) :
    Calls Try.prog 92 #[.pointer (some ⟨g, 0, none⟩)] w (RdPost pText Value.string (fun a => a.size ≤ 255) w g s) := by
  have HR := Go.Lib.hid h
  clear h
  go_enter Try.func92, Try.ntmps92
  go_wp2_with fail
  refine (rbyte_any w g s HR.out).mono ?_
  rintro e w1 ⟨a, s1, rfl, hst, ha, hr1, hg1, hl1⟩
  have HR1 := Go.Lib.hid hr1
  have HG1 := Go.Lib.hid hg1
  obtain ⟨A, c, hg, f0, f1, f2, hs, hl, hc1, hc2⟩ := hr1.open
  have HS := Go.Lib.hid hs
  clear hr1 hg1 hs
  by_cases hn : s1.2 = 0
  · have hs0 : s.2 = 0 := by
      rcases Int.lt_trichotomy s.2 0 with h | h | h
      · have := hst.1 (by omega); omega
      · exact h
      · have := hst.1 (by omega); omega
    rcases hp : pByte s.1 with e | ⟨c0, r⟩
    · have := (hst.2 hs0).2 e hp
      exact absurd hn (by rw [this]; exact pByte_err hp)
    · obtain ⟨rfl, rfl⟩ := (hst.2 hs0).1 c0 r hp
      have HP := Go.Lib.hid (pText_of hp)
      have HS0 := Go.Lib.hid hs0
      obtain ⟨n, rfl⟩ := Int.eq_ofNat_of_zero_le ha.1
      simp only at f0 f1 hl hc1 hl1 HS
      clear hp hst hn hs0
      by_cases hlt : (r.length : Int) < (n : Int)
      · obtain ⟨h1, h2⟩ := HR1.out.err 5
        have H1 := Go.Lib.hid h1
        have H2 := Go.Lib.hid h2
        clear h1 h2
        go_wp2_with fail
        go_ret
        exact ⟨⟨#[]⟩, (r, 5), rfl, .err HS0.out (by rw [HP.out, if_pos hlt]) rfl, Nat.zero_le _, H1.out, HG1.out.trans H2.out, hl1⟩
      · have n2 : n ≤ r.length := by omega
        have htake := HS.out.take n n2
        have hsub := HS.out.sub n r.length n2 (Nat.le_refl _)
        rw [List.take_length] at hsub
        have q1 := conv_str (htake.to_sl (fun k hk => hk.1))
        obtain ⟨h1, h2⟩ := HR1.out.rest hsub (by simp; omega)
        have H1 := Go.Lib.hid h1
        have H2 := Go.Lib.hid h2
        clear htake hsub h1 h2
        by_cases hc : c = n
        · rw [if_pos hc] at H1 H2
          subst hc
          go_wp2_with fail
          have e0 : r.length - c = 0 := by omega
          rw [Nat.sub_self, e0] at H1 H2
          go_ret
          refine ⟨⟨(r.take c).toArray⟩, (r.drop c, 0), rfl, .ok HS0.out (by rw [HP.out, if_neg (by omega), Int.toNat_natCast]), ?_, H1.out, HG1.out.trans H2.out, ?_⟩
          · show (r.take c).toArray.size ≤ 255
            rw [List.size_toArray, List.length_take]; omega
          · rw [List.length_drop]; omega
        · rw [if_neg hc] at H1 H2
          go_wp2_with fail
          go_ret
          refine ⟨⟨(r.take n).toArray⟩, (r.drop n, 0), rfl, .ok HS0.out (by rw [HP.out, if_neg (by omega), Int.toNat_natCast]), ?_, H1.out, HG1.out.trans H2.out, ?_⟩
          · show (r.take n).toArray.size ≤ 255
            rw [List.size_toArray, List.length_take]; omega
          · rw [List.length_drop]; omega
  · have t1 : (s1.2 == 0) = false := by simpa using hn
    have t2 : (s1.2 != 0) = true := by simpa using hn
    have HN := Go.Lib.hid hn
    have HST := Go.Lib.hid hst
    clear hn hst
    go_wp2_with fail
    go_ret
    refine ⟨⟨#[]⟩, s1, rfl, ?_, Nat.zero_le _, HR1.out, HG1.out, hl1⟩
    refine ⟨HST.out.1, fun h0 => ⟨fun x r hx => ?_, fun e he => ?_⟩⟩
    · rcases hp : pByte s.1 with e | ⟨c0, r0⟩
      · rw [pText_of_err hp] at hx; cases hx
      · have := ((HST.out.2 h0).1 c0 r0 hp).2
        exact absurd (by rw [this]) HN.out
    · rcases hp : pByte s.1 with e' | ⟨c0, r0⟩
      · rw [pText_of_err hp] at he
        injection he with he
        rw [← he]; exact (HST.out.2 h0).2 e' hp
      · have := ((HST.out.2 h0).1 c0 r0 hp).2
        exact absurd (by rw [this]) HN.out
end Go.Proofs.Ytbpamllmbdcdfaa
