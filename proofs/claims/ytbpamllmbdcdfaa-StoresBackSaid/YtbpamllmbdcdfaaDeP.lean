/-
  The loop of Decode, plain: what has been read behind k entries; the seal as a number.
-/
import Derived.Test.YtbpamllmbdcdfaaDeC
namespace Go.Proofs.Ytbpamllmbdcdfaa
open Go.RowKit Go.Deep

theorem Stp.keeps {α : Type} {p : List UInt8 → Except Int (α × List UInt8)} {s s' : RSt} {a : α} (h : Stp p s a s') (h0 : s'.2 = 0) : s.2 = 0 := by
  rcases Int.lt_trichotomy s.2 0 with c | c | c
  · have := h.1 (by omega); omega
  · exact c
  · have := h.1 (by omega); omega
theorem Stp.entry {s s1 s2 s3 s4 : RSt} {a x : ByteArray} {v o : Int} (h1 : Stp pText s a s1) (h2 : Stp pNum s1 v s2) (h3 : Stp pByte s2 o s3) (h4 : Stp pText s3 x s4) : Stp pEntry s ⟨a, v, o, x⟩ s4 := by
  refine ⟨fun h0 => ?_, fun h0 => ?_⟩
  · have e1 := h1.1 h0
    have e2 := h2.1 (by rw [e1]; exact h0)
    have e3 := h3.1 (by rw [e2, e1]; exact h0)
    have e4 := h4.1 (by rw [e3, e2, e1]; exact h0)
    rw [e4, e3, e2, e1]
  · unfold pEntry
    rcases p1 : pText s.1 with e | ⟨y1, r1⟩
    · have e1 := (h1.2 h0).2 e p1
      have hne := pText_err p1
      have e2 := h2.1 (by rw [e1]; exact hne)
      have e3 := h3.1 (by rw [e2, e1]; exact hne)
      have e4 := h4.1 (by rw [e3, e2, e1]; exact hne)
      exact ⟨fun z r hz => by simp at hz, fun e' he => by simp at he; rw [e4, e3, e2, e1, he]⟩
    obtain ⟨rfl, rfl⟩ := (h1.2 h0).1 y1 r1 p1
    simp only
    rcases p2 : pNum r1 with e | ⟨y2, r2⟩
    · have e2 := (h2.2 rfl).2 e p2
      have hne := pNumGo_err _ _ _ _ p2
      have e3 := h3.1 (by rw [e2]; exact hne)
      have e4 := h4.1 (by rw [e3, e2]; exact hne)
      exact ⟨fun z r hz => by simp at hz, fun e' he => by simp at he; rw [e4, e3, e2, he]⟩
    obtain ⟨rfl, rfl⟩ := (h2.2 rfl).1 y2 r2 p2
    simp only
    rcases p3 : pByte r2 with e | ⟨y3, r3⟩
    · have e3 := (h3.2 rfl).2 e p3
      have hne := pByte_err p3
      have e4 := h4.1 (by rw [e3]; exact hne)
      exact ⟨fun z r hz => by simp at hz, fun e' he => by simp at he; rw [e4, e3, he]⟩
    obtain ⟨rfl, rfl⟩ := (h3.2 rfl).1 y3 r3 p3
    simp only
    rcases p4 : pText r3 with e | ⟨y4, r4⟩
    · have e4 := (h4.2 rfl).2 e p4
      exact ⟨fun z r hz => by simp at hz, fun e' he => by simp at he; rw [e4, he]⟩
    obtain ⟨rfl, rfl⟩ := (h4.2 rfl).1 y4 r4 p4
    exact ⟨fun z r hz => by simp at hz; exact ⟨hz.1, by rw [hz.2]⟩, fun e' he => by simp at he⟩

/-- what has been read behind k entries of n -/
def ManyAt (n : Nat) (l : List UInt8) (k : Nat) (done : List Entry) (st : RSt) : Prop :=
  done.length = k ∧ ((st.2 = 0 ∧ pMany n l = (match pMany (n - k) st.1 with | .error e => .error e | .ok (xs, r) => .ok (done ++ xs, r))) ∨ (st.2 ≠ 0 ∧ pMany n l = .error st.2))
theorem ManyAt.start (n : Nat) (l : List UInt8) : ManyAt n l 0 [] (l, 0) := by
  refine ⟨rfl, .inl ⟨rfl, ?_⟩⟩
  rw [Nat.sub_zero]
  rcases pMany n l with e | ⟨xs, r⟩ <;> simp
theorem ManyAt.next {n : Nat} {l : List UInt8} {k : Nat} {done : List Entry} {st st' : RSt} {x : Entry} (h : ManyAt n l k done st) (hk : k < n) (h0 : st.2 = 0) (hs : Stp pEntry st x st') : ManyAt n l (k + 1) (done ++ [x]) st' := by
  obtain ⟨hl, h1⟩ := h
  refine ⟨by simp [hl], ?_⟩
  rcases h1 with ⟨_, h1⟩ | ⟨h1, _⟩
  · obtain ⟨m, hm⟩ : ∃ m, n - k = m + 1 := ⟨n - k - 1, by omega⟩
    have hm' : n - (k + 1) = m := by omega
    rw [hm] at h1
    unfold pMany at h1
    rcases p : pEntry st.1 with e | ⟨y, r⟩
    · rw [p] at h1
      simp only at h1
      have := (hs.2 h0).2 e p
      refine .inr ⟨by rw [this]; exact pEntry_err p, by rw [this]; unfold pMany; exact h1⟩
    · rw [p] at h1
      obtain ⟨rfl, rfl⟩ := (hs.2 h0).1 y r p
      refine .inl ⟨rfl, ?_⟩
      rw [hm']
      simp only at h1 ⊢
      rw [show pMany n l = _ from by unfold pMany; exact h1]
      rcases pMany m r with e | ⟨ys, q⟩ <;> simp
  · exact absurd h0 h1
theorem ManyAt.done_ {n : Nat} {l : List UInt8} {k : Nat} {done : List Entry} {st : RSt} (h : ManyAt n l k done st) (hk : n ≤ k) (h0 : st.2 = 0) : pMany n l = .ok (done, st.1) := by
  rcases h.2 with ⟨_, h1⟩ | ⟨h1, _⟩
  · rw [h1, show n - k = 0 by omega]; simp [pMany]
  · exact absurd h0 h1
theorem ManyAt.bad {n : Nat} {l : List UInt8} {k : Nat} {done : List Entry} {st : RSt} (h : ManyAt n l k done st) (h0 : st.2 ≠ 0) : pMany n l = .error st.2 := by
  rcases h.2 with ⟨h1, _⟩ | ⟨_, h1⟩
  · exact absurd h1 h0
  · exact h1

/-- the whole behind the seal -/
theorem decBody_err {l l1 : List UInt8} {n : Int} {e : Int} (h : pByte l = .ok (n, l1)) (h2 : pMany n.toNat l1 = .error e) : decBody l = ([], e) := by unfold decBody; rw [h]; simp only; rw [h2]
theorem decBody_rest {l l1 r : List UInt8} {n : Int} {es : List Entry} (h : pByte l = .ok (n, l1)) (h2 : pMany n.toNat l1 = .ok (es, r)) (h3 : r ≠ []) : decBody l = ([], 4) := by
  unfold decBody; rw [h]; simp only; rw [h2]; simp only; rw [if_pos h3]
theorem decBody_chk {l l1 : List UInt8} {n : Int} {es : List Entry} (h : pByte l = .ok (n, l1)) (h2 : pMany n.toNat l1 = .ok (es, [])) (h3 : checkS es ≠ 0) : decBody l = ([], checkS es) := by
  unfold decBody; rw [h]; simp only; rw [h2]; simp only; rw [if_neg (by simp), if_pos h3]
theorem decBody_fin {l l1 : List UInt8} {n : Int} {es : List Entry} (h : pByte l = .ok (n, l1)) (h2 : pMany n.toNat l1 = .ok (es, [])) (h3 : checkS es = 0) : decBody l = (es, 0) := by
  unfold decBody; rw [h]; simp only; rw [h2]; simp only; rw [if_neg (by simp), if_neg (by simp [h3])]
theorem decS_long {b : List UInt8} (h : 20000 < b.length) : decS b = ([], 1) := by unfold decS; rw [if_pos h]
theorem decS_short {b : List UInt8} (h : ¬ 20000 < b.length) (h2 : b.length < 6) : decS b = ([], 5) := by unfold decS; rw [if_neg h, if_pos h2]
theorem decS_head {b : List UInt8} (h : ¬ 20000 < b.length) (h2 : ¬ b.length < 6) (h3 : b[0]'(by omega) ≠ 116) : decS b = ([], 4) := by
  unfold decS; rw [if_neg h, if_neg h2, if_pos]
  rw [List.head?_eq_getElem?, List.getElem?_eq_getElem (by omega)]
  simpa using h3
theorem decS_sum {b : List UInt8} (h : ¬ 20000 < b.length) (h2 : ¬ b.length < 6) (h3 : b[0]'(by omega) = 116) (h4 : sealB (b.take (b.length - 4)) ≠ b.drop (b.length - 4)) : decS b = ([], 9) := by
  unfold decS; rw [if_neg h, if_neg h2, if_neg, if_pos h4]
  rw [List.head?_eq_getElem?, List.getElem?_eq_getElem (by omega)]
  simpa using h3
theorem decS_body {b : List UInt8} (h : ¬ 20000 < b.length) (h2 : ¬ b.length < 6) (h3 : b[0]'(by omega) = 116) (h4 : sealB (b.take (b.length - 4)) = b.drop (b.length - 4)) : decS b = decBody ((b.take (b.length - 4)).drop 1) := by
  unfold decS; rw [if_neg h, if_neg h2, if_neg, if_neg (by simpa using h4)]
  rw [List.head?_eq_getElem?, List.getElem?_eq_getElem (by omega)]
  simpa using h3

/-- the four bytes of a seal as a number -/
def val4 (a b c d : Nat) : Int := bits .or .i64 (bits .or .i64 (bits .or .i64 ((a : Int) * 16777216) ((b : Int) * 65536)) ((c : Int) * 256)) (d : Int)
theorem val4_eq (a b c d : Nat) (ha : a < 256) (hb : b < 256) (hc : c < 256) (hd : d < 256) : val4 a b c d = ((a * 16777216 + b * 65536 + c * 256 + d : Nat) : Int) := by
  unfold val4
  have e1 : ((a : Int) * 16777216) = ((a * 16777216 : Nat) : Int) := by omega
  have e2 : ((b : Int) * 65536) = ((b * 65536 : Nat) : Int) := by omega
  have e3 : ((c : Int) * 256) = ((c * 256 : Nat) : Int) := by omega
  rw [e1, e2, e3, i64n_or _ _ (by omega) (by omega)]
  have o1 : (a * 16777216) ||| (b * 65536) = a * 16777216 + b * 65536 := or_add (b * 65536) a 24 (by omega)
  rw [o1, i64n_or _ _ (by omega) (by omega)]
  have o2 : (a * 16777216 + b * 65536) ||| (c * 256) = a * 16777216 + b * 65536 + c * 256 := by
    have := or_add (c * 256) (a * 256 + b) 16 (by omega)
    rw [show (a * 256 + b) * 2 ^ 16 = a * 16777216 + b * 65536 by omega] at this
    exact this
  rw [o2, i64n_or _ _ (by omega) (by omega)]
  have o3 : (a * 16777216 + b * 65536 + c * 256) ||| d = a * 16777216 + b * 65536 + c * 256 + d := by
    have := or_add d (a * 65536 + b * 256 + c) 8 (by omega)
    rw [show (a * 65536 + b * 256 + c) * 2 ^ 8 = a * 16777216 + b * 65536 + c * 256 by omega] at this
    exact this
  rw [o3]
theorem seal_num (l : List UInt8) (a b c d : UInt8) : sumN l = val4 a.toNat b.toNat c.toNat d.toNat ↔ sealB l = [a, b, c, d] := by
  rw [val4_eq _ _ _ _ a.toNat_lt b.toNat_lt c.toNat_lt d.toNat_lt]
  obtain ⟨h1, h2, h3, h4⟩ := sums_lt l
  have ha := a.toNat_lt
  have hb := b.toNat_lt
  have hc := c.toNat_lt
  have hd := d.toNat_lt
  unfold sumN sealB
  constructor
  · intro h
    have e1 : (sums l).2 / 256 = (a.toNat : Int) := by omega
    have e2 : (sums l).2 % 256 = (b.toNat : Int) := by omega
    have e3 : (sums l).1 / 256 = (c.toNat : Int) := by omega
    have e4 : (sums l).1 % 256 = (d.toNat : Int) := by omega
    rw [e1, e2, e3, e4, b8_of, b8_of, b8_of, b8_of]
  · intro h
    simp only [List.cons.injEq, and_true] at h
    obtain ⟨e1, e2, e3, e4⟩ := h
    have g1 := congrArg (fun x : UInt8 => (x.toNat : Int)) e1
    have g2 := congrArg (fun x : UInt8 => (x.toNat : Int)) e2
    have g3 := congrArg (fun x : UInt8 => (x.toNat : Int)) e3
    have g4 := congrArg (fun x : UInt8 => (x.toNat : Int)) e4
    try simp only at g1 g2 g3 g4
    rw [b8_toNat (by omega) (by omega)] at g1 g2 g3 g4
    omega
theorem drop4 (b : List UInt8) (h : 6 ≤ b.length) : b.drop (b.length - 4) = [b[b.length - 4], b[b.length - 4 + 1], b[b.length - 4 + 2], b[b.length - 4 + 3]] := by
  apply List.ext_getElem
  · simp; omega
  · intro i h1 h2
    rw [List.getElem_drop]
    match i, h2 with
    | 0, _ => rfl
    | 1, _ => rfl
    | 2, _ => rfl
    | 3, _ => rfl
    | i + 4, h2 => simp at h2; omega
end Go.Proofs.Ytbpamllmbdcdfaa
