/-
  Walks of Decode, part A: the reader of bytes.
-/
import Derived.Test.YtbpamllmbdcdfaaDec
namespace Go.Proofs.Ytbpamllmbdcdfaa
open Go.RowKit Go.Deep

abbrev RSt := List UInt8 × Int
/-- one step of a reader: what it answers, what is left -/
def Stp {α : Type} (p : List UInt8 → Except Int (α × List UInt8)) (s : RSt) (a : α) (s' : RSt) : Prop :=
  (s.2 ≠ 0 → s'.2 = s.2) ∧ (s.2 = 0 → (∀ x r, p s.1 = .ok (x, r) → a = x ∧ s' = (r, 0)) ∧ (∀ e, p s.1 = .error e → s'.2 = e))
theorem Stp.off {α : Type} {p : List UInt8 → Except Int (α × List UInt8)} {s s' : RSt} {a : α} (h : s.2 ≠ 0) (h' : s'.2 = s.2) : Stp p s a s' := ⟨fun _ => h', fun h0 => absurd h0 h⟩
theorem Stp.ok {α : Type} {p : List UInt8 → Except Int (α × List UInt8)} {s : RSt} {x : α} {r : List UInt8} (h : s.2 = 0) (h' : p s.1 = .ok (x, r)) : Stp p s x (r, 0) :=
  ⟨fun h0 => absurd h h0, fun _ => ⟨fun y q hy => (by rw [h'] at hy; injection hy with hy; injection hy with h1 h2; exact ⟨h1, by rw [h2]⟩), fun e he => (by rw [h'] at he; cases he)⟩⟩
theorem Stp.err {α : Type} {p : List UInt8 → Except Int (α × List UInt8)} {s s' : RSt} {a : α} {e : Int} (h : s.2 = 0) (h' : p s.1 = .error e) (hs : s'.2 = e) : Stp p s a s' :=
  ⟨fun h0 => absurd h h0, fun _ => ⟨fun y q hy => (by rw [h'] at hy; cases hy), fun e' he => (by rw [h'] at he; injection he with he; rw [hs, he])⟩⟩

/-- a block's cells are the same but for that of one block -/
theorem SlR.other {α : Type} {r : Rep α} {w w' : World} {g : Nat} {v : Value} {xs : List α} (h : SlR r w (fun k => k < w.heap.size ∧ k < g) v xs) (hg : w.grownBy w' (some g)) : SlR r w' (fun k => k < w'.heap.size ∧ k < g) v xs :=
  SlR.keep h (fun k hk => hg.block k hk.1 (fun e => by injection e with e; have := hk.2; omega)) (fun k hk => ⟨Nat.lt_of_lt_of_le hk.1 hg.size, hk.2⟩)
theorem SlR.to_sl {α : Type} {r : Rep α} {w : World} {S : Nat → Prop} {v : Value} {xs : List α} (h : SlR r w S v xs) (hS : ∀ k, S k → k < w.heap.size) : Sl r w v xs := SlR.keep h (fun _ _ => rfl) hS
/-- v[l:h] -/
theorem SlR.sub {w : World} {S : Nat → Prop} {A : Option Addr} {n c : Nat} {xs : List UInt8} (h : SlR byteR w S (.slice A n c) xs) (lo hi : Nat) (h1 : lo ≤ hi) (h2 : hi ≤ xs.length) :
    SlR byteR w S (.slice (if c = lo then A else A.map (·.add lo)) (hi - lo) (c - lo)) ((xs.take hi).drop lo) := by
  obtain ⟨A', c', hv, hc1, hc2, h3⟩ := h
  injection hv with e1 e2 e3
  subst e1 e2 e3
  have hl : ((xs.take hi).drop lo).length = hi - lo := by rw [List.length_drop, List.length_take]; omega
  refine ⟨_, _, by rw [hl], by rw [hl]; omega, by omega, fun i x hx => ?_⟩
  have hil : i < hi - lo := by rw [← hl]; exact (List.getElem?_eq_some_iff.1 hx).1
  rw [List.getElem?_drop, List.getElem?_take, if_pos (by omega)] at hx
  obtain ⟨b, off, cs, hA, hS, hb, hh, hc⟩ := h3 (lo + i) x hx
  have hne : ¬ c = lo := by omega
  rw [if_neg hne, hA]
  by_cases hz : lo = 0
  · subst hz
    exact ⟨b, off, cs, rfl, hS, hb, hh, by simpa using hc⟩
  · refine ⟨b, off + lo, cs, by simp [Addr.add, hz], hS, hb, hh, fun j u hu => ?_⟩
    have := hc j u hu
    have e : off + (lo + i) * byteR.size = off + lo + i * byteR.size := by show off + (lo + i) * 1 = off + lo + i * 1; omega
    rw [e] at this
    exact this

theorem grown_set (w : World) (p : Addr) (u : Value) : w.grownBy (w.setCell p u) (some p.block) :=
  ⟨rfl, rfl, rfl, by simp [World.setCell], fun k _ hne => Below.heap_setCell _ _ _ _ (fun e => hne (by rw [e]))⟩
def RdAt (w : World) (g : Nat) (s : RSt) : Prop :=
  g < w.heap.size ∧ ∃ v, w.cell? ⟨g, 0, none⟩ = some v ∧ w.cell? ⟨g, 1, none⟩ = some (.int .i64 s.2) ∧ (∀ i, w.frozen? ⟨g, i, none⟩ = false) ∧ SlR byteR w (fun k => k < w.heap.size ∧ k < g) v s.1 ∧ s.1.length ≤ 1000000
theorem RdAt.open {w : World} {g : Nat} {s : RSt} (h : RdAt w g s) : ∃ A c, g < w.heap.size ∧ w.cell? ⟨g, 0, none⟩ = some (.slice A s.1.length c) ∧ w.cell? ⟨g, 1, none⟩ = some (.int .i64 s.2) ∧ (∀ i, w.frozen? ⟨g, i, none⟩ = false) ∧ SlR byteR w (fun k => k < w.heap.size ∧ k < g) (.slice A s.1.length c) s.1 ∧ s.1.length ≤ 1000000 ∧ s.1.length ≤ c ∧ c ≤ 9223372036854775807 := by
  obtain ⟨h0, v, h1, h2, h3, h4, h5⟩ := h
  have h4' := h4
  obtain ⟨A, c, rfl, hc1, hc2, _⟩ := h4'
  exact ⟨A, c, h0, h1, h2, h3, h4, h5, hc1, by unfold maxLen at hc2; omega⟩
theorem RdAt.err {w : World} {g : Nat} {s : RSt} (h : RdAt w g s) (n : Int) : RdAt (w.setCell ⟨g, 1, none⟩ (.int .i64 n)) g (s.1, n) ∧ w.grownBy (w.setCell ⟨g, 1, none⟩ (.int .i64 n)) (some g) := by
  have hg := grown_set w ⟨g, 1, none⟩ (.int .i64 n)
  obtain ⟨h0, v, h1, h2, h3, h4, h5⟩ := h
  refine ⟨⟨Nat.lt_of_lt_of_le h0 hg.size, v, ?_, ?_, ?_, h4.other hg, h5⟩, hg⟩
  · rw [World.cell?_setCell_other w ⟨g, 1, none⟩ ⟨g, 0, none⟩ _ (by simp)]; exact h1
  · exact World.cell?_setCell_same _ _ _ h2
  · intro i; simp only [World.frozen?_setCell]; exact h3 i
theorem RdAt.rest {w : World} {g : Nat} {s : RSt} (h : RdAt w g s) {v : Value} {r : List UInt8} (hv : SlR byteR w (fun k => k < w.heap.size ∧ k < g) v r) (hl : r.length ≤ 1000000) : RdAt (w.setCell ⟨g, 0, none⟩ v) g (r, s.2) ∧ w.grownBy (w.setCell ⟨g, 0, none⟩ v) (some g) := by
  have hg := grown_set w ⟨g, 0, none⟩ v
  obtain ⟨h0, v0, h1, h2, h3, h4, h5⟩ := h
  refine ⟨⟨Nat.lt_of_lt_of_le h0 hg.size, v, ?_, ?_, ?_, hv.other hg, hl⟩, hg⟩
  · exact World.cell?_setCell_same _ _ _ h1
  · rw [World.cell?_setCell_other w ⟨g, 0, none⟩ ⟨g, 1, none⟩ _ (by simp)]; exact h2
  · intro i; simp only [World.frozen?_setCell]; exact h3 i

/-- what a method of the reader does -/
def RdPost {α : Type} (p : List UInt8 → Except Int (α × List UInt8)) (val : α → Value) (ok : α → Prop) (w : World) (g : Nat) (s : RSt) (e : Ending) (w' : World) : Prop :=
  ∃ a s', e = .returned (val a) ∧ Stp p s a s' ∧ ok a ∧ RdAt w' g s' ∧ w.grownBy w' (some g) ∧ s'.1.length ≤ s.1.length

set_option maxRecDepth 100000 in
set_option maxHeartbeats 1000000 in
theorem rbyte_any (w : World) (g : Nat) (s : RSt) (h : RdAt w g s) :
    Calls Try.prog 91 #[.pointer (some ⟨g, 0, none⟩)] w (RdPost pByte (Value.int .i64) (fun a => 0 ≤ a ∧ a ≤ 255) w g s) := by
  have HR := Go.Lib.hid h
  obtain ⟨A, c, hg, f0, f1, f2, hs, hl, hc1, hc2⟩ := h.open
  have HS := Go.Lib.hid hs
  obtain ⟨l, n⟩ := s
  simp only at f0 f1 hl hs hc1
  clear h hs
  by_cases hn : n = 0
  · subst hn
    rcases l with _ | ⟨x, r⟩
    · obtain ⟨h1, h2⟩ := HR.out.err 5
      have H1 := Go.Lib.hid h1
      have H2 := Go.Lib.hid h2
      clear h1 h2
      simp only [List.length_nil] at f0
      go_enter Try.func91, Try.ntmps91
      go_wp2_with fail
      go_ret
      exact ⟨0, ([], 5), rfl, .err rfl rfl rfl, by omega, H1.out, H2.out, by simp⟩
    · obtain ⟨b, off, rfl, hb⟩ := (HS.out.to_sl (fun k hk => hk.1)).at_ (show 0 < (x :: r).length by simp)
      obtain ⟨cs, ⟨rfl, _⟩, hcs⟩ := (HS.out.to_sl (fun k hk => hk.1)).cell (show 0 < (x :: r).length by simp)
      have fx : w.cell? ⟨b, off, none⟩ = some (.int .u8 x.toNat) := by
        have := hcs 0 _ rfl
        simpa [byteR, flatR] using this
      have hsub := HS.out.sub 1 (x :: r).length (by simp) (Nat.le_refl _)
      rw [List.take_length] at hsub
      have hx := x.toNat_lt
      obtain ⟨m, hm⟩ : ∃ m, r.length = m := ⟨_, rfl⟩
      have hm1 : (x :: r).length = m + 1 := by simp [hm]
      rw [hm1] at f0 hl hc1 hsub
      have hsub' : SlR byteR w (fun k => k < w.heap.size ∧ k < g) (.slice (some ⟨b, if c = 1 then off else off + 1, none⟩) m (c - 1)) r := by
        have e : (if c = 1 then some (⟨b, off, none⟩ : Addr) else Option.map (fun (a : Addr) => a.add 1) (some (⟨b, off, none⟩ : Addr))) = some ⟨b, if c = 1 then off else off + 1, none⟩ := by split <;> simp [Addr.add]
        rw [e] at hsub
        exact hsub
      obtain ⟨h1, h2⟩ := HR.out.rest hsub' (by omega)
      have H1 := Go.Lib.hid h1
      have H2 := Go.Lib.hid h2
      have HM := Go.Lib.hid hm
      clear hsub hsub' hcs hm hm1 h1 h2
      by_cases hc : c = 1
      · subst hc
        obtain rfl : m = 0 := by omega
        rw [if_pos rfl] at H1 H2
        go_enter Try.func91, Try.ntmps91
        go_wp2_with fail
        go_ret
        exact ⟨(x.toNat : Int), (r, 0), rfl, .ok rfl rfl, by omega, H1.out, H2.out, by simp⟩
      · rw [if_neg hc] at H1 H2
        go_enter Try.func91, Try.ntmps91
        go_wp2_with fail
        go_ret
        exact ⟨(x.toNat : Int), (r, 0), rfl, .ok rfl rfl, by omega, H1.out, H2.out, by simp⟩
  · have t1 : (n != 0) = true := by simpa using hn
    have HN := Go.Lib.hid hn
    clear hn
    go_enter Try.func91, Try.ntmps91
    go_wp2_with fail
    go_ret
    exact ⟨0, (l, n), rfl, .off HN.out rfl, by omega, HR.out, World.grownBy.refl _ _, Nat.le_refl _⟩
end Go.Proofs.Ytbpamllmbdcdfaa
