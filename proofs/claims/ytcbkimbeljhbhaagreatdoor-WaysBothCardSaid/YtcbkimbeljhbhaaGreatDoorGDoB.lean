/-
  string(b), of bytes.
  append onto a row of one's own, of whatever elements without pointers.
  The document's texts of numbers: dec, numOf, cuts, pairOf, walked.
-/
import Derived.Test.YtcbkimbeljhbhaaGreatDoorGOwn
import Derived.Laws.IdiomStrings
import Derived.Laws.BytesArg
import Derived.Test.YtcbkimbeljhbhaaGreatDoorGByt
import Derived.Test.YtcbkimbeljhbhaaGreatDoorGGrB
import Derived.Test.YtcbkimbeljhbhaaGreatDoorGDoA
import Derived.Lib.QuietBelow
set_option linter.unusedVariables false
set_option linter.unusedSimpArgs false
namespace Go.Proofs.YtcbkimbeljhbhaaGreatDoor
open Go.RowKit Go.ChangeShapes Go.WideShapes Go.ChangeAt

theorem conv_str {w : World} {v : Value} {xs : List UInt8} (h : Sl byteR w v xs) : (convert 98 9 v).run Tryz.prog w = .ok (.string ⟨xs.toArray⟩) w := by
  obtain ⟨A, c, rfl⟩ := h.form
  rcases A with _ | ad
  · have hx : xs = [] := by
      rcases Nat.eq_zero_or_pos xs.length with h0 | h0
      · exact List.eq_nil_of_length_eq_zero h0
      · obtain ⟨_, _, h, _⟩ := h.at_ h0; cases h
    subst hx
    exact run_convert_bytes_nil w 98 5 Tryz.underlying98 Tryz.underlying5 0 c _ Tryz.underlying9
  · refine run_convert_bytes_back w 98 9 5 ad c xs Tryz.underlying98 Tryz.underlying5 Tryz.underlying9 fun j hj => ?_
    obtain ⟨b, off, hA, _⟩ := h.at_ hj
    injection hA with hA
    subst hA
    obtain ⟨cs, ⟨rfl, _⟩, hc⟩ := h.cell hj
    have h1 := hc 0 _ rfl
    have e : ((⟨b, off, none⟩ : Addr).add j) = ⟨b, off + j * byteR.size + 0, none⟩ := by
      unfold Addr.add
      split
      · rename_i hz; simp [hz]
      · simp [byteR, flatR]
    rw [e]; exact h1
end Go.Proofs.YtcbkimbeljhbhaaGreatDoor

namespace Go.Proofs.YtcbkimbeljhbhaaGreatDoor
open Go.RowKit Go.Deep

theorem app_gen {α : Type} {r : Rep α} {T E : TypeId} {bytes : Nat} (el : Elt Tryz.prog T E r.size bytes) {w : World} {base ty : Nat} {v vx : Value} {xs ys : List α} {S : Nat → Prop} (hown : OwR r E base w v xs) (hsrc : SlR r w S vx ys)
    (hS : ∀ (cs : List Value) (y : α), r.holds w S cs y → r.holds w (fun k => k < w.heap.size ∧ v.ownBlock ≠ some k) cs y) (hn : xs.length + ys.length ≤ 1000000000000) (hb : bytes ≤ 100) :
    ∃ v' w', (Builtin.append_ #[T, T] ty #[v, vx]).run Tryz.prog w = .ok v' w' ∧ OwR r E base w' v' (xs ++ ys) ∧ GrowTo w v w' v' := by
  have hm : (xs.length + ys.length) * bytes ≤ 1000000000000 * 100 := Nat.mul_le_mul hn hb
  obtain ⟨v', w', r1, r2, r3, r4⟩ := run_own_append (ty := ty) el hown hsrc hS (by unfold maxLen; omega) (by omega)
  refine ⟨v', w', r1, r2, r3, fun k hk => ?_⟩
  rcases r4 with e | e
  · exact .inl (e ▸ hk)
  · rw [e] at hk; injection hk with hk; exact .inr (Nat.le_of_eq hk)
theorem wpList_gen {α : Type} {r : Rep α} {T E : TypeId} {bytes : Nat} (el : Elt Tryz.prog T E r.size bytes) {ops : Array Oper} {rest : List Oper} {o : Oper} {a : Act} {Q : Exit → Act → World → Prop} {w : World} {base : Nat} (hgd : o.guard = none) (s x : Operand)
    (ho : o.op = .call { callee := .builtin .append, args := #[s, x], argTypes := #[T, T] }) {v vx : Value} {xs ys : List α} {S : Nat → Prop}
    (hown : OwR r E base w v xs) (hsrc : SlR r w S vx ys) (hS : ∀ (cs : List Value) (y : α), r.holds w S cs y → r.holds w (fun k => k < w.heap.size ∧ v.ownBlock ≠ some k) cs y) (hs : a.eval s = v) (hx : a.eval x = vx) (hn : xs.length + ys.length ≤ 1000000000000) (hb : bytes ≤ 100)
    (h : ∀ v' w', OwR r E base w' v' (xs ++ ys) → GrowTo w v w' v' → wpList Tryz.prog ops Q rest (a.put o.dst v') w') : wpList Tryz.prog ops Q (o :: rest) a w :=
  wpList_plain hgd fun _ hK => by
    obtain ⟨v', w', hrun, h2, h3⟩ := app_gen (ty := o.type) el hown hsrc hS hn hb
    unfold Oper.wp execOp
    simp only [ho, resolve, invoke, builtin, Sem.run_bind, Sem.run_pure, Result.andThen_ok, List.map_toArray, List.map_cons, List.map_nil, hs, hx, hrun]
    exact hK _ _ (h v' w' h2 h3)
theorem step_gen {α : Type} {r : Rep α} {T E : TypeId} {bytes : Nat} (el : Elt Tryz.prog T E r.size bytes) {ops : Array Oper} {o : Oper} {a : Act} {K : Act → World → Prop} {Q : Exit → Act → World → Prop} {E' : Prop} {w : World} {base : Nat} (hgd : o.guard = none) (s x : Operand)
    (ho : o.op = .call { callee := .builtin .append, args := #[s, x], argTypes := #[T, T] }) {v vx : Value} {xs ys : List α} {S : Nat → Prop}
    (hown : OwR r E base w v xs) (hsrc : SlR r w S vx ys) (hS : ∀ (cs : List Value) (y : α), r.holds w S cs y → r.holds w (fun k => k < w.heap.size ∧ v.ownBlock ≠ some k) cs y) (hs : a.eval s = v) (hx : a.eval x = vx) (hn : xs.length + ys.length ≤ 1000000000000) (hb : bytes ≤ 100)
    (h : ∀ v' w', OwR r E base w' v' (xs ++ ys) → GrowTo w v w' v' → K (a.put o.dst v') w') : if Region.wanted o (yielded ops a.tmps) = true then Oper.wp Tryz.prog o a w K Q else E' := by
  have hw : Region.wanted o (yielded ops a.tmps) = true := by simp [Region.wanted, hgd]
  rw [if_pos hw]
  obtain ⟨v', w', hrun, h2, h3⟩ := app_gen (ty := o.type) el hown hsrc hS hn hb
  unfold Oper.wp execOp
  simp only [ho, resolve, invoke, builtin, Sem.run_bind, Sem.run_pure, Result.andThen_ok, List.map_toArray, List.map_cons, List.map_nil, hs, hx, hrun]
  exact h v' w' h2 h3
theorem ow_alloc {α : Type} {r : Rep α} {E base : Nat} {w : World} {v : Value} {xs : List α} (h : OwR r E base w v xs) (o : Obj) : OwR r E base (w.alloc o) v xs := h.keep ((Below.refl w.heap.size w).alloc (Nat.le_refl _) o)
theorem ow_drew {α : Type} {r : Rep α} {E base : Nat} {w : World} {v : Value} {xs : List α} (h : OwR r E base w v xs) : OwR r E base w.drew v xs := h.keep ((Below.refl w.heap.size w).drew)
theorem Sl.strA {w : World} {b off c n : Nat} {xs : List ByteArray} (h : Sl strR w (.slice (some ⟨b, off, none⟩) n c) xs) {k : Nat} (hk : k < xs.length) : w.cell? ⟨b, off + k, none⟩ = some (.string xs[k]) := by
  obtain ⟨cs, ⟨rfl, hw⟩, hc⟩ := h.cell hk
  have := hc 0 _ rfl
  simpa [strR, flatR] using this
theorem elt_strA : Elt Tryz.prog 90 9 1 16 := ⟨Tryz.underlying90, by
  have h : (Tryz.prog.info? 9).map (fun i => (i.zero, i.size, i.bytes)) = some (some (.string ⟨#[]⟩), 1, 16) := by kernel_rfl
  obtain ⟨i, h1, h2, h3, h4⟩ := info_parts h
  exact ⟨i, _, h1, h2, h3, h4, rfl⟩, by decide⟩
theorem elt_sideA : Elt Tryz.prog 51 57 2 16 := ⟨Tryz.underlying51, by
  have h : (Tryz.prog.info? 57).map (fun i => (i.zero, i.size, i.bytes)) = some (some (.agg #[.int .i64 0, .int .i64 0]), 2, 16) := by kernel_rfl
  obtain ⟨i, h1, h2, h3, h4⟩ := info_parts h
  exact ⟨i, _, h1, h2, h3, h4, rfl⟩, by decide⟩
theorem elt_prefA : Elt Tryz.prog 41 62 2 16 := ⟨Tryz.underlying41, by
  have h : (Tryz.prog.info? 62).map (fun i => (i.zero, i.size, i.bytes)) = some (some (.agg #[.int .i64 0, .int .i64 0]), 2, 16) := by kernel_rfl
  obtain ⟨i, h1, h2, h3, h4⟩ := info_parts h
  exact ⟨i, _, h1, h2, h3, h4, rfl⟩, by decide⟩
theorem one_flat {α : Type} {r : Rep α} {w : World} {B : Nat} {cs : List Value} {x : α} {E : TypeId} (hB : B = w.heap.size) (hh : r.holds w (fun k => k < w.heap.size) cs x) :
    SlR r (w.alloc (.cells cs.toArray E)) (fun k => k < w.heap.size + 1) (.slice (some ⟨B, 0, none⟩) 1 1) [x] := by
  subst hB; exact SlR.one_new hh
end Go.Proofs.YtcbkimbeljhbhaaGreatDoor

namespace Go.Proofs.YtcbkimbeljhbhaaGreatDoor
open Go Go.RowKit

theorem dec_word (n : Nat) (h : n < 10) : IntKind.u8.wrap (48 + (n : Int)) = ((UInt8.ofNat (48 + n)).toNat : Int) := by
  rw [IntKind.wrap_u8, dig_toNat h]; omega
theorem bOf_app (l m : List UInt8) : bOf l ++ bOf m = bOf (l ++ m) := Go.ByteArray.mk_append_mk l m

set_option maxRecDepth 50000 in
set_option maxHeartbeats 400000 in
theorem dec_lt (k : Nat) : ∀ (n : Nat) (w : World), n < k → n < 1000000000000 →
    Calls Tryz.prog 70 #[.int .i64 n] w fun e w' => e = .returned (.string (bOf (Lib.decDigits n))) ∧ Below w.heap.size w w' := by
  induction k with
  | zero => intro n w h _; omega
  | succ k ih =>
    intro n w h hb
    have IH := Go.Lib.hid ih
    clear ih
    by_cases h10 : n < 10
    · obtain ⟨c, hcc⟩ : ∃ c : UInt8, c = UInt8.ofNat (48 + n) := ⟨_, rfl⟩
      have HD := Go.Lib.hid (dec_small h10)
      rw [← hcc] at HD
      have hw : (c.toNat : Int) = 48 + (n : Int) := by rw [hcc, dig_toNat h10]; omega
      have hone : Sl byteR (w.alloc (.cells #[.int .u8 (c.toNat : Int)] 5)) (.slice (some ⟨w.heap.size, 0, none⟩) 1 1) [c] :=
        SlR.keep (SlR.one_new (r := byteR) (w := w) (cs := [.int .u8 (c.toNat : Int)]) (x := c) ⟨rfl, trivial⟩) (fun _ _ => rfl) (fun k hk => by simpa using hk)
      have hc := conv_str hone
      rw [hw] at hc
      clear hone h hb hw hcc
      go_enter Tryz.func70, Tryz.ntmps70
      go_wp2_with fail
      go_ret
      exact ⟨by rw [HD.out]; rfl, (Below.refl _ _).alloc (Nat.le_refl _) _⟩
    · have HD := Go.Lib.hid (dec_big h10)
      have e1 : (n : Int) / 10 = ((n / 10 : Nat) : Int) := by omega
      have e2 : (n : Int) % 10 = ((n % 10 : Nat) : Int) := by omega
      have i1 := fun w => IH.out (n / 10) w (by omega) (by omega)
      have i2 := fun w => IH.out (n % 10) w (by omega) (by omega)
      rw [← e1] at i1
      rw [← e2] at i2
      have I1 := Go.Lib.hid i1
      have I2 := Go.Lib.hid i2
      have l1 := dec_len 11 (n / 10) (by omega)
      have l2 := dec_len 11 (n % 10) (by omega)
      have z1 : (bOf (Lib.decDigits (n / 10))).size ≤ 12 := by rw [bOf_size]; exact l1
      have z2 : (bOf (Lib.decDigits (n % 10))).size ≤ 12 := by rw [bOf_size]; exact l2
      have h10' : ¬ (n : Int) < 10 := by omega
      have hb' : (n : Int) < 1000000000000 := by omega
      have EA := Go.Lib.hid (bOf_app (Lib.decDigits (n / 10)) (Lib.decDigits (n % 10)))
      have ES := Go.Lib.hid (dec_small (u := n % 10) (by omega))
      clear e1 e2 i1 i2 l1 l2 h10 h hb
      go_enter Tryz.func70, Tryz.ntmps70
      go_wp2_with (first
        | (go_at_call 70; have B1' := B1; refine (I2.out _).mono ?_; rintro e w2 ⟨rfl, hb2⟩; have B2 := Go.Lib.hid (B1.out.trans (hb2.mono B1.out.size)); clear hb2)
        | (go_at_call 70; refine (I1.out _).mono ?_; rintro e w1 ⟨rfl, hb1⟩; have B1 := Go.Lib.hid hb1; clear hb1))
      go_ret
      refine ⟨?_, B2.out⟩
      rw [HD.out, ← ES.out, ← EA.out]; rfl
theorem dec_any (n : Nat) (w : World) (h : n < 1000000000000) :
    Calls Tryz.prog 70 #[.int .i64 n] w fun e w' => e = .returned (.string (bOf (Lib.decDigits n))) ∧ Below w.heap.size w w' := dec_lt (n + 1) n w (Nat.lt_succ_self _) h

theorem valD_lt (l : List UInt8) : ∀ acc : Nat, (∀ c ∈ l, isD c) → valD acc l < (acc + 1) * 10 ^ l.length := by
  induction l with
  | nil => intro acc _; rw [valD_nil]; simp
  | cons c r ih =>
    intro acc hd
    obtain ⟨h1, h2⟩ := hd c (by simp)
    have h := ih (acc * 10 + (c.toNat - 48)) (fun x hx => hd x (by simp [hx]))
    rw [valD_cons]
    refine Nat.lt_of_lt_of_le h ?_
    rw [List.length_cons, Nat.pow_succ, Nat.mul_comm (10 ^ r.length) 10, ← Nat.mul_assoc]
    exact Nat.mul_le_mul_right _ (by omega)
theorem numR_len {s : List UInt8} (h : ¬ (1 ≤ s.length ∧ s.length ≤ 6)) : numR s = -1 := by unfold numR; rw [if_pos (.inl h)]
theorem numR_zero {s : List UInt8} (h : 1 < s.length ∧ s.head? = some 48) : numR s = -1 := by unfold numR; rw [if_pos (.inr h)]
theorem numR_bad {s : List UInt8} {c : UInt8} (h : c ∈ s) (hc : ¬ isD c) : numR s = -1 := by
  unfold numR
  split
  · rfl
  · rw [if_neg (fun e => hc (e c h))]
theorem numR_good {s : List UInt8} (h1 : 1 ≤ s.length ∧ s.length ≤ 6) (h2 : ¬ (1 < s.length ∧ s.head? = some 48)) (h3 : ∀ c ∈ s, isD c) : numR s = if 100000 < valD 0 s then -1 else (valD 0 s : Int) := by
  unfold numR
  rw [if_neg (by rintro (e | e); · exact e h1
                 · exact h2 e), if_pos h3]

set_option maxRecDepth 50000 in
set_option maxHeartbeats 1000000 in
theorem numOf_any (s : ByteArray) (w : World) (hl : s.size ≤ 9223372036854775807) :
    Calls Tryz.prog 126 #[.string s] w fun e w' => e = .returned (.int .i64 (numR s.data.toList)) ∧ w = w' := by
  have hsz := size_toList s
  by_cases h1 : 1 ≤ s.size ∧ s.size ≤ 6
  · obtain ⟨h1a, h1b⟩ := h1
    have hpos : 0 < s.size := h1a
    obtain ⟨c0, hc0⟩ : ∃ c0, s[0]'hpos = c0 := ⟨_, rfl⟩
    have hh : s.data.toList.head? = some c0 := by
      rw [← hc0, List.head?_eq_getElem?, List.getElem?_eq_getElem (by omega)]; rfl
    have h1i : (1 : Int) ≤ (s.size : Int) := by omega
    have h1j : (s.size : Int) ≤ 6 := by omega
    by_cases h2 : 1 < s.size ∧ c0 = 48
    · obtain ⟨h2a, rfl⟩ := h2
      have HR := Go.Lib.hid (numR_zero (s := s.data.toList) ⟨by omega, hh⟩)
      have h2i : (1 : Int) < (s.size : Int) := by omega
      clear hsz hh
      go_enter Tryz.func126, Tryz.ntmps126
      go_wp2_with (go_at_call 67; refine (in_any _ _ _ _).mono ?_; rintro e w' ⟨rfl, rfl⟩)
      go_ret
      exact ⟨ei HR.out.symm, rfl⟩
    · have HH := Go.Lib.hid hh
      have H2 := Go.Lib.hid h2
      have hg : ((1 : Int) < (s.size : Int)) → ((c0.toNat : Int) == 48) = false := by
        intro h
        rw [beq_eq_false_iff_ne]
        intro e
        exact h2 ⟨by omega, UInt8.toNat_inj.1 (by have : (48 : UInt8).toNat = 48 := rfl; omega)⟩
      clear hh h2
      have HSZ := Go.Lib.hid hsz
      clear hsz
      by_cases h2i : (1 : Int) < (s.size : Int)
      · have hg' := hg h2i
        clear hg
        go_enter Tryz.func126, Tryz.ntmps126
        go_wp2_with (go_at_call 67; refine (in_any _ _ _ _).mono ?_; rintro e w' ⟨rfl, rfl⟩)
        go_loop [3, 4] (fun n i => ∃ k : Nat, k ≤ s.size ∧ i = .int .i64 k ∧ n = .int .i64 ((valD 0 (s.data.toList.take k) : Nat) : Int) ∧ ∀ c ∈ s.data.toList.take k, isD c) (fun _ i => s.size - (intOf i).toNat)
        case atStart => exact ⟨0, Nat.zero_le _, rfl, by rw [List.take_zero, valD_nil]; rfl, by simp⟩
        case round =>
          obtain ⟨k, hk, rfl, rfl, hall⟩ := hrel
          have HA := Go.Lib.hid hall
          have hvb := valD_lt _ 0 hall
          have hpw : 10 ^ (s.data.toList.take k).length ≤ 10 ^ 6 := Nat.pow_le_pow_right (by omega) (by rw [List.length_take]; omega)
          clear hall
          by_cases hlt : k < s.size
          · have hu : s[k].toNat < 256 := s[k].toNat_lt
            have hl' : k < s.data.toList.length := by rw [HSZ.out]; exact hlt
            have hx : s.data.toList[k] = s[k] := rfl
            have hsnoc : valD 0 (s.data.toList.take (k + 1)) = valD 0 (s.data.toList.take k) * 10 + (s[k].toNat - 48) := by
              rw [List.take_succ_eq_append_getElem hl', valD_snoc, hx]
            have hmem : s[k] ∈ s.data.toList := by rw [← hx]; exact List.getElem_mem hl'
            have hnext : isD s[k] → ∀ c ∈ s.data.toList.take (k + 1), isD c := by
              intro hd c hc
              rw [List.take_succ_eq_append_getElem hl', hx] at hc
              rcases List.mem_append.1 hc with hc | hc
              · exact HA.out c hc
              · rw [List.mem_singleton] at hc; subst hc; exact hd
            have HS := Go.Lib.hid hsnoc
            have HM := Go.Lib.hid hmem
            have HN := Go.Lib.hid hnext
            clear hsnoc hmem hnext hx
            generalize hV : valD 0 (s.data.toList.take k) = V at *
            have hV1 : (V : Int) < 1000000 := by omega
            clear hpw hvb
            by_cases hd : isD s[k]
            · have HD := Go.Lib.hid hd
              obtain ⟨d1, d2⟩ := hd
              have d1' : (48 : Int) ≤ (s[k].toNat : Int) := by omega
              have d2' : (s[k].toNat : Int) ≤ 57 := by omega
              clear d1 d2 hV hu
              go_wp2_with (go_at_call 67; refine (in_any _ _ _ _).mono ?_; rintro e w' ⟨rfl, rfl⟩)
              go_round
              case rel => exact ⟨k + 1, by omega, by go_num, by rw [HS.out]; congr 1; omega, HN.out HD.out⟩
              case measure => simp [intOf]; omega
            · have HR := Go.Lib.hid (numR_bad HM.out hd)
              have hd' : (decide ((48 : Int) ≤ (s[k].toNat : Int)) && decide ((s[k].toNat : Int) ≤ 57)) = false := by
                rw [Bool.eq_false_iff]
                intro e
                rw [Bool.and_eq_true, decide_eq_true_iff, decide_eq_true_iff] at e
                exact hd ⟨by omega, by omega⟩
              have hin := fun w => in_any (s[k].toNat : Int) 48 57 w
              rw [hd'] at hin
              have HIN := Go.Lib.hid hin
              clear hd hd' hin
              go_wp2_with (go_at_call 67; refine (HIN.out _).mono ?_; rintro e w' ⟨rfl, rfl⟩)
              go_ret
              exact ⟨ei HR.out.symm, rfl⟩
          · have hte : s.data.toList.take k = s.data.toList := List.take_of_length_le (by rw [HSZ.out]; omega)
            rw [hte] at HA hvb hpw ⊢
            clear hte
            have HR := Go.Lib.hid (numR_good (by rw [HSZ.out]; exact ⟨h1a, h1b⟩) (by rintro ⟨e1, e2⟩; rw [HH.out] at e2; injection e2 with e2; exact H2.out ⟨by rw [← HSZ.out]; exact e1, e2⟩) HA.out)
            generalize hV : valD 0 s.data.toList = V at *
            go_wp2_with fail
            all_goals
              go_ret
              refine ⟨ei ?_, rfl⟩
              rw [HR.out]
              split <;> omega
      · clear hg
        go_enter Tryz.func126, Tryz.ntmps126
        go_wp2_with (go_at_call 67; refine (in_any _ _ _ _).mono ?_; rintro e w' ⟨rfl, rfl⟩)
        go_loop [3, 4] (fun n i => ∃ k : Nat, k ≤ s.size ∧ i = .int .i64 k ∧ n = .int .i64 ((valD 0 (s.data.toList.take k) : Nat) : Int) ∧ ∀ c ∈ s.data.toList.take k, isD c) (fun _ i => s.size - (intOf i).toNat)
        case atStart => exact ⟨0, Nat.zero_le _, rfl, by rw [List.take_zero, valD_nil]; rfl, by simp⟩
        case round =>
          obtain ⟨k, hk, rfl, rfl, hall⟩ := hrel
          have HA := Go.Lib.hid hall
          have hvb := valD_lt _ 0 hall
          have hpw : 10 ^ (s.data.toList.take k).length ≤ 10 ^ 6 := Nat.pow_le_pow_right (by omega) (by rw [List.length_take]; omega)
          clear hall
          by_cases hlt : k < s.size
          · have hu : s[k].toNat < 256 := s[k].toNat_lt
            have hl' : k < s.data.toList.length := by rw [HSZ.out]; exact hlt
            have hx : s.data.toList[k] = s[k] := rfl
            have hsnoc : valD 0 (s.data.toList.take (k + 1)) = valD 0 (s.data.toList.take k) * 10 + (s[k].toNat - 48) := by
              rw [List.take_succ_eq_append_getElem hl', valD_snoc, hx]
            have hmem : s[k] ∈ s.data.toList := by rw [← hx]; exact List.getElem_mem hl'
            have hnext : isD s[k] → ∀ c ∈ s.data.toList.take (k + 1), isD c := by
              intro hd c hc
              rw [List.take_succ_eq_append_getElem hl', hx] at hc
              rcases List.mem_append.1 hc with hc | hc
              · exact HA.out c hc
              · rw [List.mem_singleton] at hc; subst hc; exact hd
            have HS := Go.Lib.hid hsnoc
            have HM := Go.Lib.hid hmem
            have HN := Go.Lib.hid hnext
            clear hsnoc hmem hnext hx
            generalize hV : valD 0 (s.data.toList.take k) = V at *
            have hV1 : (V : Int) < 1000000 := by omega
            clear hpw hvb
            by_cases hd : isD s[k]
            · have HD := Go.Lib.hid hd
              obtain ⟨d1, d2⟩ := hd
              have d1' : (48 : Int) ≤ (s[k].toNat : Int) := by omega
              have d2' : (s[k].toNat : Int) ≤ 57 := by omega
              clear d1 d2 hV hu
              go_wp2_with (go_at_call 67; refine (in_any _ _ _ _).mono ?_; rintro e w' ⟨rfl, rfl⟩)
              go_round
              case rel => exact ⟨k + 1, by omega, by go_num, by rw [HS.out]; congr 1; omega, HN.out HD.out⟩
              case measure => simp [intOf]; omega
            · have HR := Go.Lib.hid (numR_bad HM.out hd)
              have hd' : (decide ((48 : Int) ≤ (s[k].toNat : Int)) && decide ((s[k].toNat : Int) ≤ 57)) = false := by
                rw [Bool.eq_false_iff]
                intro e
                rw [Bool.and_eq_true, decide_eq_true_iff, decide_eq_true_iff] at e
                exact hd ⟨by omega, by omega⟩
              have hin := fun w => in_any (s[k].toNat : Int) 48 57 w
              rw [hd'] at hin
              have HIN := Go.Lib.hid hin
              clear hd hd' hin
              go_wp2_with (go_at_call 67; refine (HIN.out _).mono ?_; rintro e w' ⟨rfl, rfl⟩)
              go_ret
              exact ⟨ei HR.out.symm, rfl⟩
          · have hte : s.data.toList.take k = s.data.toList := List.take_of_length_le (by rw [HSZ.out]; omega)
            rw [hte] at HA hvb hpw ⊢
            clear hte
            have HR := Go.Lib.hid (numR_good (by rw [HSZ.out]; exact ⟨h1a, h1b⟩) (by rintro ⟨e1, e2⟩; rw [HH.out] at e2; injection e2 with e2; exact H2.out ⟨by rw [← HSZ.out]; exact e1, e2⟩) HA.out)
            generalize hV : valD 0 s.data.toList = V at *
            go_wp2_with fail
            all_goals
              go_ret
              refine ⟨ei ?_, rfl⟩
              rw [HR.out]
              split <;> omega
  · have HR := Go.Lib.hid (numR_len (s := s.data.toList) (by rw [hsz]; exact h1))
    clear hsz
    go_enter Tryz.func126, Tryz.ntmps126
    go_wp2_with (go_at_call 67; refine (in_any _ _ _ _).mono ?_; rintro e w' ⟨rfl, rfl⟩)
    · go_ret
      exact ⟨ei HR.out.symm, rfl⟩
    all_goals (exfalso; simp at *; omega)
end Go.Proofs.YtcbkimbeljhbhaaGreatDoor
