/-
  
-/
import Derived.Test.YtojojpjldkpmoaaGreatDoorGOwn
import Derived.Test.YtojojpjldkpmoaaGreatDoorGSrt
import Derived.Lib.AppendStr
import Derived.Deep.RegionHeld3
set_option linter.unusedVariables false
set_option linter.unusedSimpArgs false
set_option maxHeartbeats 16000000
namespace Go.Proofs.YtojojpjldkpmoaaGreatDoor
open Go.RowKit Go.Deep
def bcell (c : UInt8) : Value := .int .u8 c.toNat
def b8 (n : Int) : UInt8 := UInt8.ofNat n.toNat
theorem b8_toNat {n : Int} (h0 : 0 <= n) (h1 : n <= 255) : ((b8 n).toNat : Int) = n := by unfold b8; rw [UInt8.toNat_ofNat']; omega
theorem b8_inj {a b : Int} (h0 : 0 <= a) (h1 : a <= 255) (g0 : 0 <= b) (g1 : b <= 255) (h : b8 a = b8 b) : a = b := by
 rw [<- b8_toNat h0 h1, <- b8_toNat g0 g1, h]
theorem bcell_b8 {n : Int} (h0 : 0 <= n) (h1 : n <= 255) : bcell (b8 n) = .int .u8 n := by unfold bcell; rw [b8_toNat h0 h1]
theorem elt_byte : Elt Tryz.prog 106 5 1 1 := ⟨Tryz.underlying106, by
 have h : (Tryz.prog.info? 5).map (fun i => (i.zero, i.size, i.bytes)) = some (some (.int .u8 0), 1, 1) := by kernel_rfl
 obtain ⟨i, h1, h2, h3, h4⟩ := info_parts h
 exact ⟨i, _, h1, h2, h3, h4, rfl⟩, by decide⟩
theorem OwR.of_bytes {E base : Nat} {w : World} {v : Value} {xs : List UInt8} (h : w.ownsRow base E 1 v xs.length (xs.map bcell)) (hb : base <= w.heap.size) : OwR byteR E base w v xs := by
 refine ⟨xs.map fun x => [bcell x], by simp, ?_, ?_, hb⟩
 · intro i cs x hc hx
   have : cs = [bcell x] := by simp [zbt, hx] at hc; exact hc.symm
   subst this
   exact ⟨rfl, trivial⟩
 · rw [flatten_one]; exact h
theorem OwR.to_bytes {E base : Nat} {w : World} {v : Value} {xs : List UInt8} (h : OwR byteR E base w v xs) : w.ownsRow base E 1 v xs.length (xs.map bcell) /\ base <= w.heap.size := by
 obtain ⟨css, h1, h2, h3, h4⟩ := h
 refine ⟨?_, h4⟩
 have : css = xs.map fun x => [bcell x] := by
  refine List.ext_getElem (by simp [h1]) fun i hi hi' => ?_
  have := h2 i css[i] (xs[i]'(by omega)) (zac hi) (zac (by omega))
  rw [this.1]
  simp [bcell]
 rw [this, flatten_one] at h3
 exact h3
theorem strCells_eq (s : ByteArray) : Lib.strCells s = s.data.toList.map bcell := rfl
theorem one_byte {w : World} {E : TypeId} {x : Int} (h0 : 0 <= x) (h1 : x <= 255) : SlR byteR (w.alloc (.cells #[.int .u8 x] E)) (fun k => k < w.heap.size + 1) (.slice (some ⟨w.heap.size, 0, none⟩) 1 1) [b8 x] := by
 have := SlR.one_new (r := byteR) (w := w) (cs := [.int .u8 x]) (x := b8 x) (E := E) ⟨by show _ = [Value.int .u8 ((b8 x).toNat : Int)]; rw [b8_toNat h0 h1], trivial⟩
 exact this
theorem some_bytes {w : World} {E : TypeId} (xs : List Int) (h : ∀ x ∈ xs, 0 <= x /\ x <= 255) (hl : xs.length <= maxLen) : SlR byteR (w.alloc (.cells (xs.map (Value.int .u8)).toArray E)) (fun k => k < w.heap.size + 1) (.slice (some ⟨w.heap.size, 0, none⟩) xs.length xs.length) (xs.map b8) := by
 refine ⟨some ⟨w.heap.size, 0, none⟩, xs.length, by simp, by simp, hl, fun i y hy => ?_⟩
 have hi : i < xs.length := by have := (zax.1 hy).1; simpa using this
 have hy' : b8 xs[i] = y := by simpa [hi] using hy
 obtain ⟨a0, a1⟩ := h xs[i] (zas hi)
 refine ⟨w.heap.size, 0, [.int .u8 xs[i]], rfl, by show _ < _; omega, by simp, ⟨by show _ = [Value.int .u8 (y.toNat : Int)]; rw [<- hy', b8_toNat a0 a1], trivial⟩, fun j u hu => ?_⟩
 match j, hu with
 | 0, hu =>
   simp at hu; subst hu
   rw [zae _ _ _ _ rfl]
   simp [byteR, flatR, hi]
 | j + 1, hu => simp at hu
structure GrowTo (w : World) (v : Value) (w' : World) (v' : Value) : Prop where
 grown : w.grownBy w' v.ownBlock
 own : ∀ k, v'.ownBlock = some k -> v.ownBlock = some k ∨ w.heap.size <= k
theorem GrowTo.refl (w : World) (v : Value) : GrowTo w v w v := ⟨zaX _ _, fun _ h => .inl h⟩
theorem GrowTo.trans {w w1 w2 : World} {v v1 v2 : Value} (h : GrowTo w v w1 v1) (k : GrowTo w1 v1 w2 v2) : GrowTo w v w2 v2 := by
 refine ⟨⟨k.grown.os.trans h.grown.os, k.grown.tape.trans h.grown.tape, k.grown.output.trans h.grown.output, zaz h.grown.size k.grown.size, fun i hi hne => ?_⟩, fun i hi => ?_⟩
 · rw [k.grown.block i (zan hi h.grown.size) ?_, h.grown.block i hi hne]
   intro e
   rcases h.own i e.symm with e2 | e2
   · exact hne e2.symm
   · omega
 · rcases k.own i hi with e | e
   · exact h.own i e
   · exact .inr (zaz h.grown.size e)
theorem GrowTo.of_below {w w' : World} (h : Below w.heap.size w w') (v : Value) : GrowTo w v w' v :=
 ⟨⟨h.os, h.tape, h.output, h.size, fun i hi _ => h.block i hi⟩, fun _ h => .inl h⟩
theorem GrowTo.below {w w' : World} {v v' : Value} {base : Nat} (h : GrowTo w v w' v') (hb : base <= w.heap.size) (hv : ∀ k, v.ownBlock = some k -> base <= k) : Below base w w' :=
 ⟨h.grown.os, h.grown.tape, h.grown.output, h.grown.size, fun k hk => h.grown.block k (by omega) (fun e => by have := hv k e.symm; omega)⟩
theorem run_own_append_str {w : World} {base ty : Nat} {v : Value} {xs : List UInt8} (hown : OwR byteR 5 base w v xs) (s : ByteArray) (hb : xs.length + s.size <= 140737488355328) :
  ∃ v' w', (Builtin.append_ #[106, 9] ty #[v, .string s]).run Tryz.prog w = .ok v' w' /\ OwR byteR 5 base w' v' (xs ++ s.data.toList) /\ GrowTo w v w' v' := by
 obtain ⟨h1, h2⟩ := hown.to_bytes
 obtain ⟨i, z, q1, q2, q3, q4, q5⟩ := elt_byte.info
 have hz : z = .int .u8 0 := by
  have h : (Tryz.prog.info? 5).map (fun i => i.zero) = some (some (.int .u8 0)) := by kernel_rfl
  rw [q1] at h
  simp at h
  rw [q2] at h
  injection h
 subst hz
 have h63 : xs.length + s.size <= maxLen := by unfold maxLen; omega
 obtain ⟨v', w', r1, r2, r3, r4⟩ := Lib.run_append_own_string (P := Tryz.prog) w base 106 9 ty 5 i elt_byte.ht Tryz.underlying9 q1 q2 q3 q4 v xs.length (xs.map bcell) h1 s h63 hb h2
 have hr2 : w'.ownsRow base 5 1 v' (xs ++ s.data.toList).length ((xs ++ s.data.toList).map bcell) := by
  rw [zbf, zah, <- strCells_eq]
  have : s.data.toList.length = s.size := size_toList s
  rw [this]
  exact r2
 refine ⟨v', w', r1, OwR.of_bytes hr2 (zaz h2 r3.size), r3, fun k hk => ?_⟩
 have hxl : (xs.map bcell).length = xs.length := by simp
 rcases h1.2 with ⟨rfl, hn⟩ | ⟨g, cap, cur, rfl, hbg, hg, hnc, hcm, hcs, htake⟩
 · by_cases hm : s.size = 0
   · rw [r4.2 ⟨rfl, hm⟩] at hk; cases hk
   · have hr := run_append_nil_string (P := Tryz.prog) w 106 9 ty 5 i (.int .u8 0) elt_byte.ht Tryz.underlying9 q1 q2 s (by omega) (by unfold maxLen at h63; omega) (by rw [q4]; omega)
     rw [r1] at hr
     injection hr with e1 e2
     rw [e1] at hk
     injection hk with hk
     exact .inr (zbO hk)
 · by_cases hroom : xs.length + s.size <= cap
   · have hcs' : cur.size = cap := by simpa using hcs
     have hr := Lib.run_append_room_string (P := Tryz.prog) w 106 9 ty 5 i elt_byte.ht Tryz.underlying9 q1 q3 g xs.length cap cur hg s hroom (by omega)
     rw [r1] at hr
     injection hr with e1 e2
     rw [e1] at hk
     exact .inl hk
   · have hr := Lib.run_append_grow_string (P := Tryz.prog) w 106 9 ty 5 i (.int .u8 0) elt_byte.ht Tryz.underlying9 q1 q2 ⟨g, 0, none⟩ xs.length cap (xs.map bcell) (by rw [q3]; simp) (h1.cells (g := g) rfl) s (by omega) (by unfold maxLen at h63; omega) (by rw [q4]; exact growslice_fits (by omega) (by omega))
     rw [r1] at hr
     injection hr with e1 e2
     rw [e1] at hk
     injection hk with hk
     exact .inr (zbO hk)
theorem run_own_append_bytes {w : World} {base ty : Nat} {v vx : Value} {xs ys : List UInt8} {S : Nat -> Prop} (hown : OwR byteR 5 base w v xs) (hsrc : SlR byteR w S vx ys) (hb : xs.length + ys.length <= 140737488355328) :
  ∃ v' w', (Builtin.append_ #[106, 106] ty #[v, vx]).run Tryz.prog w = .ok v' w' /\ OwR byteR 5 base w' v' (xs ++ ys) /\ GrowTo w v w' v' := by
 obtain ⟨v', w', r1, r2, r3, r4⟩ := run_own_append (ty := ty) elt_byte hown hsrc (fun _ _ h => h) (by unfold maxLen; omega) (by omega)
 refine ⟨v', w', r1, r2, r3, fun k hk => ?_⟩
 rcases r4 with e | e
 · exact .inl (e ▸ hk)
 · rw [e] at hk; injection hk with hk; exact .inr (by omega)
theorem wpList_bytes {ops : Array Oper} {rest : List Oper} {o : Oper} {a : Act} {Q : Exit -> Act -> World -> Prop} {w : World} {base : Nat} (hgd : o.guard = none) (s x : Operand)
  (ho : o.op = .call { callee := .builtin .append, args := #[s, x], argTypes := #[106, 106] }) {v vx : Value} {xs ys : List UInt8} {S : Nat -> Prop}
  (hown : OwR byteR 5 base w v xs) (hsrc : SlR byteR w S vx ys) (hs : a.eval s = v) (hx : a.eval x = vx) (hb : xs.length + ys.length <= 140737488355328)
  (h : ∀ v' w', OwR byteR 5 base w' v' (xs ++ ys) -> GrowTo w v w' v' -> wpList Tryz.prog ops Q rest (a.put o.dst v') w') : wpList Tryz.prog ops Q (o :: rest) a w :=
 wpList_plain hgd fun _ hK => by
  obtain ⟨v', w', hrun, h2, h3⟩ := run_own_append_bytes (ty := o.type) hown hsrc hb
  unfold Oper.wp execOp
  simp only [ho, resolve, invoke, builtin, zbA, zbz, Result.andThen_ok, zbk, zaH, zbv, hs, hx, hrun]
  exact hK _ _ (h v' w' h2 h3)
theorem wpList_str {ops : Array Oper} {rest : List Oper} {o : Oper} {a : Act} {Q : Exit -> Act -> World -> Prop} {w : World} {base : Nat} (hgd : o.guard = none) (s x : Operand)
  (ho : o.op = .call { callee := .builtin .append, args := #[s, x], argTypes := #[106, 9] }) {v : Value} {xs : List UInt8} {t : ByteArray}
  (hown : OwR byteR 5 base w v xs) (hs : a.eval s = v) (hx : a.eval x = .string t) (hb : xs.length + t.size <= 140737488355328)
  (h : ∀ v' w', OwR byteR 5 base w' v' (xs ++ t.data.toList) -> GrowTo w v w' v' -> wpList Tryz.prog ops Q rest (a.put o.dst v') w') : wpList Tryz.prog ops Q (o :: rest) a w :=
 wpList_plain hgd fun _ hK => by
  obtain ⟨v', w', hrun, h2, h3⟩ := run_own_append_str (ty := o.type) hown t hb
  unfold Oper.wp execOp
  simp only [ho, resolve, invoke, builtin, zbA, zbz, Result.andThen_ok, zbk, zaH, zbv, hs, hx, hrun]
  exact hK _ _ (h v' w' h2 h3)
theorem step_bytes {ops : Array Oper} {o : Oper} {a : Act} {K : Act -> World -> Prop} {Q : Exit -> Act -> World -> Prop} {E : Prop} {w : World} {base : Nat} (hgd : o.guard = none) (s x : Operand)
  (ho : o.op = .call { callee := .builtin .append, args := #[s, x], argTypes := #[106, 106] }) {v vx : Value} {xs ys : List UInt8} {S : Nat -> Prop}
  (hown : OwR byteR 5 base w v xs) (hsrc : SlR byteR w S vx ys) (hs : a.eval s = v) (hx : a.eval x = vx) (hb : xs.length + ys.length <= 140737488355328)
  (h : ∀ v' w', OwR byteR 5 base w' v' (xs ++ ys) -> GrowTo w v w' v' -> K (a.put o.dst v') w') : if Region.wanted o (yielded ops a.tmps) = true then Oper.wp Tryz.prog o a w K Q else E := by
 have hw : Region.wanted o (yielded ops a.tmps) = true := by simp [Region.wanted, hgd]
 rw [if_pos hw]
 obtain ⟨v', w', hrun, h2, h3⟩ := run_own_append_bytes (ty := o.type) hown hsrc hb
 unfold Oper.wp execOp
 simp only [ho, resolve, invoke, builtin, zbA, zbz, Result.andThen_ok, zbk, zaH, zbv, hs, hx, hrun]
 exact h v' w' h2 h3
theorem step_str {ops : Array Oper} {o : Oper} {a : Act} {K : Act -> World -> Prop} {Q : Exit -> Act -> World -> Prop} {E : Prop} {w : World} {base : Nat} (hgd : o.guard = none) (s x : Operand)
  (ho : o.op = .call { callee := .builtin .append, args := #[s, x], argTypes := #[106, 9] }) {v : Value} {xs : List UInt8} {t : ByteArray}
  (hown : OwR byteR 5 base w v xs) (hs : a.eval s = v) (hx : a.eval x = .string t) (hb : xs.length + t.size <= 140737488355328)
  (h : ∀ v' w', OwR byteR 5 base w' v' (xs ++ t.data.toList) -> GrowTo w v w' v' -> K (a.put o.dst v') w') : if Region.wanted o (yielded ops a.tmps) = true then Oper.wp Tryz.prog o a w K Q else E := by
 have hw : Region.wanted o (yielded ops a.tmps) = true := by simp [Region.wanted, hgd]
 rw [if_pos hw]
 obtain ⟨v', w', hrun, h2, h3⟩ := run_own_append_str (ty := o.type) hown t hb
 unfold Oper.wp execOp
 simp only [ho, resolve, invoke, builtin, zbA, zbz, Result.andThen_ok, zbk, zaH, zbv, hs, hx, hrun]
 exact h v' w' h2 h3
def sev (n : Nat) : List UInt8 := if n < 128 then [b8 n] else b8 (128 + n % 128 : Nat) :: sev (n / 128)
termination_by n
decreasing_by omega
theorem sev_small {n : Nat} (h : n < 128) : sev n = [b8 n] := by rw [sev, if_pos h]
theorem sev_big {n : Nat} (h : ¬ n < 128) : sev n = b8 (128 + n % 128 : Nat) :: sev (n / 128) := by rw [sev, if_neg h]
theorem sev_len (n d : Nat) (h : n < 128 ^ (d + 1)) : (sev n).length <= d + 1 := by
 induction d generalizing n with
 | zero => rw [sev_small (by omega)]; simp
 | succ d ih =>
   by_cases hs : n < 128
   · rw [sev_small hs]; simp
   · rw [sev_big hs, zaw]
     have := ih (n / 128) (by rw [Nat.div_lt_iff_lt_mul (by omega)]; rwa [Nat.pow_succ] at h)
     omega
def encE (e : Entry) : List UInt8 := b8 e.key.size :: (e.key.data.toList ++ (sev e.version.toNat ++ (b8 e.origin :: b8 e.value.size :: e.value.data.toList)))
theorem encE_len {e : Entry} (h : entryOk e = true) : (encE e).length <= 138 := by
 unfold entryOk keyOk at h
 simp only [Bool.and_eq_true, decide_eq_true_eq] at h
 obtain ⟨⟨⟨⟨⟨⟨⟨h1, h2⟩, h3⟩, h4⟩, h5⟩, h6⟩, h7⟩, h8⟩ := h
 have h9 := sev_len e.version.toNat 6 (by omega)
 have e1 : e.key.data.toList.length = e.key.size := size_toList _
 have e2 : e.value.data.toList.length = e.value.size := size_toList _
 unfold encE
 simp only [zaw, zah, e1, e2]
 omega
def encB (l : List Entry) : List UInt8 := 116 :: b8 l.length :: (l.map encE).flatten
def sums (l : List UInt8) : Int × Int := l.foldl (fun p c => let x := (p.1 + c.toNat) % 65521; (x, (p.2 + x) % 65521)) (1, 0)
def sealB (l : List UInt8) : List UInt8 := [b8 ((sums l).2 / 256), b8 ((sums l).2 % 256), b8 ((sums l).1 / 256), b8 ((sums l).1 % 256)]
def encS (l : List Entry) : List UInt8 := encB l ++ sealB (encB l)
theorem sums_snoc (l : List UInt8) (c : UInt8) : sums (l ++ [c]) = (((sums l).1 + c.toNat) % 65521, ((sums l).2 + ((sums l).1 + c.toNat) % 65521) % 65521) := by
 simp [sums, zcc]
theorem sums_lt (l : List UInt8) : 0 <= (sums l).1 /\ (sums l).1 < 65521 /\ 0 <= (sums l).2 /\ (sums l).2 < 65521 := by
 rcases List.eq_nil_or_concat l with rfl | ⟨r, c, rfl⟩
 · simp [sums]
 · rw [List.concat_eq_append, sums_snoc]; simp only; omega
end Go.Proofs.YtojojpjldkpmoaaGreatDoor
