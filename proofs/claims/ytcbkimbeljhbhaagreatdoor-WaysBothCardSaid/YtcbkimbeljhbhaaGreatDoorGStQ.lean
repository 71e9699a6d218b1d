/-
  Walks of the store layer, part H: sevens, SealOf.
  Walks of the store layer, part I: StoreBytes.
  Walks of the store layer, part P: withEntry, Put, PutOf.
  Walks of the store layer, part Q: Put.
-/
import Derived.Test.YtcbkimbeljhbhaaGreatDoorGStG
import Derived.Test.YtcbkimbeljhbhaaGreatDoorGIns2
import Derived.Test.YtcbkimbeljhbhaaGreatDoorGSrt2
import Derived.Test.YtcbkimbeljhbhaaGreatDoorGStE
set_option linter.unusedVariables false
set_option linter.unusedSimpArgs false
namespace Go.Proofs.YtcbkimbeljhbhaaGreatDoor
open Go.RowKit Go.Deep

/-- a call has made new bytes -/
def NewB (w : World) (ys : List UInt8) (e : Ending) (w' : World) : Prop :=
  ∃ v', e = .returned v' ∧ OwR byteR 5 w.heap.size w' v' ys ∧ Below w.heap.size w w'

theorem lit_bytes {w : World} {E : TypeId} {base : Nat} (xs : List Int) (h : ∀ x ∈ xs, 0 ≤ x ∧ x ≤ 255) (hl : xs.length ≤ maxLen) (hb : base ≤ w.heap.size) :
    OwR byteR E base (w.alloc (.cells (xs.map (Value.int .u8)).toArray E)) (.slice (some ⟨w.heap.size, 0, none⟩) xs.length xs.length) (xs.map b8) := by
  have := OwR.lit1 (r := byteR) (E := E) (base := base) (w := w) (f := bcell) (xs := xs.map b8) rfl (fun x _ S => ⟨rfl, trivial⟩) hb (by simpa using hl)
  have e : (xs.map b8).map bcell = xs.map (Value.int .u8) := by
    rw [List.map_map]
    refine List.map_congr_left fun x hx => ?_
    obtain ⟨a, b⟩ := h x hx
    exact bcell_b8 a b
  rw [e, List.length_map] at this
  exact this

end Go.Proofs.YtcbkimbeljhbhaaGreatDoor

namespace Go.Proofs.YtcbkimbeljhbhaaGreatDoor
open Go.RowKit Go.Deep

theorem Sl.ent_of {w : World} {b off c n : Nat} {xs : List Entry} (h : Sl entR w (.slice (some ⟨b, off, none⟩) n c) xs) {k : Nat} (hk : k < xs.length) {y : Entry} (hy : xs[k] = y) :
    w.cell? ⟨b, off + k * 4, none⟩ = some (.string y.key) ∧ w.cell? ⟨b, off + k * 4 + 1, none⟩ = some (.int .i64 y.version) ∧
    w.cell? ⟨b, off + k * 4 + 2, none⟩ = some (.int .i64 y.origin) ∧ w.cell? ⟨b, off + k * 4 + 3, none⟩ = some (.string y.value) := by
  subst hy
  obtain ⟨a, b, c, d, _⟩ := h.ent hk
  exact ⟨a, b, c, d⟩

theorem gbB {B : Nat} {w w' w'' : World} {v' v'' : Value} {ys : List UInt8} (hb : Below B w w') (ho : OwR byteR 5 B w' v' ys) (hg : GrowTo w' v' w'' v'') : Below B w w'' := hb.trans (hg.below ho.choose_spec.2.2.2 (fun k hk => (ho.base_le k hk).1))

end Go.Proofs.YtcbkimbeljhbhaaGreatDoor

namespace Go.Proofs.YtcbkimbeljhbhaaGreatDoor
open Go.RowKit Go.Deep

theorem OwR.lower {α : Type} {r : Rep α} {E base base' : Nat} {w : World} {v : Value} {xs : List α} (h : OwR r E base w v xs) (hb : base' ≤ base) : OwR r E base' w v xs := by
  obtain ⟨css, g1, g2, g3, g4⟩ := h
  refine ⟨css, g1, g2, ⟨g3.1, ?_⟩, by omega⟩
  rcases g3.2 with h | ⟨g, cap, cur, a1, a2, a3⟩
  · exact .inl h
  · exact .inr ⟨g, cap, cur, a1, by omega, a3⟩
/-- a call has made new entries -/
def NewE (w : World) (ys : List Entry) (e : Ending) (w' : World) : Prop :=
  ∃ v', e = .returned v' ∧ OwR entR 50 w.heap.size w' v' ys ∧ Below w.heap.size w w'
theorem app_ent {w : World} {base ty : Nat} {v vx : Value} {xs ys : List Entry} {S : Nat → Prop} (hown : OwR entR 50 base w v xs) (hsrc : SlR entR w S vx ys) (hb : xs.length + ys.length ≤ 1000000) :
    ∃ v' w', (Builtin.append_ #[22, 22] ty #[v, vx]).run Tryz.prog w = .ok v' w' ∧ OwR entR 50 base w' v' (xs ++ ys) ∧ GrowTo w v w' v' := by
  obtain ⟨v', w', r1, r2, r3, r4⟩ := run_own_append (ty := ty) elt_ent hown hsrc (fun _ _ h => h) (by unfold maxLen; omega) (by omega)
  exact ⟨v', w', r1, r2, GrowTo.of_at r3 r4⟩
theorem wpList_ents {ops : Array Oper} {rest : List Oper} {o : Oper} {a : Act} {Q : Exit → Act → World → Prop} {w : World} {base : Nat} (hgd : o.guard = none) (s x : Operand)
    (ho : o.op = .call { callee := .builtin .append, args := #[s, x], argTypes := #[22, 22] }) {v vx : Value} {xs ys : List Entry} {S : Nat → Prop}
    (hown : OwR entR 50 base w v xs) (hsrc : SlR entR w S vx ys) (hs : a.eval s = v) (hx : a.eval x = vx) (hb : xs.length + ys.length ≤ 1000000)
    (h : ∀ v' w', OwR entR 50 base w' v' (xs ++ ys) → GrowTo w v w' v' → wpList Tryz.prog ops Q rest (a.put o.dst v') w') : wpList Tryz.prog ops Q (o :: rest) a w :=
  wpList_plain hgd fun _ hK => by
    obtain ⟨v', w', hrun, h2, h3⟩ := app_ent (ty := o.type) hown hsrc hb
    unfold Oper.wp execOp
    simp only [ho, resolve, invoke, builtin, Sem.run_bind, Sem.run_pure, Result.andThen_ok, List.map_toArray, List.map_cons, List.map_nil, hs, hx, hrun]
    exact hK _ _ (h v' w' h2 h3)
theorem one_ent {w : World} {x : Entry} (hx : x.wf) : SlR entR (w.alloc (.cells #[.string x.key, .int .i64 x.version, .int .i64 x.origin, .string x.value] 50)) (fun k => k < w.heap.size + 1) (.slice (some ⟨w.heap.size, 0, none⟩) 1 1) [x] :=
  SlR.one_new (r := entR) (w := w) (cs := x.cells) (x := x) ⟨rfl, hx⟩
theorem gbE {B : Nat} {w w' w'' : World} {v' v'' : Value} {ys : List Entry} (hb : Below B w w') (ho : OwR entR 50 B w' v' ys) (hg : GrowTo w' v' w'' v'') : Below B w w'' := hb.trans (hg.below ho.choose_spec.2.2.2 (fun k hk => (ho.base_le k hk).1))

theorem OwR.drewN1 {α : Type} {r : Rep α} {E base : Nat} {w : World} {v : Value} {xs : List α} (h : OwR r E base w v xs) (n : Nat) : OwR r E base (w.drewN n) v xs := h.keep (bDrewN (Below.refl w.heap.size w) n)
theorem wGot_le {xs : List Entry} {x : Entry} {k : Nat} (hl : xs.length ≤ 100) : (wGot xs x k).length ≤ 201 := by
  unfold wGot
  split
  · rw [List.length_take]; omega
  · simp only [List.length_append, List.length_take, List.length_cons, List.length_drop]; omega
theorem key_ne {a b : ByteArray} (h : a ≠ b) : (a.toList == b.toList) = false := by
  rw [beq_eq_false_iff_ne]; exact fun e => h (toList_inj e)
theorem key_eq {a b : ByteArray} (h : a = b) : (a.toList == b.toList) = true := by rw [h]; simp

end Go.Proofs.YtcbkimbeljhbhaaGreatDoor

namespace Go.Proofs.YtcbkimbeljhbhaaGreatDoor
open Go.RowKit Go.Deep

def PutPost (xs : List Entry) (node : Int) (key value : ByteArray) (w : World) (e : Ending) (w' : World) : Prop :=
  ∃ v', e = .returned (.tuple #[v', .int .i64 (putS xs node key value).2]) ∧ OwR entR 50 w.heap.size w' v' (putS xs node key value).1 ∧ Below w.heap.size w w'
theorem put_fin {xs : List Entry} {node : Int} {key value : ByteArray} {w w' : World} {v' : Value} {ys : List Entry} {n : Int} (h : putS xs node key value = (ys, n)) (ho : OwR entR 50 w.heap.size w' v' ys) (hb : Below w.heap.size w w') :
    PutPost xs node key value w (.returned (.tuple #[v', .int .i64 n])) w' := ⟨v', by rw [h], by rw [h]; exact ho, hb⟩

theorem flat_setE : ∀ (xs : List Entry) (i : Nat) (x : Entry), i < xs.length →
    (((((xs.map Entry.cells).flatten.set (i * 4) (.string x.key)).set (i * 4 + 1) (.int .i64 x.version)).set (i * 4 + 2) (.int .i64 x.origin)).set (i * 4 + 3) (.string x.value)) = ((xs.set i x).map Entry.cells).flatten
  | [], i, x, h => by simp at h
  | y :: ys, 0, x, _ => by simp [Entry.cells]
  | y :: ys, i + 1, x, h => by
    have := flat_setE ys i x (by simpa using h)
    rw [List.set_cons_succ, List.map_cons, List.flatten_cons, List.map_cons, List.flatten_cons, ← this]
    have e : (i + 1) * 4 = i * 4 + 1 + 1 + 1 + 1 := by omega
    rw [e]
    simp [Entry.cells, List.set_cons_succ]

def setE (w : World) (g i : Nat) (x : Entry) : World := (((w.setCell ⟨g, i * 4, none⟩ (.string x.key)).setCell ⟨g, i * 4 + 1, none⟩ (.int .i64 x.version)).setCell ⟨g, i * 4 + 2, none⟩ (.int .i64 x.origin)).setCell ⟨g, i * 4 + 3, none⟩ (.string x.value)
/-- one entry of an own row is laid anew -/
theorem OwR.setE {base : Nat} {w : World} {g n cap : Nat} {xs : List Entry} (h : OwR entR 50 base w (.slice (some ⟨g, 0, none⟩) n cap) xs) (hn : n = xs.length) (i : Nat) (hi : i < xs.length) (x : Entry) (hx : x.wf) :
    OwR entR 50 base (setE w g i x) (.slice (some ⟨g, 0, none⟩) n cap) (xs.set i x) ∧ w.grownBy (Go.Proofs.YtcbkimbeljhbhaaGreatDoor.setE w g i x) (some g) := by
  obtain ⟨h1, h2, h3⟩ := OwR.to_flat h
  subst hn
  obtain ⟨s1, k1⟩ := h1.stored (i * 4) (.string x.key)
  obtain ⟨s2, k2⟩ := s1.stored (i * 4 + 1) (.int .i64 x.version)
  obtain ⟨s3, k3⟩ := s2.stored (i * 4 + 2) (.int .i64 x.origin)
  obtain ⟨s4, k4⟩ := s3.stored (i * 4 + 3) (.string x.value)
  rw [flat_setE xs i x hi] at s4
  have kk := ((k1.trans k2).trans k3).trans k4
  refine ⟨OwR.of_flat (by rw [List.length_set]; exact s4) ?_ (Nat.le_trans h3 kk.size), kk⟩
  intro y hy
  rcases List.mem_or_eq_of_mem_set hy with hy | rfl
  · exact h2 y hy
  · exact hx

theorem OwR.at_ {base : Nat} {w : World} {v : Value} {xs : List Entry} (h : OwR entR 50 base w v xs) (h0 : 0 < xs.length) : ∃ g cap, v = .slice (some ⟨g, 0, none⟩) xs.length cap ∧ base ≤ g ∧ g < w.heap.size ∧ (∀ j, w.frozen? ⟨g, j, none⟩ = false) := by
  obtain ⟨h1, _, _⟩ := OwR.to_flat h
  rcases h1.2 with ⟨_, h2⟩ | ⟨g, cap, cur, rfl, hb, hg, _⟩
  · omega
  · exact ⟨g, cap, rfl, hb, (h1.lt g rfl).2, fun j => h1.frozenAt j⟩

theorem ins_val {w : World} {x : Entry} : (w.alloc (.cells #[.string x.key, .int .i64 x.version, .int .i64 x.origin, .string x.value] 50)).heap[w.heap.size]? = some (.cells x.cells.toArray 50 (0, 0)) := by
  rw [heap_alloc_new]; rfl

end Go.Proofs.YtcbkimbeljhbhaaGreatDoor
