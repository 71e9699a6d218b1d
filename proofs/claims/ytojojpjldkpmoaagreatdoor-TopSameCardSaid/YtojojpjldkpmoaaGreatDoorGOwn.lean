/-
  
-/
import Derived.Test.YtojojpjldkpmoaaGreatDoorGRow
import Derived.Maps.AppendAt
import Derived.OwnWalk
set_option linter.unusedVariables false
set_option linter.unusedSimpArgs false
set_option maxHeartbeats 16000000
namespace Go.Proofs.YtojojpjldkpmoaaGreatDoor
open Go.RowKit Go.Deep
structure Elt (P : Program) (T E : TypeId) (size bytes : Nat) : Prop where
 ht : P.underlying T = some (.slice E)
 info : ∃ i z, P.info? E = some i /\ i.zero = some z /\ i.size = size /\ i.bytes = bytes /\ z.cells.size = size
 pos : 0 < size
theorem flat_inv {α : Type} {size : Nat} : ∀ {css : List (List α)}, (∀ cs ∈ css, cs.length = size) -> ∀ (p : Nat) (u : α), css.flatten[p]? = some u -> ∃ i j cs, css[i]? = some cs /\ cs[j]? = some u /\ p = i * size + j
 | [], _, p, u, h => by simp at h
 | c0 :: css, hl, p, u, h => by
   have h0 := hl c0 (by simp)
   rw [zaE] at h
   by_cases hp : p < c0.length
   · rw [zba hp] at h
     exact ⟨0, p, c0, rfl, h, by omega⟩
   · rw [zaR (by omega)] at h
     obtain ⟨i, j, cs, h1, h2, h3⟩ := flat_inv (css := css) (fun cs hc => hl cs (by simp [hc])) _ u h
     exact ⟨i + 1, j, cs, by simpa using h1, h2, by rw [zbZ]; omega⟩
theorem SlR.rows {α : Type} {r : Rep α} {w : World} {S : Nat -> Prop} {A : Option Addr} {n c : Nat} {xs : List α} (h : SlR r w S (.slice A n c) xs) :
  ∃ css : List (List Value), css.length = xs.length /\ (∀ (i : Nat) (cs : List Value) (x : α), css[i]? = some cs -> xs[i]? = some x -> r.holds w S cs x) /\
    (0 < xs.length -> ∃ b off, A = some ⟨b, off, none⟩ /\ S b /\ b < w.heap.size /\ CellsAt w b off css.flatten) := by
 obtain ⟨A', c', hv, _, _, h3⟩ := h
 injection hv with e1 e2 e3
 subst e1
 have h4 : ∀ i, i < xs.length -> ∃ cs : List Value, ∀ x, xs[i]? = some x -> ∃ b off, A = some ⟨b, off, none⟩ /\ S b /\ b < w.heap.size /\ r.holds w S cs x /\ CellsAt w b (off + i * r.size) cs := by
  intro i hi
  obtain ⟨b, off, cs, h⟩ := h3 i xs[i] (zac hi)
  refine ⟨cs, fun x hx => ⟨b, off, ?_⟩⟩
  rw [zac hi] at hx
  injection hx with hx
  subst hx; exact h
 obtain ⟨V, hV⟩ := choose_lt h4
 have hget : ∀ (i : Nat) (cs : List Value), ((List.range xs.length).map V)[i]? = some cs -> i < xs.length /\ V i = cs := by
  intro i cs hc
  have hi : i < xs.length := by
   have := (zax.1 hc).1
   simpa using this
  exact ⟨hi, by simpa [hi] using hc⟩
 have hhold : ∀ (i : Nat) (cs : List Value) (x : α), ((List.range xs.length).map V)[i]? = some cs -> xs[i]? = some x -> r.holds w S cs x := by
  intro i cs x hc hx
  obtain ⟨hi, rfl⟩ := hget i cs hc
  obtain ⟨_, _, _, _, _, hh, _⟩ := hV i hi x hx
  exact hh
 refine ⟨(List.range xs.length).map V, by simp, hhold, fun hpos => ?_⟩
 obtain ⟨b, off, rfl, hS, hb, _, _⟩ := hV 0 hpos xs[0] (zac hpos)
 refine ⟨b, off, rfl, hS, hb, fun p u hu => ?_⟩
 obtain ⟨hl, _⟩ := OwR.lens (by simp) hhold
 obtain ⟨i, j, cs, h1, h2, rfl⟩ := flat_inv hl p u hu
 obtain ⟨hi, rfl⟩ := hget i cs h1
 obtain ⟨b', off', hA, _, _, _, hc⟩ := hV i hi xs[i] (zac hi)
 injection hA with hA
 injection hA with g1 g2
 subst g1 g2
 rw [<- Nat.add_assoc]
 exact hc j u h2
theorem run_own_append {α : Type} {P : Program} {r : Rep α} {T E ty : TypeId} {bytes base : Nat} (el : Elt P T E r.size bytes) {w : World} {v vx : Value} {xs ys : List α} {S : Nat -> Prop}
  (hown : OwR r E base w v xs) (hsrc : SlR r w S vx ys) (hS : ∀ (cs : List Value) (y : α), r.holds w S cs y -> r.holds w (fun k => k < w.heap.size /\ v.ownBlock ≠ some k) cs y) (h63 : xs.length + ys.length <= maxLen) (hbytes : (xs.length + ys.length) * bytes <= 140737488355328) :
  ∃ v' w', (Builtin.append_ #[T, T] ty #[v, vx]).run P w = .ok v' w' /\ OwR r E base w' v' (xs ++ ys) /\ w.grownBy w' v.ownBlock /\ (v'.ownBlock = v.ownBlock ∨ v'.ownBlock = some w.heap.size) := by
 obtain ⟨css, h1, h2, h3, h4⟩ := hown
 have hsrc' := hsrc
 obtain ⟨A, c, rfl, _⟩ := hsrc'
 obtain ⟨css', g1, g2, g3⟩ := hsrc.rows
 obtain ⟨hl, _⟩ := OwR.lens h1 h2
 obtain ⟨hl', ho'⟩ := OwR.lens g1 g2
 obtain ⟨i, z, q1, q2, q3, q4, q5⟩ := el.info
 have fin : ∀ v' w', w'.ownsRow base E r.size v' (xs.length + ys.length) (css.flatten ++ css'.flatten) -> w.grownBy w' v.ownBlock -> (v'.ownBlock = v.ownBlock ∨ v'.ownBlock = some w.heap.size) -> OwR r E base w' v' (xs ++ ys) := by
  intro v' w' o1 o2 o3
  have hblk : ∀ k, (k < w.heap.size /\ v.ownBlock ≠ some k) -> w'.heap[k]? = w.heap[k]? := fun k hk => o2.block k hk.1 (fun e => hk.2 e.symm)
  have hsub : ∀ k, (k < w.heap.size /\ v.ownBlock ≠ some k) -> (k < w'.heap.size /\ v'.ownBlock ≠ some k) := by
   intro k hk
   refine ⟨zan hk.1 o2.size, fun e => ?_⟩
   rcases o3 with o3 | o3
   · exact hk.2 (o3 ▸ e)
   · rw [o3] at e; injection e with e; omega
  refine ⟨css ++ css', by simp [h1, g1], ?_, by rw [zbU, zah]; exact o1, zaz h4 o2.size⟩
  intro i cs x hc hx
  by_cases hi : i < css.length
  · rw [zba hi] at hc
    rw [zba (by omega)] at hx
    exact r.keep (h2 i cs x hc hx) hblk hsub
  · rw [zaR (by omega)] at hc
    rw [zaR (by omega), <- h1] at hx
    exact r.keep (hS cs x (g2 _ cs x hc hx)) hblk hsub
 rcases A with _ | ad
 · have hy : ys = [] := by
    rcases zaJ ys.length with h0 | h0
    · exact zat h0
    · obtain ⟨_, _, h, _⟩ := g3 h0; cases h
   subst hy
   have hc' : css' = [] := zat (by simpa using g1)
   subst hc'
   have hrun : (Builtin.append_ #[T, T] ty #[v, .slice none 0 c]).run P w = .ok v w := by
    rcases h3.2 with ⟨rfl, _⟩ | ⟨g, cap, cur, rfl, _, _, hnc, _⟩
    · simp [Builtin.append_, run_underlying el.ht, sizeOf, typeInfo, q1, Builtin.lenOf, Builtin.firstCells]
    · simp [Builtin.append_, run_underlying el.ht, sizeOf, typeInfo, q1, Builtin.lenOf, Builtin.firstCells, hnc, storeCells]
   exact ⟨v, w, hrun, fin v w (by simpa using h3) (by exact ⟨rfl, rfl, rfl, zab _, fun _ _ _ => rfl⟩) (.inl rfl), ⟨rfl, rfl, rfl, zab _, fun _ _ _ => rfl⟩, .inl rfl⟩
 · have hcells : ∀ j u, css'.flatten[j]? = some u -> w.cell? (ad.add j) = some u := by
    intro j u hu
    rcases zaJ ys.length with h0 | h0
    · have hc' : css' = [] := zat (by omega)
      subst hc'; simp at hu
    · obtain ⟨b, off, hA, _, _, hc⟩ := g3 h0
      injection hA with hA; subst hA
      have := hc j u hu
      have e : ((⟨b, off, none⟩ : Addr).add j) = ⟨b, off + j, none⟩ := by unfold Addr.add; split <;> simp_all
      rw [e]; exact this
   obtain ⟨v', w', hrun, o1, o2, _, o3⟩ := run_append_own_at (P := P) w base T ty E i z r.size bytes el.ht q1 q2 q3 q4 q5 el.pos v xs.length css.flatten h3 ad ys.length c css'.flatten
    (by rw [flat_len hl', g1]) hcells ho' h63 hbytes h4
   exact ⟨v', w', hrun, fin v' w' o1 o2 o3, o2, o3⟩
theorem wpList_own_append {α : Type} {P : Program} {r : Rep α} {T E : TypeId} {bytes base : Nat} {ops : Array Oper} {rest : List Oper} {o : Oper} {a : Act} {Q : Exit -> Act -> World -> Prop} {w : World} (hgd : o.guard = none) (s x : Operand)
  (ho : o.op = .call { callee := .builtin .append, args := #[s, x], argTypes := #[T, T] }) (el : Elt P T E r.size bytes) {v vx : Value} {xs ys : List α} {S : Nat -> Prop}
  (hown : OwR r E base w v xs) (hsrc : SlR r w S vx ys) (hs : a.eval s = v) (hx : a.eval x = vx) (hS : ∀ (cs : List Value) (y : α), r.holds w S cs y -> r.holds w (fun k => k < w.heap.size /\ v.ownBlock ≠ some k) cs y) (h63 : xs.length + ys.length <= maxLen) (hbytes : (xs.length + ys.length) * bytes <= 140737488355328)
  (h : ∀ v' w', OwR r E base w' v' (xs ++ ys) -> w.grownBy w' v.ownBlock -> (v'.ownBlock = v.ownBlock ∨ v'.ownBlock = some w.heap.size) -> wpList P ops Q rest (a.put o.dst v') w') : wpList P ops Q (o :: rest) a w :=
 wpList_plain hgd fun _ hK => by
  obtain ⟨v', w', hrun, h2, h3, h4⟩ := run_own_append (ty := o.type) el hown hsrc hS h63 hbytes
  unfold Oper.wp execOp
  simp only [ho, resolve, invoke, builtin, zbA, zbz, Result.andThen_ok, zbk, zaH, zbv, hs, hx, hrun]
  exact hK _ _ (h v' w' h2 h3 h4)
theorem SlR.one_new {α : Type} {r : Rep α} {w : World} {cs : List Value} {x : α} {E : TypeId} (hh : r.holds w (fun k => k < w.heap.size) cs x) :
  SlR r (w.alloc (.cells cs.toArray E)) (fun k => k < w.heap.size + 1) (.slice (some ⟨w.heap.size, 0, none⟩) 1 1) [x] := by
 refine ⟨some ⟨w.heap.size, 0, none⟩, 1, rfl, by simp, by decide, fun i y hy => ?_⟩
 match i, hy with
 | 0, hy =>
   simp at hy; subst hy
   refine ⟨w.heap.size, 0, cs, rfl, by show _ < _; omega, by simp, r.keep hh (fun k hk => zbj _ _ _ hk) (fun k hk => by show _ < _; omega), fun j u hu => ?_⟩
   rw [zae _ _ _ _ rfl]
   simpa using hu
 | i + 1, hy => simp at hy
theorem OwR.base_le {α : Type} {r : Rep α} {E base : Nat} {w : World} {v : Value} {xs : List α} (h : OwR r E base w v xs) : ∀ k, v.ownBlock = some k -> base <= k /\ k < w.heap.size := by
 obtain ⟨css, _, _, h3, _⟩ := h
 exact h3.lt
theorem OwR.kept {α : Type} {r : Rep α} {E base : Nat} {w w' : World} {v : Value} {xs : List α} {row : Option Nat} (h : OwR r E base w v xs) (hg : w.grownBy w' row) (hne : v.ownBlock = none ∨ v.ownBlock ≠ row)
  (hin : ∀ (cs : List Value) (y : α), r.holds w (fun k => k < w.heap.size /\ v.ownBlock ≠ some k) cs y -> r.holds w (fun k => (k < w.heap.size /\ v.ownBlock ≠ some k) /\ some k ≠ row) cs y := by exact fun _ _ h => h) : OwR r E base w' v xs := by
 obtain ⟨css, h1, h2, h3, h4⟩ := h
 exact ⟨css, h1, fun i cs x hc hx => r.keep (hin cs x (h2 i cs x hc hx)) (fun k hk => hg.block k hk.1.1 hk.2) (fun k hk => ⟨zan hk.1.1 hg.size, hk.1.2⟩), h3.kept hg hne, zaz h4 hg.size⟩
theorem OwR.below_grown {α : Type} {r : Rep α} {E base : Nat} {a w w' : World} {v : Value} {xs : List α} (h : OwR r E base w v xs) (hb : Below base a w) (hg : w.grownBy w' v.ownBlock) : Below base a w' :=
 hb.grown hg h.choose_spec.2.2.2 (fun k hk => (h.base_le k hk).1)
theorem flatten_one {α β : Type} (f : α -> β) : ∀ xs : List α, (xs.map fun x => [f x]).flatten = xs.map f
 | [] => rfl
 | a :: l => by simp [flatten_one f l]
theorem OwR.lit1 {α : Type} {r : Rep α} {E base : Nat} {w : World} {f : α -> Value} {xs : List α} (h1 : r.size = 1) (hh : ∀ x ∈ xs, ∀ S, r.holds (w.alloc (.cells (xs.map f).toArray E)) S [f x] x) (hb : base <= w.heap.size) (hn : xs.length <= maxLen) :
  OwR r E base (w.alloc (.cells (xs.map f).toArray E)) (.slice (some ⟨w.heap.size, 0, none⟩) xs.length xs.length) xs := by
 refine ⟨xs.map fun x => [f x], by simp, ?_, ?_, by simp; omega⟩
 · intro i cs x hc hx
   have : cs = [f x] := by simp [zbt, hx] at hc; exact hc.symm
   subst this
   exact hh x (List.mem_of_getElem? hx) _
 · rw [flatten_one, h1]
   exact ⟨by simp, .inr ⟨w.heap.size, xs.length, (xs.map f).toArray, rfl, hb, heap_alloc_new w _, zab _, hn, by simp, by simp [zaG]⟩⟩
theorem Sl.int {w : World} {b off c n : Nat} {xs : List Int} (h : Sl intR w (.slice (some ⟨b, off, none⟩) n c) xs) {k : Nat} (hk : k < xs.length) : w.cell? ⟨b, off + k, none⟩ = some (.int .i64 xs[k]) /\ inR xs[k] := by
 obtain ⟨cs, ⟨rfl, hw⟩, hc⟩ := h.cell hk
 refine ⟨?_, hw⟩
 have := hc 0 _ rfl
 simpa [intR, flatR] using this
theorem elt_int : Elt Tryz.prog 54 3 1 8 := ⟨Tryz.underlying54, by
 have h : (Tryz.prog.info? 3).map (fun i => (i.zero, i.size, i.bytes)) = some (some (.int .i64 0), 1, 8) := by kernel_rfl
 obtain ⟨i, h1, h2, h3, h4⟩ := info_parts h
 exact ⟨i, _, h1, h2, h3, h4, rfl⟩, by decide⟩
end Go.Proofs.YtojojpjldkpmoaaGreatDoor
