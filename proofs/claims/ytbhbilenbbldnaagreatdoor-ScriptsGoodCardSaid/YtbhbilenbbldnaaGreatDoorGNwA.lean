/-
  
-/
import Derived.Test.YtbhbilenbbldnaaGreatDoorGNtD
import Derived.Test.YtbhbilenbbldnaaGreatDoorGTaF
import Derived.Test.YtbhbilenbbldnaaGreatDoorGTaE
import Derived.Test.YtbhbilenbbldnaaGreatDoorGDoD
import Derived.Test.YtbhbilenbbldnaaGreatDoorGRow
import Derived.Test.YtbhbilenbbldnaaGreatDoorGDeD
import Derived.Test.YtbhbilenbbldnaaGreatDoorGApp
import Derived.Test.YtbhbilenbbldnaaGreatDoorGNtB
set_option linter.unusedVariables false
set_option linter.unusedSimpArgs false
namespace Go.Proofs.YtbhbilenbbldnaaGreatDoor
open Go
inductive Conn (C : Nat → Nat → Int) : Nat → Nat → Prop
 | refl (a : Nat) : Conn C a a
 | step {a b c : Nat} : Conn C a b → C b c ≠ 0 → Conn C a c
theorem Conn.trans {C : Nat → Nat → Int} {a b c : Nat} (h : Conn C a b) (g : Conn C b c) : Conn C a c := by
 induction g with
 | refl => exact h
 | step _ hc ih => exact .step ih hc
theorem Conn.symm {C : Nat → Nat → Int} (hs : ∀ a b, C a b = C b a) {a b : Nat} (h : Conn C a b) : Conn C b a := by
 induction h with
 | refl => exact .refl _
 | step _ hc ih => exact Conn.trans (.step (.refl _) (by rw [hs]; exact hc)) ih
def Rch (C : Nat → Nat → Int) (a : Nat) : Nat → Nat → Prop
 | 0, b => b = a
 | n + 1, b => Rch C a n b ∨ ∃ c, c < 5 ∧ Rch C a n c ∧ C c b ≠ 0
theorem Rch.up {C : Nat → Nat → Int} {a b n m : Nat} (h : Rch C a n b) (hm : n ≤ m) : Rch C a m b := by
 induction m with
 | zero => have : n = 0 := by omega
           subst this; exact h
 | succ m ih =>
   by_cases e : n = m + 1
   · subst e; exact h
   · exact .inl (ih (by omega))
open Classical in
structure Snt (x y : Net) : Prop where
 co : y.co = x.co
 dr : ∀ i, (y.nd i).dr = (x.nd i).dr
 pf : ∀ i, (y.nd i).pf = (x.nd i).pf
 tb : ∀ i, (y.nd i).tb = (x.nd i).tb
 le : ∀ i, i < 12 → LeS (x.nd i).st (y.nd i).st
 own : ∀ i, i < 12 → ∀ k, ownKey k i → findE (y.nd i).st k = findE (x.nd i).st k
 most : ∀ b, b < 12 → ∀ u, (∀ c, c < 12 → Conn x.co b c → LeS (x.nd c).st u) → LeS (y.nd b).st u
theorem Snt.refl {x : Net} (h : NetOk x) : Snt x x := ⟨rfl, fun _ => rfl, fun _ => rfl, fun _ => rfl, fun i hi => LeS.refl (h.nd i hi).st, fun _ _ _ _ => rfl, fun b hb _ hu => hu b hb (.refl b)⟩
theorem Snt.trans {x y z : Net} (h : Snt x y) (g : Snt y z) : Snt x z :=
 ⟨g.co.trans h.co, fun i => (g.dr i).trans (h.dr i), fun i => (g.pf i).trans (h.pf i), fun i => (g.tb i).trans (h.tb i), fun i hi => (h.le i hi).trans (g.le i hi),
  fun i hi k hk => (g.own i hi k hk).trans (h.own i hi k hk), fun b hb u hu => g.most b hb u (fun c hc hbc => h.most c hc u (fun d hd hcd => hu d hd (by rw [h.co] at hbc; exact hbc.trans hcd)))⟩
end Go.Proofs.YtbhbilenbbldnaaGreatDoor

namespace Go.Proofs.YtbhbilenbbldnaaGreatDoor
open Go
structure Same3 (x y : Net) : Prop where
 co : y.co = x.co
 dr : ∀ i, (y.nd i).dr = (x.nd i).dr
 pf : ∀ i, (y.nd i).pf = (x.nd i).pf
theorem Same3.trans {x y z : Net} (h : Same3 x y) (g : Same3 y z) : Same3 x z := ⟨g.co.trans h.co, fun i => (g.dr i).trans (h.dr i), fun i => (g.pf i).trans (h.pf i)⟩
theorem Same3.told {x y : Net} (h : Same3 x y) {a : Nat} {l : List Entry} (ht : Told x a l) : Told y a l := by
 have hA : tellA y a = tellA x a := by unfold tellA; rw [h.co, h.dr]
 have hP : tellP y a = tellP x a := by unfold tellP; rw [h.pf]
 unfold Told; rw [hA, hP]; exact ht
structure Stl (z : Net) (t : Nat) : Prop where
 kn : Kn z t
 five : ∀ a b, z.co a b ≠ 0 → b < 5
 told : ∀ a, a < 5 → Told z a (z.nd a).st
 same : ∀ a b, a < 5 → Conn z.co a b → (z.nd a).st = (z.nd b).st
 tb : ∀ a, a < 5 → (z.nd a).tb = tabTo (z.nd a).st a 12
theorem setN_id (x : Net) (a : Nat) (y : Nd) (h : y = x.nd a) : x.setN a y = x := by
 subst h
 unfold Net.setN
 have : (fun i => if i = a then x.nd a else x.nd i) = x.nd := by
  funext i
  by_cases e : i = a
  · subst e; rw [if_pos rfl]
  · rw [if_neg e]
 rw [this]
end Go.Proofs.YtbhbilenbbldnaaGreatDoor

namespace Go.Proofs.YtbhbilenbbldnaaGreatDoor
open Go
end Go.Proofs.YtbhbilenbbldnaaGreatDoor

namespace Go.Proofs.YtbhbilenbbldnaaGreatDoor
open Go
def far (r : Route) : Int := r.pre.bits * 2097152 - r.cost
theorem Stl.own {z : Net} {t : Nat} (h : Stl z t) {a : Nat} (ha : a < 5) : adjAt (z.nd a).st a = ((z.nd a).dr, sidesTo (z.co a) 12) ∧ prefsAt (z.nd a).st a = (z.nd a).pf := by
 obtain ⟨⟨e, h1, h2, h3⟩, ⟨f, g1, g2, g3⟩⟩ := h.told a ha
 have hc := sidesTo_chk (fun b => h.kn.ok.co a b)
 have hp := (h.kn.ok.nd a (by omega)).pf
 constructor
 · unfold adjAt
   rw [h1]
   simp only
   rw [h2]
   unfold tellA
   rw [bOf_list, adj_read hc]
 · unfold prefsAt
   rw [g1]
   simp only
   rw [g2]
   unfold tellP
   rw [bOf_list, prefs_read hp]
end Go.Proofs.YtbhbilenbbldnaaGreatDoor

namespace Go.Proofs.YtbhbilenbbldnaaGreatDoor
open Go
end Go.Proofs.YtbhbilenbbldnaaGreatDoor

namespace Go.Proofs.YtbhbilenbbldnaaGreatDoor
open Go Go.RowKit
def Zn (N : Nat) (X : Nat → Prop) (k : Nat) : Prop := N < k ∧ ¬ X k
def SlN {α : Type} (r : Rep α) (N : Nat) (X : Nat → Prop) (w : World) (v : Value) (xs : List α) : Prop := SlR r w (fun k => k < w.heap.size ∧ Zn N X k) v xs
theorem SlN.sl {α : Type} {r : Rep α} {N : Nat} {X : Nat → Prop} {w : World} {v : Value} {xs : List α} (h : SlN r N X w v xs) : Sl r w v xs := SlR.keep h (fun _ _ => rfl) (fun _ hk => hk.1)
theorem SlN.nil {α : Type} (r : Rep α) (N : Nat) (X : Nat → Prop) (w : World) : SlN r N X w (.slice none 0 0) [] := ⟨none, 0, rfl, Nat.le_refl _, Nat.zero_le _, fun i x h => by simp at h⟩
theorem SlN.below {α : Type} {r : Rep α} {N : Nat} {X : Nat → Prop} {w w' : World} {v : Value} {xs : List α} (h : SlN r N X w v xs) (hb : Below w.heap.size w w') : SlN r N X w' v xs := SlR.keep h (fun k hk => hb.block k hk.1) (fun k hk => ⟨Nat.lt_of_lt_of_le hk.1 hb.size, hk.2⟩)
theorem SlN.grownN {α : Type} {r : Rep α} {N : Nat} {X : Nat → Prop} {w w' : World} {v : Value} {l : List α} (h : SlN r N X w v l) (hg : w.grownBy w' (some N)) : SlN r N X w' v l :=
 SlR.keep h (fun k hk => hg.block k hk.1 (fun e => by injection e with e; have := hk.2.1; omega)) (fun k hk => ⟨Nat.lt_of_lt_of_le hk.1 hg.size, hk.2⟩)
theorem SlF.toN {α : Type} {r : Rep α} {b N : Nat} {X : Nat → Prop} {w : World} {v : Value} {xs : List α} (h : SlF r b w v xs) (h1 : N < b) (h2 : ∀ k, b ≤ k → ¬ X k) : SlN r N X w v xs := SlR.keep h (fun _ _ => rfl) (fun k hk => ⟨hk.1, by have := hk.2; omega, h2 k hk.2⟩)
structure NdM (X : Nat → Prop) (w : World) (N a : Nat) (y : Nd) : Prop where
 st : ∃ v, w.cell? ⟨N, a * 4, none⟩ = some v ∧ SlN entR N X w v y.st
 dr : w.cell? ⟨N, a * 4 + 1, none⟩ = some (.bool y.dr)
 pf : ∃ v, w.cell? ⟨N, a * 4 + 2, none⟩ = some v ∧ SlN prefR N X w v y.pf
 tb : ∃ v, w.cell? ⟨N, a * 4 + 3, none⟩ = some v ∧ SlN routeR N X w v y.tb
structure NetM (X : Nat → Prop) (w : World) (N : Nat) (x : Net) : Prop where
 top : ∀ k, w.heap.size ≤ k → ¬ X k
 nd : ∀ a, a < 12 → NdM X w N a (x.nd a)
 co : ∀ a b, a < 12 → b < 12 → w.cell? ⟨N, 48 + a * 12 + b, none⟩ = some (.int .i64 (x.co a b))
 fz : ∀ i, w.frozen? ⟨N, i, none⟩ = false
 lt : N < w.heap.size
theorem NdM.eq {X : Nat → Prop} {w w' : World} {N a : Nat} {y : Nd} (h : NdM X w N a y) (hc : ∀ j, j < 4 → w'.cell? ⟨N, a * 4 + j, none⟩ = w.cell? ⟨N, a * 4 + j, none⟩) (hk : ∀ k, k < w.heap.size → N < k → w'.heap[k]? = w.heap[k]?) (hs : w.heap.size ≤ w'.heap.size) : NdM X w' N a y := by
 have key : ∀ {α : Type} {r : Rep α} {v : Value} {l : List α}, SlN r N X w v l → SlN r N X w' v l := fun h =>
  SlR.keep h (fun k hk' => hk k hk'.1 hk'.2.1) (fun k hk' => ⟨Nat.lt_of_lt_of_le hk'.1 hs, hk'.2⟩)
 obtain ⟨v0, a0, b0⟩ := h.st
 obtain ⟨v2, a2, b2⟩ := h.pf
 obtain ⟨v3, a3, b3⟩ := h.tb
 exact ⟨⟨v0, (hc 0 (by decide)).trans a0, key b0⟩, (hc 1 (by decide)).trans h.dr, ⟨v2, (hc 2 (by decide)).trans a2, key b2⟩, ⟨v3, (hc 3 (by decide)).trans a3, key b3⟩⟩
theorem NetM.below {X : Nat → Prop} {w w' : World} {N : Nat} {x : Net} (h : NetM X w N x) (hb : Below w.heap.size w w') : NetM X w' N x :=
 ⟨fun k hk => h.top k (Nat.le_trans hb.size hk), fun a ha => (h.nd a ha).eq (fun j _ => hb.cell (p := ⟨N, a * 4 + j, none⟩) h.lt) (fun k hk _ => hb.block k hk) hb.size, fun a b ha hb' => (hb.cell (p := ⟨N, 48 + a * 12 + b, none⟩) h.lt).trans (h.co a b ha hb'), fun i => (hb.frozen (p := ⟨N, i, none⟩) h.lt).trans (h.fz i), Nat.lt_of_lt_of_le h.lt hb.size⟩
theorem net_other {w : World} {N o o' : Nat} {u : Value} (h : o' ≠ o) : (w.setCell ⟨N, o, none⟩ u).cell? ⟨N, o', none⟩ = w.cell? ⟨N, o', none⟩ :=
 World.cell?_setCell_other w _ _ u (fun e => by injection e with _ e2; exact h e2.symm)
theorem net_same {w : World} {N o : Nat} {u v : Value} (h : w.cell? ⟨N, o, none⟩ = some v) : (w.setCell ⟨N, o, none⟩ u).cell? ⟨N, o, none⟩ = some u := World.cell?_setCell_same w _ u h
theorem net_slF {α : Type} {r : Rep α} {X : Nat → Prop} {w : World} {N o : Nat} {u v : Value} {l : List α} (h : SlN r N X w v l) : SlN r N X (w.setCell ⟨N, o, none⟩ u) v l :=
 SlR.keep h (fun k hk => Below.heap_setCell _ _ _ _ (show k ≠ N by have := hk.2.1; omega)) (fun k hk => ⟨by simpa [World.setCell] using hk.1, hk.2⟩)
theorem NdM.other {X : Nat → Prop} {w : World} {N a o : Nat} {y : Nd} {u : Value} (h : NdM X w N a y) (ho : ∀ j, j < 4 → a * 4 + j ≠ o) : NdM X (w.setCell ⟨N, o, none⟩ u) N a y :=
 h.eq (fun j hj => net_other (ho j hj)) (fun k _ hk => Below.heap_setCell _ _ _ _ (show k ≠ N by omega)) (by simp [World.setCell])
theorem NetM.setNd {X : Nat → Prop} {w : World} {N : Nat} {x : Net} (h : NetM X w N x) {a j : Nat} (ha : a < 12) (hj : j < 4) {u : Value} {y : Nd} (hy : NdM X (w.setCell ⟨N, a * 4 + j, none⟩ u) N a y) : NetM X (w.setCell ⟨N, a * 4 + j, none⟩ u) N (x.setN a y) := by
 refine ⟨by simpa [World.setCell] using h.top, fun i hi => ?_, fun i k hi hk => ?_, fun i => ?_, by simpa [World.setCell] using h.lt⟩
 · by_cases e : i = a
   · subst e; rw [setN_same]; exact hy
   · rw [setN_other _ _ e]; exact (h.nd i hi).other (fun m hm => by omega)
 · rw [net_other (by omega)]; exact h.co i k hi hk
 · rw [World.frozen?_setCell]; exact h.fz i
theorem NetM.setSt {X : Nat → Prop} {w : World} {N : Nat} {x : Net} (h : NetM X w N x) {a : Nat} (ha : a < 12) {v : Value} {l : List Entry} (hv : SlN entR N X w v l) : NetM X (w.setCell ⟨N, a * 4, none⟩ v) N (x.setN a { x.nd a with st := l }) := by
 obtain ⟨v0, a0, _⟩ := (h.nd a ha).st
 obtain ⟨v2, a2, b2⟩ := (h.nd a ha).pf
 obtain ⟨v3, a3, b3⟩ := (h.nd a ha).tb
 exact h.setNd (j := 0) ha (by decide) ⟨⟨v, net_same a0, net_slF hv⟩, (net_other (by omega)).trans (h.nd a ha).dr, ⟨v2, (net_other (by omega)).trans a2, net_slF b2⟩, ⟨v3, (net_other (by omega)).trans a3, net_slF b3⟩⟩
theorem NetM.setDr {X : Nat → Prop} {w : World} {N : Nat} {x : Net} (h : NetM X w N x) {a : Nat} (ha : a < 12) (d : Bool) : NetM X (w.setCell ⟨N, a * 4 + 1, none⟩ (.bool d)) N (x.setN a { x.nd a with dr := d }) := by
 obtain ⟨v0, a0, b0⟩ := (h.nd a ha).st
 obtain ⟨v2, a2, b2⟩ := (h.nd a ha).pf
 obtain ⟨v3, a3, b3⟩ := (h.nd a ha).tb
 exact h.setNd (j := 1) ha (by decide) ⟨⟨v0, (net_other (by omega)).trans a0, net_slF b0⟩, net_same (h.nd a ha).dr, ⟨v2, (net_other (by omega)).trans a2, net_slF b2⟩, ⟨v3, (net_other (by omega)).trans a3, net_slF b3⟩⟩
theorem NetM.setPf {X : Nat → Prop} {w : World} {N : Nat} {x : Net} (h : NetM X w N x) {a : Nat} (ha : a < 12) {v : Value} {l : List Prefix} (hv : SlN prefR N X w v l) : NetM X (w.setCell ⟨N, a * 4 + 2, none⟩ v) N (x.setN a { x.nd a with pf := l }) := by
 obtain ⟨v0, a0, b0⟩ := (h.nd a ha).st
 obtain ⟨v2, a2, b2⟩ := (h.nd a ha).pf
 obtain ⟨v3, a3, b3⟩ := (h.nd a ha).tb
 exact h.setNd (j := 2) ha (by decide) ⟨⟨v0, (net_other (by omega)).trans a0, net_slF b0⟩, (net_other (by omega)).trans (h.nd a ha).dr, ⟨v, net_same a2, net_slF hv⟩, ⟨v3, (net_other (by omega)).trans a3, net_slF b3⟩⟩
theorem NetM.setTb {X : Nat → Prop} {w : World} {N : Nat} {x : Net} (h : NetM X w N x) {a : Nat} (ha : a < 12) {v : Value} {l : List Route} (hv : SlN routeR N X w v l) : NetM X (w.setCell ⟨N, a * 4 + 3, none⟩ v) N (x.setN a { x.nd a with tb := l }) := by
 obtain ⟨v0, a0, b0⟩ := (h.nd a ha).st
 obtain ⟨v2, a2, b2⟩ := (h.nd a ha).pf
 obtain ⟨v3, a3, b3⟩ := (h.nd a ha).tb
 exact h.setNd (j := 3) ha (by decide) ⟨⟨v0, (net_other (by omega)).trans a0, net_slF b0⟩, (net_other (by omega)).trans (h.nd a ha).dr, ⟨v2, (net_other (by omega)).trans a2, net_slF b2⟩, ⟨v, net_same a3, net_slF hv⟩⟩
theorem NetM.setCo {X : Nat → Prop} {w : World} {N : Nat} {x : Net} (h : NetM X w N x) {a b : Nat} (ha : a < 12) (hb : b < 12) (c : Int) : NetM X (w.setCell ⟨N, 48 + a * 12 + b, none⟩ (.int .i64 c)) N { x with co := updC x.co a b c } := by
 refine ⟨by simpa [World.setCell] using h.top, fun i hi => (h.nd i hi).other (fun m hm => by omega), fun i k hi hk => ?_, fun i => ?_, by simpa [World.setCell] using h.lt⟩
 · show _ = some (Value.int .i64 (updC x.co a b c i k))
   unfold updC
   by_cases e : i = a ∧ k = b
   · obtain ⟨rfl, rfl⟩ := e
     rw [if_pos ⟨rfl, rfl⟩]
     exact net_same (h.co i k hi hk)
   · rw [if_neg e, net_other (by omega)]
     exact h.co i k hi hk
 · rw [World.frozen?_setCell]; exact h.fz i
theorem grown_below {w w' : World} {N : Nat} (h : w.grownBy w' (some N)) (hN : N ≤ w.heap.size) : Below N w w' :=
 ⟨h.os, h.tape, h.output, h.size, fun k hk => h.block k (by omega) (fun e => by injection e with e; omega)⟩
theorem below_grownN {w w' : World} (N : Nat) (h : Below w.heap.size w w') : w.grownBy w' (some N) :=
 ⟨h.os, h.tape, h.output, h.size, fun k hk _ => h.block k hk⟩
theorem setCell_grown (w : World) (N o : Nat) (u : Value) : w.grownBy (w.setCell ⟨N, o, none⟩ u) (some N) :=
 ⟨rfl, rfl, rfl, by simp [World.setCell], fun k _ hne => Below.heap_setCell _ _ _ _ (fun e => hne (by first | exact congrArg some e.symm | exact congrArg some e))⟩
end Go.Proofs.YtbhbilenbbldnaaGreatDoor

namespace Go.Proofs.YtbhbilenbbldnaaGreatDoor
open Go Go.RowKit
def ActV.cells (c : ActV) : List Value := [.int .i64 c.kind, .int .i64 c.a, .int .i64 c.b, .int .i64 c.n, .int .i64 c.m, .int .i64 c.pre.addr, .int .i64 c.pre.bits, .string c.key, .string c.value]
structure ActV.wf (c : ActV) : Prop where
 kind : inR c.kind
 a : inR c.a
 b : inR c.b
 n : inR c.n
 m : inR c.m
 addr : inR c.pre.addr
 bits : inR c.pre.bits
 key : c.key.size ≤ maxLen
 value : c.value.size ≤ maxLen
def actR : Rep ActV := flatR 9 ActV.cells ActV.wf (fun _ => rfl) (fun x u h => by simp [ActV.cells] at h; rcases h with rfl | rfl | rfl | rfl | rfl | rfl | rfl | rfl | rfl <;> rfl)
theorem Sl.act {w : World} {b off c n : Nat} {xs : List ActV} (h : Sl actR w (.slice (some ⟨b, off, none⟩) n c) xs) {k : Nat} (hk : k < xs.length) :
  w.cell? ⟨b, off + k * 9, none⟩ = some (.int .i64 xs[k].kind) ∧ w.cell? ⟨b, off + k * 9 + 1, none⟩ = some (.int .i64 xs[k].a) ∧ w.cell? ⟨b, off + k * 9 + 2, none⟩ = some (.int .i64 xs[k].b) ∧
  w.cell? ⟨b, off + k * 9 + 3, none⟩ = some (.int .i64 xs[k].n) ∧ w.cell? ⟨b, off + k * 9 + 4, none⟩ = some (.int .i64 xs[k].m) ∧ w.cell? ⟨b, off + k * 9 + 5, none⟩ = some (.int .i64 xs[k].pre.addr) ∧
  w.cell? ⟨b, off + k * 9 + 6, none⟩ = some (.int .i64 xs[k].pre.bits) ∧ w.cell? ⟨b, off + k * 9 + 7, none⟩ = some (.string xs[k].key) ∧ w.cell? ⟨b, off + k * 9 + 8, none⟩ = some (.string xs[k].value) ∧ xs[k].wf := by
 obtain ⟨cs, ⟨rfl, hw⟩, hc⟩ := h.cell hk
 exact ⟨hc 0 _ rfl, hc 1 _ rfl, hc 2 _ rfl, hc 3 _ rfl, hc 4 _ rfl, hc 5 _ rfl, hc 6 _ rfl, hc 7 _ rfl, hc 8 _ rfl, hw⟩
def rplR : Rep Rpl :=
 { size := 4, holds := fun w S cs x => ∃ v u, cs = [.int .i64 x.code, v, .int .i64 x.cost, u] ∧ SlR intR w S v x.path ∧ SlR strR w S u x.keys
   len := fun ⟨v, u, h, _⟩ => by rw [h]; rfl
   one := fun ⟨v, u, h, ⟨A, c, hv, _⟩, ⟨B, d, hu, _⟩⟩ z hz => by
    rw [h, hv, hu] at hz
    simp at hz
    rcases hz with rfl | rfl | rfl | rfl <;> rfl
   keep := fun ⟨v, u, h1, h2, h3⟩ k1 k2 => ⟨v, u, h1, h2.keep k1 k2, h3.keep k1 k2⟩ }
theorem Sl.rpl {w : World} {b off c n : Nat} {xs : List Rpl} (h : Sl rplR w (.slice (some ⟨b, off, none⟩) n c) xs) {k : Nat} (hk : k < xs.length) :
  ∃ v u, w.cell? ⟨b, off + k * 4, none⟩ = some (.int .i64 xs[k].code) ∧ w.cell? ⟨b, off + k * 4 + 1, none⟩ = some v ∧ w.cell? ⟨b, off + k * 4 + 2, none⟩ = some (.int .i64 xs[k].cost) ∧ w.cell? ⟨b, off + k * 4 + 3, none⟩ = some u ∧
    Sl intR w v xs[k].path ∧ Sl strR w u xs[k].keys := by
 obtain ⟨cs, ⟨v, u, rfl, h1, h2⟩, hc⟩ := h.cell hk
 exact ⟨v, u, hc 0 _ rfl, hc 1 _ rfl, hc 2 _ rfl, hc 3 _ rfl, h1, h2⟩
end Go.Proofs.YtbhbilenbbldnaaGreatDoor

namespace Go.Proofs.YtbhbilenbbldnaaGreatDoor
open Go.RowKit Go.Deep
def SpAt (w : World) (g : Nat) (L : List UInt8) (s : RSt) : Prop :=
 ∃ A c i, g < w.heap.size ∧ w.cell? ⟨g, 0, none⟩ = some (.slice A L.length c) ∧ w.cell? ⟨g, 1, none⟩ = some (.int .i64 (i : Nat)) ∧ w.cell? ⟨g, 2, none⟩ = some (.int .i64 s.2) ∧ (∀ j, w.frozen? ⟨g, j, none⟩ = false) ∧
   SlR byteR w (fun k => k < w.heap.size ∧ k < g) (.slice A L.length c) L ∧ i ≤ L.length ∧ s.1 = L.drop i ∧ L.length ≤ 1000000
theorem SlR.cap {α : Type} {r : Rep α} {w : World} {S : Nat → Prop} {A : Option Addr} {n c : Nat} {xs : List α} (h : SlR r w S (.slice A n c) xs) : xs.length ≤ c ∧ c ≤ 9223372036854775807 := by
 obtain ⟨_, _, hv, h1, h2, _⟩ := h
 injection hv with _ _ e
 subst e
 exact ⟨h1, by unfold maxLen at h2; omega⟩
theorem set_row (w : World) (g i : Nat) (v : Value) : w.grownBy (w.setCell ⟨g, i, none⟩ v) (some g) := grown_set w ⟨g, i, none⟩ v
theorem SpAt.err {w : World} {g : Nat} {L : List UInt8} {s : RSt} (h : SpAt w g L s) (n : Int) : SpAt (w.setCell ⟨g, 2, none⟩ (.int .i64 n)) g L (s.1, n) ∧ w.grownBy (w.setCell ⟨g, 2, none⟩ (.int .i64 n)) (some g) := by
 have hg := set_row w g 2 (.int .i64 n)
 obtain ⟨A, c, i, h0, h1, h2, h3, h4, h5, h6⟩ := h
 refine ⟨⟨A, c, i, Nat.lt_of_lt_of_le h0 hg.size, ?_, ?_, World.cell?_setCell_same _ _ _ h3, fun j => by simp only [World.frozen?_setCell]; exact h4 j, h5.other hg, h6⟩, hg⟩
 · rw [World.cell?_setCell_other w ⟨g, 2, none⟩ ⟨g, 0, none⟩ _ (by simp)]; exact h1
 · rw [World.cell?_setCell_other w ⟨g, 2, none⟩ ⟨g, 1, none⟩ _ (by simp)]; exact h2
theorem SpAt.keep {w w' : World} {g : Nat} {L : List UInt8} {s : RSt} (h : SpAt w g L s) (hk : ∀ k, k ≤ g → w'.heap[k]? = w.heap[k]?) (hz : w.heap.size ≤ w'.heap.size) : SpAt w' g L s := by
 obtain ⟨A, c, i, h0, h1, h2, h3, h4, h5, h6⟩ := h
 have e := hk g (Nat.le_refl _)
 exact ⟨A, c, i, by omega, (World.cell?_of_block e).trans h1, (World.cell?_of_block e).trans h2, (World.cell?_of_block e).trans h3, fun j => (World.frozen?_of_block e).trans (h4 j), SlR.keep h5 (fun k hk' => hk k (by omega)) (fun k hk' => ⟨by omega, hk'.2⟩), h6⟩
theorem SpAt.lt {w : World} {g : Nat} {L : List UInt8} {s : RSt} (h : SpAt w g L s) : g < w.heap.size := by obtain ⟨_, _, _, h0, _⟩ := h; exact h0
theorem SpAt.drewN {w : World} {g : Nat} {L : List UInt8} {s : RSt} (h : SpAt w g L s) (n : Nat) : SpAt (w.drewN n) g L s := h.keep (fun _ _ => rfl) (Nat.le_refl _)
theorem SpAt.alloc {w : World} {g : Nat} {L : List UInt8} {s : RSt} (h : SpAt w g L s) (o : Obj) : SpAt (w.alloc o) g L s := h.keep (fun k hk => Below.heap_alloc _ _ _ (by have := h.lt; omega)) (by simp)
theorem SpAt.grown {w w' : World} {g : Nat} {L : List UInt8} {s : RSt} {row : Option Nat} (h : SpAt w g L s) (hg : w.grownBy w' row) (hr : ∀ k, row = some k → g < k) : SpAt w' g L s :=
 h.keep (fun k hk => hg.block k (by have := h.lt; omega) (fun e => by have := hr k e.symm; omega)) hg.size
end Go.Proofs.YtbhbilenbbldnaaGreatDoor

namespace Go.Proofs.YtbhbilenbbldnaaGreatDoor
open Go Go.RowKit Go.Deep
def zR {α : Type} (r : Rep α) (Z : Nat) : Rep α :=
 { size := r.size, holds := fun w S cs x => r.holds w (fun k => S k ∧ Z ≤ k) cs x
   len := fun h => r.len h
   one := fun h => r.one h
   keep := fun h k1 k2 => r.keep h (fun k hk => k1 k hk.1) (fun k hk => ⟨k2 k hk.1, hk.2⟩) }
theorem Sl.unzR {α : Type} {r : Rep α} {Z : Nat} {w : World} {v : Value} {xs : List α} (h : Sl (zR r Z) w v xs) : Sl r w v xs := by
 obtain ⟨A, c, rfl, h1, h2, h3⟩ := h
 refine ⟨A, c, rfl, h1, h2, fun i x hx => ?_⟩
 obtain ⟨b, off, cs, hA, hS, hb, hh, hc⟩ := h3 i x hx
 exact ⟨b, off, cs, hA, hS, hb, r.keep hh (fun _ _ => rfl) (fun _ hk => hk.1), hc⟩
theorem OwR.keptZ {α : Type} {r : Rep α} {E base N : Nat} {w w' : World} {v : Value} {xs : List α} (h : OwR (zR r (N + 1)) E base w v xs) (hg : w.grownBy w' (some N)) (hb : N < base) : OwR (zR r (N + 1)) E base w' v xs := by
 have hne : v.ownBlock ≠ some N := fun e => by have := (h.base_le _ e).1; omega
 obtain ⟨css, h1, h2, h3, h4⟩ := h
 refine ⟨css, h1, fun i cs x hc hx => r.keep (h2 i cs x hc hx) (fun k hk => hg.block k hk.1.1 (fun e => by injection e with e; have := hk.2; omega)) (fun k hk => ⟨⟨Nat.lt_of_lt_of_le hk.1.1 hg.size, hk.1.2⟩, hk.2⟩), ?_, Nat.le_trans h4 hg.size⟩
 exact h3.kept hg (.inr hne)
theorem wpList_oneR {α : Type} {r : Rep α} {T E : TypeId} {bytes : Nat} (el : Elt Tryz.prog T E r.size bytes) {ops : Array Oper} {rest : List Oper} {o : Oper} {a : Act} {Q : Exit → Act → World → Prop} {w : World} {base : Nat} (hgd : o.guard = none) (s x : Operand)
  (ho : o.op = .call { callee := .builtin .append, args := #[s, x], argTypes := #[T, T] }) {v : Value} {xs : List α} {y : α} {cs : List Value} {S : Nat → Prop}
  (hown : OwR r E base w v xs) (hh : r.holds w S cs y) (hS : ∀ k, S k → k < w.heap.size ∧ v.ownBlock ≠ some k) (hs : a.eval s = v)
  {B : Nat} (hx : a.eval x = .slice (some ⟨B, 0, none⟩) 1 1) (hB : B = w.heap.size) (hb : xs.length ≤ 1000000) (hby : bytes ≤ 1000)
  (h : ∀ v' w', OwR r E base w' v' (xs ++ [y]) → GrowTo (w.alloc (.cells cs.toArray E)) v w' v' → wpList Tryz.prog ops Q rest (a.put o.dst v') w') :
  wpList Tryz.prog ops Q (o :: rest) a (w.alloc (.cells cs.toArray E)) :=
 wpList_plain hgd fun _ hK => by
  subst hB
  have hone : SlR r (w.alloc (.cells cs.toArray E)) (fun k => S k ∨ k = w.heap.size) (.slice (some ⟨w.heap.size, 0, none⟩) 1 1) [y] := by
   refine ⟨some ⟨w.heap.size, 0, none⟩, 1, rfl, by simp, by decide, fun i z hz => ?_⟩
   match i, hz with
   | 0, hz =>
     simp at hz; subst hz
     refine ⟨w.heap.size, 0, cs, by simp, .inr rfl, by simp, r.keep hh (fun k hk => Below.heap_alloc _ _ _ (hS k hk).1) (fun k hk => .inl hk), fun j u hu => ?_⟩
     rw [World.cell?_alloc_at _ _ _ _ rfl]
     simpa using hu
   | i + 1, hz => simp at hz
  obtain ⟨v', w', hrun, r2, r3, r4⟩ := run_own_append (ty := o.type) el (ow_alloc hown _) hone (fun cs y hy => r.keep hy (fun _ _ => rfl) (fun k hk => by
   rcases hk with hk | hk
   · have := hS k hk; exact ⟨by simp; omega, this.2⟩
   · subst hk; exact ⟨by simp, fun e => by have := (hown.base_le _ e).2; omega⟩)) (by unfold maxLen; simp; omega) (by
     have h9 : (xs.length + [y].length) * bytes ≤ 1000001 * 1000 := Nat.mul_le_mul (by simp; omega) hby
     have : (1000001 : Nat) * 1000 = 1000001000 := rfl
     omega)
  unfold Oper.wp execOp
  simp only [ho, resolve, invoke, builtin, Sem.run_bind, Sem.run_pure, Result.andThen_ok, List.map_toArray, List.map_cons, List.map_nil, hs, hx, hrun]
  exact hK _ _ (h v' w' r2 (GrowTo.of_at r3 r4))
theorem elt_of {P : Program} {T E : TypeId} {size bytes : Nat} (ht : P.underlying T = some (.slice E)) (h : (P.info? E).map (fun i => (i.zero.map (fun z => z.cells.size), i.size, i.bytes)) = some (some size, size, bytes)) (hp : 0 < size) : Elt P T E size bytes := by
 refine ⟨ht, ?_, hp⟩
 rcases hi : P.info? E with _ | i
 · rw [hi] at h; cases h
 · rw [hi] at h
   simp only [Option.map_some, Option.some.injEq, Prod.mk.injEq] at h
   obtain ⟨h1, h2, h3⟩ := h
   rcases hz : i.zero with _ | z
   · rw [hz] at h1; cases h1
   · rw [hz] at h1
     exact ⟨i, z, rfl, hz, h2, h3, by simpa using h1⟩
theorem elt_actA : Elt Tryz.prog 23 34 9 88 := elt_of Tryz.underlying23 (by kernel_rfl) (by decide)
theorem elt_rpl : Elt Tryz.prog 25 44 4 64 := ⟨Tryz.underlying25, by
 have h : (Tryz.prog.info? 44).map (fun i => (i.zero, i.size, i.bytes)) = some (some (.agg #[.int .i64 0, .slice none 0 0, .int .i64 0, .slice none 0 0]), 4, 64) := by kernel_rfl
 obtain ⟨i, h1, h2, h3, h4⟩ := info_parts h
 exact ⟨i, _, h1, h2, h3, h4, rfl⟩, by decide⟩
theorem elt_store : Elt Tryz.prog 26 37 1 24 := ⟨Tryz.underlying26, by
 have h : (Tryz.prog.info? 37).map (fun i => (i.zero, i.size, i.bytes)) = some (some (.slice none 0 0), 1, 24) := by kernel_rfl
 obtain ⟨i, h1, h2, h3, h4⟩ := info_parts h
 exact ⟨i, _, h1, h2, h3, h4, rfl⟩, by decide⟩
end Go.Proofs.YtbhbilenbbldnaaGreatDoor

namespace Go.Proofs.YtbhbilenbbldnaaGreatDoor
open Go Go.RowKit Go.Deep
def NPost (X : Nat → Prop) (N : Nat) (x : Net) (r : Ending) (w : World) (e : Ending) (w' : World) : Prop := e = r ∧ NetM X w' N x ∧ w.grownBy w' (some N)
set_option maxHeartbeats 400000 in
theorem nis_any (n : Int) (w : World) {b : Bool} (hb : isN n = b) : Calls Tryz.prog 64 #[.int .i64 n] w fun e w' => e = .returned (.bool b) ∧ w = w' := by
 subst hb
 by_cases h0 : 0 ≤ n
 · by_cases h1 : n < 12
   · have he : isN n = true := (isN_iff n).2 ⟨h0, h1⟩
     have HE := Go.Lib.hid he
     clear he
     go_enter Tryz.func64, Tryz.ntmps64
     go_wp2_with fail
     go_ret
     exact ⟨eb HE.out.symm, rfl⟩
   · have he : isN n = false := by rw [Bool.eq_false_iff]; intro h; exact h1 ((isN_iff n).1 h).2
     have HE := Go.Lib.hid he
     clear he
     go_enter Tryz.func64, Tryz.ntmps64
     go_wp2_with fail
     go_ret
     exact ⟨eb HE.out.symm, rfl⟩
 · have he : isN n = false := by rw [Bool.eq_false_iff]; intro h; exact h0 ((isN_iff n).1 h).1
   have HE := Go.Lib.hid he
   clear he
   go_enter Tryz.func64, Tryz.ntmps64
   go_wp2_with fail
   go_ret
   exact ⟨eb HE.out.symm, rfl⟩
set_option maxRecDepth 50000 in
set_option maxHeartbeats 2000000 in
theorem nlink_any {X : Nat → Prop} (N a : Nat) (b c : Int) (x : Net) (w : World) (h : NetM X w N x) (ha : a < 12) :
  Calls Tryz.prog 65 #[.pointer (some ⟨N, 0, none⟩), .int .i64 (a : Nat), .int .i64 b, .int .i64 c] w (NPost X N (linkS x a b c).1 (.returned (.int .i64 (linkS x a b c).2)) w) := by
 have HM := Go.Lib.hid h
 have ha0 : (0 : Int) ≤ (a : Int) := Int.natCast_nonneg a
 have ha1 : (a : Int) < 12 := by omega
 cases hb : isN b with
 | false =>
   have HL := Go.Lib.hid (show linkS x a b c = (x, 2) by unfold linkS; rw [if_pos (.inl hb)])
   have HI := Go.Lib.hid (nis_any b w hb)
   clear h hb
   go_enter Tryz.func65, Tryz.ntmps65
   go_wp2_with (go_at_call 64; refine HI.out.mono ?_; rintro e w' ⟨rfl, rfl⟩)
   go_ret
   exact ⟨by rw [HL.out]; rfl, by rw [HL.out]; exact HM.out, World.grownBy.refl _ _⟩
 | true =>
   have HI := Go.Lib.hid (nis_any b w hb)
   have HBT := Go.Lib.hid hb
   obtain ⟨hb0, hb1⟩ := (isN_iff b).1 hb
   by_cases h0 : c < 0
   · have HL := Go.Lib.hid (show linkS x a b c = (x, 2) by unfold linkS; rw [if_pos (.inr (.inl h0))])
     clear h hb
     go_enter Tryz.func65, Tryz.ntmps65
     go_wp2_with (go_at_call 64; refine HI.out.mono ?_; rintro e w' ⟨rfl, rfl⟩)
     go_ret
     exact ⟨by rw [HL.out]; rfl, by rw [HL.out]; exact HM.out, World.grownBy.refl _ _⟩
   · by_cases h1 : 1000 < c
     · have HL := Go.Lib.hid (show linkS x a b c = (x, 2) by unfold linkS; rw [if_pos (.inr (.inr h1))])
       clear h hb
       go_enter Tryz.func65, Tryz.ntmps65
       go_wp2_with (go_at_call 64; refine HI.out.mono ?_; rintro e w' ⟨rfl, rfl⟩)
       go_ret
       exact ⟨by rw [HL.out]; rfl, by rw [HL.out]; exact HM.out, World.grownBy.refl _ _⟩
     · obtain ⟨k, rfl⟩ : ∃ k : Nat, b = k := ⟨b.toNat, by omega⟩
       have hk : k < 12 := by omega
       have hn : ¬ (isN (k : Int) = false ∨ c < 0 ∨ 1000 < c) := by rw [HBT.out]; simp; omega
       have HN := Go.Lib.hid hn
       by_cases he : a = k
       · have HL := Go.Lib.hid (show linkS x a k c = (x, 4) by unfold linkS; rw [if_neg hn, if_pos (by omega)])
         have heb : ((a : Int) == (k : Int)) = true := by rw [beq_iff_eq]; omega
         clear h hb hn he
         go_enter Tryz.func65, Tryz.ntmps65
         go_wp2_with (go_at_call 64; refine HI.out.mono ?_; rintro e w' ⟨rfl, rfl⟩)
         go_ret
         exact ⟨by rw [HL.out]; rfl, by rw [HL.out]; exact HM.out, World.grownBy.refl _ _⟩
       · have heb : ((a : Int) == (k : Int)) = false := by rw [beq_eq_false_iff_ne]; omega
         have f1 := h.co a k ha hk
         have f2 := h.co k a hk ha
         have z1 := h.fz (48 + a * 12 + k)
         have z2 := h.fz (48 + k * 12 + a)
         by_cases hc : c = 0 ∧ x.co a k = 0
         · obtain ⟨hc0, hc1⟩ := hc
           have HL := Go.Lib.hid (show linkS x a k c = (x, 6) by unfold linkS; rw [if_neg hn, if_neg (by omega), if_pos ⟨hc0, hc1⟩])
           rw [hc1] at f1
           subst hc0
           clear h hb hn he f2 z1 z2
           go_enter Tryz.func65, Tryz.ntmps65
           go_wp2_with (go_at_call 64; refine HI.out.mono ?_; rintro e w' ⟨rfl, rfl⟩)
           go_ret
           exact ⟨by rw [HL.out]; rfl, by rw [HL.out]; exact HM.out, World.grownBy.refl _ _⟩
         · have HL := Go.Lib.hid (show linkS x a k c = ({ x with co := updC (updC x.co a k c) k a c }, 0) by
            unfold linkS; rw [if_neg hn, if_neg (by omega)]; exact if_neg (by simpa using hc))
           have HS := Go.Lib.hid ((h.setCo ha hk c).setCo hk ha c)
           have HG := Go.Lib.hid ((setCell_grown w N (48 + a * 12 + k) (.int .i64 c)).trans (setCell_grown (w.setCell ⟨N, 48 + a * 12 + k, none⟩ (.int .i64 c)) N (48 + k * 12 + a) (.int .i64 c)))
           have hne : ¬ (48 + a * 12 + k = 48 + k * 12 + a) := by omega
           have hne2 : ¬ (48 + k * 12 + a = 48 + a * 12 + k) := by omega
           obtain ⟨y, hy⟩ : ∃ y, x.co a k = y := ⟨_, rfl⟩
           rw [hy] at f1 hc
           have hcd : (c = 0 ∧ ¬ y = 0) ∨ ¬ c = 0 := by omega
           clear h hb hn he hy hc
           rcases hcd with ⟨hc0, hy0⟩ | hc0
           · subst hc0
             have hyb : (y == 0) = false := by rw [beq_eq_false_iff_ne]; exact hy0
             go_enter Tryz.func65, Tryz.ntmps65
             go_wp2_with (go_at_call 64; refine HI.out.mono ?_; rintro e w' ⟨rfl, rfl⟩)
             go_region_with (fail)
             all_goals
              go_wp2_with fail
              go_ret
              exact ⟨by rw [HL.out]; rfl, by rw [HL.out]; exact HS.out.below (Below.refl _ _).drew, HG.out.trans (below_grownN N (Below.refl _ _).drew)⟩
           · have hcb : (c == 0) = false := by rw [beq_eq_false_iff_ne]; exact hc0
             go_enter Tryz.func65, Tryz.ntmps65
             go_wp2_with (go_at_call 64; refine HI.out.mono ?_; rintro e w' ⟨rfl, rfl⟩)
             go_region_with (fail)
             all_goals
              go_wp2_with fail
              go_ret
              exact ⟨by rw [HL.out]; rfl, by rw [HL.out]; exact HS.out.below (Below.refl _ _).drew, HG.out.trans (below_grownN N (Below.refl _ _).drew)⟩
end Go.Proofs.YtbhbilenbbldnaaGreatDoor
