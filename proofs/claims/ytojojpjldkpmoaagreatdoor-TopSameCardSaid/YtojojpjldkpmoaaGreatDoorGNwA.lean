/-
  
-/
import Derived.Test.YtojojpjldkpmoaaGreatDoorGPaA
import Derived.Test.YtojojpjldkpmoaaGreatDoorGNtF
import Derived.Test.YtojojpjldkpmoaaGreatDoorGTaE
import Derived.Test.YtojojpjldkpmoaaGreatDoorGDoD
import Derived.Test.YtojojpjldkpmoaaGreatDoorGRow
import Derived.Test.YtojojpjldkpmoaaGreatDoorGDeD
import Derived.Test.YtojojpjldkpmoaaGreatDoorGNtB
set_option linter.unusedVariables false
set_option linter.unusedSimpArgs false
set_option maxHeartbeats 16000000
namespace Go.Proofs.YtojojpjldkpmoaaGreatDoor
section
open Go
end
section
open Go
def far (r : Route) : Int := r.pre.bits * 2097152 - r.cost
theorem Stl.own {z : Net} {t : Nat} (h : Stl z t) {a : Nat} (ha : a < 5) : adjAt (z.nd a).st a = ((z.nd a).dr, sidesTo (z.co a) 12) /\ prefsAt (z.nd a).st a = (z.nd a).pf := by
 obtain ⟨⟨e, h1, h2, h3⟩, ⟨f, g1, g2, g3⟩⟩ := h.told a ha
 have hc := sidesTo_chk (fun b => h.kn.ok.co a b)
 have hp := (h.kn.ok.nd a (by omega)).pf
 constructor
 · unfold adjAt
   rw [h1]
   simp only
   rw [h2]
   unfold tellA
   rw [bOf_list, adj_read hc]
 · unfold prefsAt
   rw [g1]
   simp only
   rw [g2]
   unfold tellP
   rw [bOf_list, prefs_read hp]
def lineS (C : Nat -> Nat -> Int) (c : ActV) (code : Int) : Nat -> Nat -> Int :=
 if code ≠ 0 then C else
 if c.kind = 1 then updC (updC C c.a.toNat c.b.toNat c.n) c.b.toNat c.a.toNat c.n else
 if c.kind = 2 then updC (updC C c.a.toNat c.b.toNat 0) c.b.toNat c.a.toNat 0 else C
def linesS : (Nat -> Nat -> Int) -> List ActV -> List Rpl -> Nat -> Nat -> Int
 | C, c :: l, r :: rs => linesS (lineS C c r.code) l rs
 | C, _, _ => C
theorem lineS_bad {C : Nat -> Nat -> Int} {c : ActV} {code : Int} (h : code ≠ 0) : lineS C c code = C := by unfold lineS; rw [if_pos h]
theorem lineS_else {C : Nat -> Nat -> Int} {c : ActV} {code : Int} (h1 : c.kind ≠ 1) (h2 : c.kind ≠ 2) : lineS C c code = C := by
 unfold lineS
 rw [if_neg h1, if_neg h2]
 split <;> rfl
theorem link_co (x : Net) (a : Nat) (b c : Int) : (linkS x a b c).1.co = if (linkS x a b c).2 ≠ 0 then x.co else updC (updC x.co a b.toNat c) b.toNat a c := by
 unfold linkS
 split
 · rfl
 · split
   · rfl
   · split
     · rfl
     · rfl
theorem give_co (x : Net) (a : Nat) (p : Prefix) : (giveS x a p).1.co = x.co := by
 unfold giveS
 split
 · rfl
 · split <;> rfl
theorem take_co (x : Net) (a : Nat) (p : Prefix) : (takeS x a p).1.co = x.co := by
 unfold takeS
 split <;> rfl
theorem tell_co (x : Net) (a : Nat) : (tellS x a).1.co = x.co := by
 unfold tellS
 split
 · rfl
 · split <;> rfl
theorem send_co (x : Net) (a : Nat) (b n : Int) : (sendS x a b n).1.co = x.co := by
 unfold sendS
 split
 · rfl
 · split
   · rfl
   · split <;> rfl
theorem write_co (x : Net) (a : Nat) (k v : ByteArray) : (writeS x a k v).1.co = x.co := by
 unfold writeS
 split <;> rfl
theorem act_line (x : Net) (c : ActV) : (actS x c).1.co = lineS x.co c (actS x c).2.code := by
 rcases act_cases x c with h | h | ⟨a, k, ha, ha2, hk, h1, h2, h⟩
 · rw [h]; exact (lineS_bad (by show (3 : Int) ≠ 0; decide)).symm
 · rw [h]; exact (lineS_bad (by show (2 : Int) ≠ 0; decide)).symm
 · rw [h]
   have hat : c.a.toNat = a := by omega
   rcases k_cases h1 h2 with rfl | rfl | rfl | rfl | rfl | rfl | rfl | rfl | rfl | rfl
   · rw [actK_1]
     split
     · show (linkS x a c.b c.n).1.co = lineS x.co c (linkS x a c.b c.n).2
       rw [link_co]
       unfold lineS
       rw [if_pos (show c.kind = 1 from hk), hat]
     · exact (lineS_bad (by show (2 : Int) ≠ 0; decide)).symm
   · show (linkS x a c.b 0).1.co = lineS x.co c (linkS x a c.b 0).2
     rw [link_co]
     unfold lineS
     rw [if_neg (show ¬ c.kind = 1 by omega), if_pos (show c.kind = 2 from hk), hat]
   all_goals rw [lineS_else (by omega) (by omega)]
   · rw [actK_3]
     split <;> rfl
   · exact give_co x a c.pre
   · exact take_co x a c.pre
   · exact tell_co x a
   · exact send_co x a c.b c.n
   · exact write_co x a c.key c.value
   · rfl
   · rfl
theorem run_lines : ∀ (l : List ActV) (x : Net), linesS x.co l (runS x l).2 = (runS x l).1.co
 | [], _ => rfl
 | c :: l, x => by
   show linesS (lineS x.co c (actS x c).2.code) l (runS (actS x c).1 l).2 = (runS (actS x c).1 l).1.co
   rw [<- act_line]
   exact run_lines l (actS x c).1
end
section
open Go Go.RowKit
def Zn (N : Nat) (X : Nat -> Prop) (k : Nat) : Prop := N < k /\ ¬ X k
def SlN {α : Type} (r : Rep α) (N : Nat) (X : Nat -> Prop) (w : World) (v : Value) (xs : List α) : Prop := SlR r w (fun k => k < w.heap.size /\ Zn N X k) v xs
theorem SlN.sl {α : Type} {r : Rep α} {N : Nat} {X : Nat -> Prop} {w : World} {v : Value} {xs : List α} (h : SlN r N X w v xs) : Sl r w v xs := SlR.keep h (fun _ _ => rfl) (fun _ hk => hk.1)
theorem SlN.nil {α : Type} (r : Rep α) (N : Nat) (X : Nat -> Prop) (w : World) : SlN r N X w (.slice none 0 0) [] := ⟨none, 0, rfl, zab _, zak _, fun i x h => by simp at h⟩
theorem SlN.below {α : Type} {r : Rep α} {N : Nat} {X : Nat -> Prop} {w w' : World} {v : Value} {xs : List α} (h : SlN r N X w v xs) (hb : Below w.heap.size w w') : SlN r N X w' v xs := SlR.keep h (fun k hk => hb.block k hk.1) (fun k hk => ⟨zan hk.1 hb.size, hk.2⟩)
theorem SlN.grownN {α : Type} {r : Rep α} {N : Nat} {X : Nat -> Prop} {w w' : World} {v : Value} {l : List α} (h : SlN r N X w v l) (hg : w.grownBy w' (some N)) : SlN r N X w' v l :=
 SlR.keep h (fun k hk => hg.block k hk.1 (fun e => by injection e with e; have := hk.2.1; omega)) (fun k hk => ⟨zan hk.1 hg.size, hk.2⟩)
theorem SlF.toN {α : Type} {r : Rep α} {b N : Nat} {X : Nat -> Prop} {w : World} {v : Value} {xs : List α} (h : SlF r b w v xs) (h1 : N < b) (h2 : ∀ k, b <= k -> ¬ X k) : SlN r N X w v xs := SlR.keep h (fun _ _ => rfl) (fun k hk => ⟨hk.1, by have := hk.2; omega, h2 k hk.2⟩)
structure NdM (X : Nat -> Prop) (w : World) (N a : Nat) (y : Nd) : Prop where
 st : ∃ v, w.cell? ⟨N, a * 4, none⟩ = some v /\ SlN entR N X w v y.st
 dr : w.cell? ⟨N, a * 4 + 1, none⟩ = some (.bool y.dr)
 pf : ∃ v, w.cell? ⟨N, a * 4 + 2, none⟩ = some v /\ SlN prefR N X w v y.pf
 tb : ∃ v, w.cell? ⟨N, a * 4 + 3, none⟩ = some v /\ SlN routeR N X w v y.tb
structure NetM (X : Nat -> Prop) (w : World) (N : Nat) (x : Net) : Prop where
 top : ∀ k, w.heap.size <= k -> ¬ X k
 nd : ∀ a, a < 12 -> NdM X w N a (x.nd a)
 co : ∀ a b, a < 12 -> b < 12 -> w.cell? ⟨N, 48 + a * 12 + b, none⟩ = some (.int .i64 (x.co a b))
 fz : ∀ i, w.frozen? ⟨N, i, none⟩ = false
 lt : N < w.heap.size
theorem NdM.eq {X : Nat -> Prop} {w w' : World} {N a : Nat} {y : Nd} (h : NdM X w N a y) (hc : ∀ j, j < 4 -> w'.cell? ⟨N, a * 4 + j, none⟩ = w.cell? ⟨N, a * 4 + j, none⟩) (hk : ∀ k, k < w.heap.size -> N < k -> w'.heap[k]? = w.heap[k]?) (hs : w.heap.size <= w'.heap.size) : NdM X w' N a y := by
 have key : ∀ {α : Type} {r : Rep α} {v : Value} {l : List α}, SlN r N X w v l -> SlN r N X w' v l := fun h =>
  SlR.keep h (fun k hk' => hk k hk'.1 hk'.2.1) (fun k hk' => ⟨zan hk'.1 hs, hk'.2⟩)
 obtain ⟨v0, a0, b0⟩ := h.st
 obtain ⟨v2, a2, b2⟩ := h.pf
 obtain ⟨v3, a3, b3⟩ := h.tb
 exact ⟨⟨v0, (hc 0 (by decide)).trans a0, key b0⟩, (hc 1 (by decide)).trans h.dr, ⟨v2, (hc 2 (by decide)).trans a2, key b2⟩, ⟨v3, (hc 3 (by decide)).trans a3, key b3⟩⟩
theorem NetM.below {X : Nat -> Prop} {w w' : World} {N : Nat} {x : Net} (h : NetM X w N x) (hb : Below w.heap.size w w') : NetM X w' N x :=
 ⟨fun k hk => h.top k (zaz hb.size hk), fun a ha => (h.nd a ha).eq (fun j _ => hb.cell (p := ⟨N, a * 4 + j, none⟩) h.lt) (fun k hk _ => hb.block k hk) hb.size, fun a b ha hb' => (hb.cell (p := ⟨N, 48 + a * 12 + b, none⟩) h.lt).trans (h.co a b ha hb'), fun i => (hb.frozen (p := ⟨N, i, none⟩) h.lt).trans (h.fz i), zan h.lt hb.size⟩
theorem net_other {w : World} {N o o' : Nat} {u : Value} (h : o' ≠ o) : (w.setCell ⟨N, o, none⟩ u).cell? ⟨N, o', none⟩ = w.cell? ⟨N, o', none⟩ :=
 zag w _ _ u (fun e => by injection e with _ e2; exact h e2.symm)
theorem net_same {w : World} {N o : Nat} {u v : Value} (h : w.cell? ⟨N, o, none⟩ = some v) : (w.setCell ⟨N, o, none⟩ u).cell? ⟨N, o, none⟩ = some u := World.cell?_setCell_same w _ u h
theorem net_slF {α : Type} {r : Rep α} {X : Nat -> Prop} {w : World} {N o : Nat} {u v : Value} {l : List α} (h : SlN r N X w v l) : SlN r N X (w.setCell ⟨N, o, none⟩ u) v l :=
 SlR.keep h (fun k hk => zai _ _ _ _ (show k ≠ N by have := hk.2.1; omega)) (fun k hk => ⟨by simpa [World.setCell] using hk.1, hk.2⟩)
theorem NdM.other {X : Nat -> Prop} {w : World} {N a o : Nat} {y : Nd} {u : Value} (h : NdM X w N a y) (ho : ∀ j, j < 4 -> a * 4 + j ≠ o) : NdM X (w.setCell ⟨N, o, none⟩ u) N a y :=
 h.eq (fun j hj => net_other (ho j hj)) (fun k _ hk => zai _ _ _ _ (show k ≠ N by omega)) (by simp [World.setCell])
theorem NetM.setNd {X : Nat -> Prop} {w : World} {N : Nat} {x : Net} (h : NetM X w N x) {a j : Nat} (ha : a < 12) (hj : j < 4) {u : Value} {y : Nd} (hy : NdM X (w.setCell ⟨N, a * 4 + j, none⟩ u) N a y) : NetM X (w.setCell ⟨N, a * 4 + j, none⟩ u) N (x.setN a y) := by
 refine ⟨by simpa [World.setCell] using h.top, fun i hi => ?_, fun i k hi hk => ?_, fun i => ?_, by simpa [World.setCell] using h.lt⟩
 · by_cases e : i = a
   · subst e; rw [setN_same]; exact hy
   · rw [setN_other _ _ e]; exact (h.nd i hi).other (fun m hm => by omega)
 · rw [net_other (by omega)]; exact h.co i k hi hk
 · rw [zau]; exact h.fz i
theorem NetM.setSt {X : Nat -> Prop} {w : World} {N : Nat} {x : Net} (h : NetM X w N x) {a : Nat} (ha : a < 12) {v : Value} {l : List Entry} (hv : SlN entR N X w v l) : NetM X (w.setCell ⟨N, a * 4, none⟩ v) N (x.setN a { x.nd a with st := l }) := by
 obtain ⟨v0, a0, _⟩ := (h.nd a ha).st
 obtain ⟨v2, a2, b2⟩ := (h.nd a ha).pf
 obtain ⟨v3, a3, b3⟩ := (h.nd a ha).tb
 exact h.setNd (j := 0) ha (by decide) ⟨⟨v, net_same a0, net_slF hv⟩, (net_other (by omega)).trans (h.nd a ha).dr, ⟨v2, (net_other (by omega)).trans a2, net_slF b2⟩, ⟨v3, (net_other (by omega)).trans a3, net_slF b3⟩⟩
theorem NetM.setDr {X : Nat -> Prop} {w : World} {N : Nat} {x : Net} (h : NetM X w N x) {a : Nat} (ha : a < 12) (d : Bool) : NetM X (w.setCell ⟨N, a * 4 + 1, none⟩ (.bool d)) N (x.setN a { x.nd a with dr := d }) := by
 obtain ⟨v0, a0, b0⟩ := (h.nd a ha).st
 obtain ⟨v2, a2, b2⟩ := (h.nd a ha).pf
 obtain ⟨v3, a3, b3⟩ := (h.nd a ha).tb
 exact h.setNd (j := 1) ha (by decide) ⟨⟨v0, (net_other (by omega)).trans a0, net_slF b0⟩, net_same (h.nd a ha).dr, ⟨v2, (net_other (by omega)).trans a2, net_slF b2⟩, ⟨v3, (net_other (by omega)).trans a3, net_slF b3⟩⟩
theorem NetM.setPf {X : Nat -> Prop} {w : World} {N : Nat} {x : Net} (h : NetM X w N x) {a : Nat} (ha : a < 12) {v : Value} {l : List Prefix} (hv : SlN prefR N X w v l) : NetM X (w.setCell ⟨N, a * 4 + 2, none⟩ v) N (x.setN a { x.nd a with pf := l }) := by
 obtain ⟨v0, a0, b0⟩ := (h.nd a ha).st
 obtain ⟨v2, a2, b2⟩ := (h.nd a ha).pf
 obtain ⟨v3, a3, b3⟩ := (h.nd a ha).tb
 exact h.setNd (j := 2) ha (by decide) ⟨⟨v0, (net_other (by omega)).trans a0, net_slF b0⟩, (net_other (by omega)).trans (h.nd a ha).dr, ⟨v, net_same a2, net_slF hv⟩, ⟨v3, (net_other (by omega)).trans a3, net_slF b3⟩⟩
theorem NetM.setTb {X : Nat -> Prop} {w : World} {N : Nat} {x : Net} (h : NetM X w N x) {a : Nat} (ha : a < 12) {v : Value} {l : List Route} (hv : SlN routeR N X w v l) : NetM X (w.setCell ⟨N, a * 4 + 3, none⟩ v) N (x.setN a { x.nd a with tb := l }) := by
 obtain ⟨v0, a0, b0⟩ := (h.nd a ha).st
 obtain ⟨v2, a2, b2⟩ := (h.nd a ha).pf
 obtain ⟨v3, a3, b3⟩ := (h.nd a ha).tb
 exact h.setNd (j := 3) ha (by decide) ⟨⟨v0, (net_other (by omega)).trans a0, net_slF b0⟩, (net_other (by omega)).trans (h.nd a ha).dr, ⟨v2, (net_other (by omega)).trans a2, net_slF b2⟩, ⟨v, net_same a3, net_slF hv⟩⟩
theorem NetM.setCo {X : Nat -> Prop} {w : World} {N : Nat} {x : Net} (h : NetM X w N x) {a b : Nat} (ha : a < 12) (hb : b < 12) (c : Int) : NetM X (w.setCell ⟨N, 48 + a * 12 + b, none⟩ (.int .i64 c)) N { x with co := updC x.co a b c } := by
 refine ⟨by simpa [World.setCell] using h.top, fun i hi => (h.nd i hi).other (fun m hm => by omega), fun i k hi hk => ?_, fun i => ?_, by simpa [World.setCell] using h.lt⟩
 · show _ = some (Value.int .i64 (updC x.co a b c i k))
   unfold updC
   by_cases e : i = a /\ k = b
   · obtain ⟨rfl, rfl⟩ := e
     rw [if_pos ⟨rfl, rfl⟩]
     exact net_same (h.co i k hi hk)
   · rw [if_neg e, net_other (by omega)]
     exact h.co i k hi hk
 · rw [zau]; exact h.fz i
theorem grown_below {w w' : World} {N : Nat} (h : w.grownBy w' (some N)) (hN : N <= w.heap.size) : Below N w w' :=
 ⟨h.os, h.tape, h.output, h.size, fun k hk => h.block k (by omega) (fun e => by injection e with e; omega)⟩
theorem below_grownN {w w' : World} (N : Nat) (h : Below w.heap.size w w') : w.grownBy w' (some N) :=
 ⟨h.os, h.tape, h.output, h.size, fun k hk _ => h.block k hk⟩
theorem setCell_grown (w : World) (N o : Nat) (u : Value) : w.grownBy (w.setCell ⟨N, o, none⟩ u) (some N) :=
 ⟨rfl, rfl, rfl, by simp [World.setCell], fun k _ hne => zai _ _ _ _ (fun e => hne (by first | exact congrArg some e.symm | exact congrArg some e))⟩
def ActV.cells (c : ActV) : List Value := [.int .i64 c.kind, .int .i64 c.a, .int .i64 c.b, .int .i64 c.n, .int .i64 c.m, .int .i64 c.pre.addr, .int .i64 c.pre.bits, .string c.key, .string c.value]
structure ActV.wf (c : ActV) : Prop where
 kind : inR c.kind
 a : inR c.a
 b : inR c.b
 n : inR c.n
 m : inR c.m
 addr : inR c.pre.addr
 bits : inR c.pre.bits
 key : c.key.size <= maxLen
 value : c.value.size <= maxLen
def actR : Rep ActV := flatR 9 ActV.cells ActV.wf (fun _ => rfl) (fun x u h => by simp [ActV.cells] at h; rcases h with rfl | rfl | rfl | rfl | rfl | rfl | rfl | rfl | rfl <;> rfl)
theorem Sl.act {w : World} {b off c n : Nat} {xs : List ActV} (h : Sl actR w (.slice (some ⟨b, off, none⟩) n c) xs) {k : Nat} (hk : k < xs.length) :
  w.cell? ⟨b, off + k * 9, none⟩ = some (.int .i64 xs[k].kind) /\ w.cell? ⟨b, off + k * 9 + 1, none⟩ = some (.int .i64 xs[k].a) /\ w.cell? ⟨b, off + k * 9 + 2, none⟩ = some (.int .i64 xs[k].b) /\
  w.cell? ⟨b, off + k * 9 + 3, none⟩ = some (.int .i64 xs[k].n) /\ w.cell? ⟨b, off + k * 9 + 4, none⟩ = some (.int .i64 xs[k].m) /\ w.cell? ⟨b, off + k * 9 + 5, none⟩ = some (.int .i64 xs[k].pre.addr) /\
  w.cell? ⟨b, off + k * 9 + 6, none⟩ = some (.int .i64 xs[k].pre.bits) /\ w.cell? ⟨b, off + k * 9 + 7, none⟩ = some (.string xs[k].key) /\ w.cell? ⟨b, off + k * 9 + 8, none⟩ = some (.string xs[k].value) /\ xs[k].wf := by
 obtain ⟨cs, ⟨rfl, hw⟩, hc⟩ := h.cell hk
 exact ⟨hc 0 _ rfl, hc 1 _ rfl, hc 2 _ rfl, hc 3 _ rfl, hc 4 _ rfl, hc 5 _ rfl, hc 6 _ rfl, hc 7 _ rfl, hc 8 _ rfl, hw⟩
def rplR : Rep Rpl :=
 { size := 4, holds := fun w S cs x => ∃ v u, cs = [.int .i64 x.code, v, .int .i64 x.cost, u] /\ SlR intR w S v x.path /\ SlR strR w S u x.keys
   len := fun ⟨v, u, h, _⟩ => by rw [h]; rfl
   one := fun ⟨v, u, h, ⟨A, c, hv, _⟩, ⟨B, d, hu, _⟩⟩ z hz => by
    rw [h, hv, hu] at hz
    simp at hz
    rcases hz with rfl | rfl | rfl | rfl <;> rfl
   keep := fun ⟨v, u, h1, h2, h3⟩ k1 k2 => ⟨v, u, h1, h2.keep k1 k2, h3.keep k1 k2⟩ }
theorem Sl.rpl {w : World} {b off c n : Nat} {xs : List Rpl} (h : Sl rplR w (.slice (some ⟨b, off, none⟩) n c) xs) {k : Nat} (hk : k < xs.length) :
  ∃ v u, w.cell? ⟨b, off + k * 4, none⟩ = some (.int .i64 xs[k].code) /\ w.cell? ⟨b, off + k * 4 + 1, none⟩ = some v /\ w.cell? ⟨b, off + k * 4 + 2, none⟩ = some (.int .i64 xs[k].cost) /\ w.cell? ⟨b, off + k * 4 + 3, none⟩ = some u /\
    Sl intR w v xs[k].path /\ Sl strR w u xs[k].keys := by
 obtain ⟨cs, ⟨v, u, rfl, h1, h2⟩, hc⟩ := h.cell hk
 exact ⟨v, u, hc 0 _ rfl, hc 1 _ rfl, hc 2 _ rfl, hc 3 _ rfl, h1, h2⟩
end
section
open Go.RowKit Go.Deep
end
section
open Go Go.RowKit Go.Deep
def zR {α : Type} (r : Rep α) (Z : Nat) : Rep α :=
 { size := r.size, holds := fun w S cs x => r.holds w (fun k => S k /\ Z <= k) cs x
   len := fun h => r.len h
   one := fun h => r.one h
   keep := fun h k1 k2 => r.keep h (fun k hk => k1 k hk.1) (fun k hk => ⟨k2 k hk.1, hk.2⟩) }
theorem Sl.unzR {α : Type} {r : Rep α} {Z : Nat} {w : World} {v : Value} {xs : List α} (h : Sl (zR r Z) w v xs) : Sl r w v xs := by
 obtain ⟨A, c, rfl, h1, h2, h3⟩ := h
 refine ⟨A, c, rfl, h1, h2, fun i x hx => ?_⟩
 obtain ⟨b, off, cs, hA, hS, hb, hh, hc⟩ := h3 i x hx
 exact ⟨b, off, cs, hA, hS, hb, r.keep hh (fun _ _ => rfl) (fun _ hk => hk.1), hc⟩
theorem OwR.keptZ {α : Type} {r : Rep α} {E base N : Nat} {w w' : World} {v : Value} {xs : List α} (h : OwR (zR r (N + 1)) E base w v xs) (hg : w.grownBy w' (some N)) (hb : N < base) : OwR (zR r (N + 1)) E base w' v xs := by
 have hne : v.ownBlock ≠ some N := fun e => by have := (h.base_le _ e).1; omega
 obtain ⟨css, h1, h2, h3, h4⟩ := h
 refine ⟨css, h1, fun i cs x hc hx => r.keep (h2 i cs x hc hx) (fun k hk => hg.block k hk.1.1 (fun e => by injection e with e; have := hk.2; omega)) (fun k hk => ⟨⟨zan hk.1.1 hg.size, hk.1.2⟩, hk.2⟩), ?_, zaz h4 hg.size⟩
 exact h3.kept hg (.inr hne)
theorem wpList_oneR {α : Type} {r : Rep α} {T E : TypeId} {bytes : Nat} (el : Elt Tryz.prog T E r.size bytes) {ops : Array Oper} {rest : List Oper} {o : Oper} {a : Act} {Q : Exit -> Act -> World -> Prop} {w : World} {base : Nat} (hgd : o.guard = none) (s x : Operand)
  (ho : o.op = .call { callee := .builtin .append, args := #[s, x], argTypes := #[T, T] }) {v : Value} {xs : List α} {y : α} {cs : List Value} {S : Nat -> Prop}
  (hown : OwR r E base w v xs) (hh : r.holds w S cs y) (hS : ∀ k, S k -> k < w.heap.size /\ v.ownBlock ≠ some k) (hs : a.eval s = v)
  {B : Nat} (hx : a.eval x = .slice (some ⟨B, 0, none⟩) 1 1) (hB : B = w.heap.size) (hb : xs.length <= 1000000) (hby : bytes <= 1000)
  (h : ∀ v' w', OwR r E base w' v' (xs ++ [y]) -> GrowTo (w.alloc (.cells cs.toArray E)) v w' v' -> wpList Tryz.prog ops Q rest (a.put o.dst v') w') :
  wpList Tryz.prog ops Q (o :: rest) a (w.alloc (.cells cs.toArray E)) :=
 wpList_plain hgd fun _ hK => by
  subst hB
  have hone : SlR r (w.alloc (.cells cs.toArray E)) (fun k => S k ∨ k = w.heap.size) (.slice (some ⟨w.heap.size, 0, none⟩) 1 1) [y] := by
   refine ⟨some ⟨w.heap.size, 0, none⟩, 1, rfl, by simp, by decide, fun i z hz => ?_⟩
   match i, hz with
   | 0, hz =>
     simp at hz; subst hz
     refine ⟨w.heap.size, 0, cs, by simp, .inr rfl, by simp, r.keep hh (fun k hk => zbj _ _ _ (hS k hk).1) (fun k hk => .inl hk), fun j u hu => ?_⟩
     rw [zae _ _ _ _ rfl]
     simpa using hu
   | i + 1, hz => simp at hz
  obtain ⟨v', w', hrun, r2, r3, r4⟩ := run_own_append (ty := o.type) el (ow_alloc hown _) hone (fun cs y hy => r.keep hy (fun _ _ => rfl) (fun k hk => by
   rcases hk with hk | hk
   · have := hS k hk; exact ⟨by simp; omega, this.2⟩
   · subst hk; exact ⟨by simp, fun e => by have := (hown.base_le _ e).2; omega⟩)) (by unfold maxLen; simp; omega) (by
     have h9 : (xs.length + [y].length) * bytes <= 1000001 * 1000 := Nat.mul_le_mul (by simp; omega) hby
     have : (1000001 : Nat) * 1000 = 1000001000 := rfl
     omega)
  unfold Oper.wp execOp
  simp only [ho, resolve, invoke, builtin, zbA, zbz, Result.andThen_ok, zbk, zaH, zbv, hs, hx, hrun]
  exact hK _ _ (h v' w' r2 (GrowTo.of_at r3 r4))
theorem elt_of {P : Program} {T E : TypeId} {size bytes : Nat} (ht : P.underlying T = some (.slice E)) (h : (P.info? E).map (fun i => (i.zero.map (fun z => z.cells.size), i.size, i.bytes)) = some (some size, size, bytes)) (hp : 0 < size) : Elt P T E size bytes := by
 refine ⟨ht, ?_, hp⟩
 rcases hi : P.info? E with _ | i
 · rw [hi] at h; cases h
 · rw [hi] at h
   simp only [Option.map_some, Option.some.injEq, Prod.mk.injEq] at h
   obtain ⟨h1, h2, h3⟩ := h
   rcases hz : i.zero with _ | z
   · rw [hz] at h1; cases h1
   · rw [hz] at h1
     exact ⟨i, z, rfl, hz, h2, h3, by simpa using h1⟩
theorem elt_actA : Elt Tryz.prog 23 34 9 88 := elt_of Tryz.underlying23 (by kernel_rfl) (by decide)
theorem elt_rpl : Elt Tryz.prog 25 57 4 64 := ⟨Tryz.underlying25, by
 have h : (Tryz.prog.info? 57).map (fun i => (i.zero, i.size, i.bytes)) = some (some (.agg #[.int .i64 0, .slice none 0 0, .int .i64 0, .slice none 0 0]), 4, 64) := by kernel_rfl
 obtain ⟨i, h1, h2, h3, h4⟩ := info_parts h
 exact ⟨i, _, h1, h2, h3, h4, rfl⟩, by decide⟩
theorem elt_store : Elt Tryz.prog 26 42 1 24 := ⟨Tryz.underlying26, by
 have h : (Tryz.prog.info? 42).map (fun i => (i.zero, i.size, i.bytes)) = some (some (.slice none 0 0), 1, 24) := by kernel_rfl
 obtain ⟨i, h1, h2, h3, h4⟩ := info_parts h
 exact ⟨i, _, h1, h2, h3, h4, rfl⟩, by decide⟩
def NPost (X : Nat -> Prop) (N : Nat) (x : Net) (r : Ending) (w : World) (e : Ending) (w' : World) : Prop := e = r /\ NetM X w' N x /\ w.grownBy w' (some N)
theorem nis_any (n : Int) (w : World) {b : Bool} (hb : isN n = b) : Calls Tryz.prog 27 #[.int .i64 n] w fun e w' => e = .returned (.bool b) /\ w = w' := by
 subst hb
 by_cases h0 : 0 <= n
 · by_cases h1 : n < 12
   · have he : isN n = true := (isN_iff n).2 ⟨h0, h1⟩
     have HE := zaa he
     clear he
     go_enter Tryz.func27, Tryz.ntmps27
     go_wp2_with fail
     go_ret
     exact ⟨eb HE.out.symm, rfl⟩
   · have he : isN n = false := by rw [Bool.eq_false_iff]; intro h; exact h1 ((isN_iff n).1 h).2
     have HE := zaa he
     clear he
     go_enter Tryz.func27, Tryz.ntmps27
     go_wp2_with fail
     go_ret
     exact ⟨eb HE.out.symm, rfl⟩
 · have he : isN n = false := by rw [Bool.eq_false_iff]; intro h; exact h0 ((isN_iff n).1 h).1
   have HE := zaa he
   clear he
   go_enter Tryz.func27, Tryz.ntmps27
   go_wp2_with fail
   go_ret
   exact ⟨eb HE.out.symm, rfl⟩
set_option maxRecDepth 50000 in
theorem nlink_any {X : Nat -> Prop} (N a : Nat) (b c : Int) (x : Net) (w : World) (h : NetM X w N x) (ha : a < 12) :
  Calls Tryz.prog 28 #[.pointer (some ⟨N, 0, none⟩), .int .i64 (a : Nat), .int .i64 b, .int .i64 c] w (NPost X N (linkS x a b c).1 (.returned (.int .i64 (linkS x a b c).2)) w) := by
 have HM := zaa h
 have ha0 : (0 : Int) <= (a : Int) := zaf a
 have ha1 : (a : Int) < 12 := by omega
 cases hb : isN b with
 | false =>
   have HL := zaa (show linkS x a b c = (x, 2) by unfold linkS; rw [if_pos (.inl hb)])
   have HI := zaa (nis_any b w hb)
   clear h hb
   go_enter Tryz.func28, Tryz.ntmps28
   go_wp2_with (go_at_call 27; refine HI.out.mono ?_; rintro e w' ⟨rfl, rfl⟩)
   go_ret
   exact ⟨by rw [HL.out]; rfl, by rw [HL.out]; exact HM.out, zaX _ _⟩
 | true =>
   have HI := zaa (nis_any b w hb)
   have HBT := zaa hb
   obtain ⟨hb0, hb1⟩ := (isN_iff b).1 hb
   by_cases h0 : c < 0
   · have HL := zaa (show linkS x a b c = (x, 2) by unfold linkS; rw [if_pos (.inr (.inl h0))])
     clear h hb
     go_enter Tryz.func28, Tryz.ntmps28
     go_wp2_with (go_at_call 27; refine HI.out.mono ?_; rintro e w' ⟨rfl, rfl⟩)
     go_ret
     exact ⟨by rw [HL.out]; rfl, by rw [HL.out]; exact HM.out, zaX _ _⟩
   · by_cases h1 : 1000 < c
     · have HL := zaa (show linkS x a b c = (x, 2) by unfold linkS; rw [if_pos (.inr (.inr h1))])
       clear h hb
       go_enter Tryz.func28, Tryz.ntmps28
       go_wp2_with (go_at_call 27; refine HI.out.mono ?_; rintro e w' ⟨rfl, rfl⟩)
       go_ret
       exact ⟨by rw [HL.out]; rfl, by rw [HL.out]; exact HM.out, zaX _ _⟩
     · obtain ⟨k, rfl⟩ : ∃ k : Nat, b = k := ⟨b.toNat, by omega⟩
       have hk : k < 12 := by omega
       have hn : ¬ (isN (k : Int) = false ∨ c < 0 ∨ 1000 < c) := by rw [HBT.out]; simp; omega
       have HN := zaa hn
       by_cases he : a = k
       · have HL := zaa (show linkS x a k c = (x, 4) by unfold linkS; rw [if_neg hn, if_pos (by omega)])
         have heb : ((a : Int) == (k : Int)) = true := by rw [beq_iff_eq]; omega
         clear h hb hn he
         go_enter Tryz.func28, Tryz.ntmps28
         go_wp2_with (go_at_call 27; refine HI.out.mono ?_; rintro e w' ⟨rfl, rfl⟩)
         go_ret
         exact ⟨by rw [HL.out]; rfl, by rw [HL.out]; exact HM.out, zaX _ _⟩
       · have heb : ((a : Int) == (k : Int)) = false := by rw [beq_eq_false_iff_ne]; omega
         have f1 := h.co a k ha hk
         have f2 := h.co k a hk ha
         have z1 := h.fz (48 + a * 12 + k)
         have z2 := h.fz (48 + k * 12 + a)
         by_cases hc : c = 0 /\ x.co a k = 0
         · obtain ⟨hc0, hc1⟩ := hc
           have HL := zaa (show linkS x a k c = (x, 6) by unfold linkS; rw [if_neg hn, if_neg (by omega), if_pos ⟨hc0, hc1⟩])
           rw [hc1] at f1
           subst hc0
           clear h hb hn he f2 z1 z2
           go_enter Tryz.func28, Tryz.ntmps28
           go_wp2_with (go_at_call 27; refine HI.out.mono ?_; rintro e w' ⟨rfl, rfl⟩)
           go_ret
           exact ⟨by rw [HL.out]; rfl, by rw [HL.out]; exact HM.out, zaX _ _⟩
         · have HL := zaa (show linkS x a k c = ({ x with co := updC (updC x.co a k c) k a c }, 0) by
            unfold linkS; rw [if_neg hn, if_neg (by omega)]; exact if_neg (by simpa using hc))
           have HS := zaa ((h.setCo ha hk c).setCo hk ha c)
           have HG := zaa ((setCell_grown w N (48 + a * 12 + k) (.int .i64 c)).trans (setCell_grown (w.setCell ⟨N, 48 + a * 12 + k, none⟩ (.int .i64 c)) N (48 + k * 12 + a) (.int .i64 c)))
           have hne : ¬ (48 + a * 12 + k = 48 + k * 12 + a) := by omega
           have hne2 : ¬ (48 + k * 12 + a = 48 + a * 12 + k) := by omega
           obtain ⟨y, hy⟩ : ∃ y, x.co a k = y := ⟨_, rfl⟩
           rw [hy] at f1 hc
           have hcd : (c = 0 /\ ¬ y = 0) ∨ ¬ c = 0 := by omega
           clear h hb hn he hy hc
           rcases hcd with ⟨hc0, hy0⟩ | hc0
           · subst hc0
             have hyb : (y == 0) = false := by rw [beq_eq_false_iff_ne]; exact hy0
             go_enter Tryz.func28, Tryz.ntmps28
             go_wp2_with (go_at_call 27; refine HI.out.mono ?_; rintro e w' ⟨rfl, rfl⟩)
             go_region_with (fail)
             all_goals
              go_wp2_with fail
              go_ret
              exact ⟨by rw [HL.out]; rfl, by rw [HL.out]; exact HS.out.below (zad _ _).drew, HG.out.trans (below_grownN N (zad _ _).drew)⟩
           · have hcb : (c == 0) = false := by rw [beq_eq_false_iff_ne]; exact hc0
             go_enter Tryz.func28, Tryz.ntmps28
             go_wp2_with (go_at_call 27; refine HI.out.mono ?_; rintro e w' ⟨rfl, rfl⟩)
             go_region_with (fail)
             all_goals
              go_wp2_with fail
              go_ret
              exact ⟨by rw [HL.out]; rfl, by rw [HL.out]; exact HS.out.below (zad _ _).drew, HG.out.trans (below_grownN N (zad _ _).drew)⟩
end
end Go.Proofs.YtojojpjldkpmoaaGreatDoor
