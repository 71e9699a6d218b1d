/-
  
-/
import Derived.Test.YtbhbilenbbldnaaGreatDoorGKeP
import Derived.Test.YtbhbilenbbldnaaGreatDoorGTaF
import Derived.Test.YtbhbilenbbldnaaGreatDoorGDec
import Derived.Test.YtbhbilenbbldnaaGreatDoorGTxD
import Derived.Test.YtbhbilenbbldnaaGreatDoorGRibF
set_option linter.unusedVariables false
set_option linter.unusedSimpArgs false
namespace Go.Proofs.YtbhbilenbbldnaaGreatDoor
open Go.RowKit
def mx (o p : Option Entry) : Option Entry :=
 match o, p with
 | none, p => p
 | o, none => o
 | some a, some b => if aboveE b a = true then some b else some a
theorem above_neg {a b c : Entry} (h1 : aboveE b a = false) (h2 : aboveE c b = false) : aboveE c a = false := by
 rcases h : aboveE c a with _ | _
 · rfl
 · have h3 := above_lift (e := b) (g := a) (y := c) h1 h
   unfold aboveE at h h1 h2 h3
   by_cases v : b.version = c.version
   · by_cases o : b.origin = c.origin
     · have hv : b.value = c.value := by
        rw [if_neg (by simp [v]), if_neg (by simp [o])] at h3
        rw [if_neg (by simp [v]), if_neg (by simp [o])] at h2
        exact ltB_total h2 h3
       rw [v, o, hv] at h1
       rw [h1] at h; cases h
     · rw [if_neg (by simp [v]), if_pos (Ne.symm o)] at h2
       rw [if_neg (by simp [v]), if_pos o] at h3
       simp at h2 h3; omega
   · rw [if_pos (Ne.symm v)] at h2
     rw [if_pos v] at h3
     simp at h2 h3; omega
theorem merge_okS {a b : List Entry} (ha : OkS a) (hb : OkS b) : OkS (mergeS aboveE a b).1 := (merge_grow ha hb).1
end Go.Proofs.YtbhbilenbbldnaaGreatDoor

namespace Go.Proofs.YtbhbilenbbldnaaGreatDoor
open Go
structure Nd where
 st : List Entry
 dr : Bool
 pf : List Prefix
 tb : List Route
structure Net where
 nd : Nat → Nd
 co : Nat → Nat → Int
structure ActV where
 kind : Int
 a : Int
 b : Int
 n : Int
 m : Int
 pre : Prefix
 key : ByteArray
 value : ByteArray
structure Rpl where
 code : Int
 path : List Int
 cost : Int
 keys : List ByteArray
def nd0 : Nd := ⟨[], false, [], []⟩
def net0 : Net := ⟨fun _ => nd0, fun _ _ => 0⟩
def rpl0 : Rpl := ⟨0, [], 0, []⟩
def isN (n : Int) : Bool := decide (0 ≤ n) && decide (n < 12)
def Net.setN (x : Net) (a : Nat) (y : Nd) : Net := { x with nd := fun i => if i = a then y else x.nd i }
theorem isN_iff (n : Int) : isN n = true ↔ 0 ≤ n ∧ n < 12 := by unfold isN; simp
theorem setN_same (x : Net) (a : Nat) (y : Nd) : (x.setN a y).nd a = y := by simp [Net.setN]
theorem setN_other (x : Net) {a b : Nat} (y : Nd) (h : b ≠ a) : (x.setN a y).nd b = x.nd b := by simp [Net.setN, h]
def linkS (x : Net) (a : Nat) (b c : Int) : Net × Int :=
 if isN b = false ∨ c < 0 ∨ 1000 < c then (x, 2) else
 if (a : Int) = b then (x, 4) else
 if c = 0 ∧ x.co a b.toNat = 0 then (x, 6) else
 ({ x with co := updC (updC x.co a b.toNat c) b.toNat a c }, 0)
def insP : List Prefix → Prefix → List Prefix
 | [], p => [p]
 | q :: l, p => if prefOrd p q = true then p :: q :: l else q :: insP l p
def giveS (x : Net) (a : Nat) (p : Prefix) : Net × Int :=
 if chkPrefs [p] ≠ 0 then (x, chkPrefs [p]) else
 if chkPrefs (insP (x.nd a).pf p) ≠ 0 then (x, chkPrefs (insP (x.nd a).pf p)) else
 (x.setN a { x.nd a with pf := insP (x.nd a).pf p }, 0)
def takeS (x : Net) (a : Nat) (p : Prefix) : Net × Int :=
 if inP (x.nd a).pf p = true then (x.setN a { x.nd a with pf := (x.nd a).pf.filter fun q => !sameP q p }, 0) else (x, 6)
def putO (st : List Entry) (a : Nat) (key value : ByteArray) : List Entry × List ByteArray × Int :=
 if (getS st key).2 = 0 ∧ (getS st key).1.value = value ∧ (getS st key).1.origin = a then (st, [], 0) else
 if (putS st a key value).2 ≠ 0 then (st, [], (putS st a key value).2) else ((putS st a key value).1, [key], 0)
def sidesTo (f : Nat → Int) : Nat → List Side
 | 0 => []
 | k + 1 => if 0 < f k then sidesTo f k ++ [⟨k, f k⟩] else sidesTo f k
def tellA (x : Net) (a : Nat) : ByteArray := bOf (adjT (x.nd a).dr (sidesTo (x.co a) 12))
def tellP (x : Net) (a : Nat) : ByteArray := bOf (prefsT (x.nd a).pf)
def tellS (x : Net) (a : Nat) : Net × List ByteArray × Int :=
 if (putO (x.nd a).st a (keyA a) (tellA x a)).2.2 ≠ 0 then (x, [], (putO (x.nd a).st a (keyA a) (tellA x a)).2.2) else
 if (putO (putO (x.nd a).st a (keyA a) (tellA x a)).1 a (keyP a) (tellP x a)).2.2 ≠ 0 then (x, [], (putO (putO (x.nd a).st a (keyA a) (tellA x a)).1 a (keyP a) (tellP x a)).2.2) else
 (x.setN a { x.nd a with st := (putO (putO (x.nd a).st a (keyA a) (tellA x a)).1 a (keyP a) (tellP x a)).1 },
  (putO (x.nd a).st a (keyA a) (tellA x a)).2.1 ++ (putO (putO (x.nd a).st a (keyA a) (tellA x a)).1 a (keyP a) (tellP x a)).2.1, 0)
def wireB (l : List Entry) (n : Int) : List UInt8 :=
 if 0 ≤ n then (encS l).set (n.toNat % (encS l).length) ((encS l).getD (n.toNat % (encS l).length) 0 ^^^ 1) else encS l
def sendS (x : Net) (a : Nat) (b n : Int) : Net × List ByteArray × Int :=
 if isN b = false then (x, [], 2) else
 if x.co a b.toNat = 0 then (x, [], 6) else
 if (decS (wireB (x.nd a).st n)).2 ≠ 0 then (x, [], (decS (wireB (x.nd a).st n)).2) else
 (x.setN b.toNat { x.nd b.toNat with st := (mergeS aboveE (x.nd b.toNat).st (decS (wireB (x.nd a).st n)).1).1 },
  (mergeS aboveE (x.nd b.toNat).st (decS (wireB (x.nd a).st n)).1).2.1, 0)
def writeS (x : Net) (a : Nat) (key value : ByteArray) : Net × List ByteArray × Int :=
 if (putS (x.nd a).st a key value).2 ≠ 0 then (x, [], (putS (x.nd a).st a key value).2) else
 (x.setN a { x.nd a with st := (putS (x.nd a).st a key value).1 }, [key], 0)
def decideS (x : Net) (a : Nat) : Net := x.setN a { x.nd a with tb := tabTo (x.nd a).st a 12 }
def walkGo (x : Net) (addr : Int) (pick : Nat) : Nat → List Int → Int → Nat → List Int × Int × Int
 | 0, _, _, _ => ([], 0, 10)
 | f + 1, path, cost, a =>
   if (lookS (x.nd a).tb addr).2 ≠ 0 then ([], 0, (lookS (x.nd a).tb addr).2) else
   if (lookS (x.nd a).tb addr).1.here = true then (path, cost, 0) else
   if 12 < path.length then ([], 0, 10) else
   if x.co a ((lookS (x.nd a).tb addr).1.hops.getD (pick % (lookS (x.nd a).tb addr).1.hops.length) 0).toNat = 0 then ([], 0, 6) else
   walkGo x addr pick f (path ++ [(lookS (x.nd a).tb addr).1.hops.getD (pick % (lookS (x.nd a).tb addr).1.hops.length) 0])
    (cost + x.co a ((lookS (x.nd a).tb addr).1.hops.getD (pick % (lookS (x.nd a).tb addr).1.hops.length) 0).toNat)
    ((lookS (x.nd a).tb addr).1.hops.getD (pick % (lookS (x.nd a).tb addr).1.hops.length) 0).toNat
def walkS (x : Net) (a : Nat) (addr pick : Int) : List Int × Int × Int :=
 if pick < 0 then ([], 0, 2) else walkGo x addr pick.toNat 13 [(a : Int)] 0 a
def actK (x : Net) (c : ActV) (a : Nat) : Nat → Net × Rpl
 | 1 => if 1 ≤ c.n then ((linkS x a c.b c.n).1, ⟨(linkS x a c.b c.n).2, [], 0, []⟩) else (x, ⟨2, [], 0, []⟩)
 | 2 => ((linkS x a c.b 0).1, ⟨(linkS x a c.b 0).2, [], 0, []⟩)
 | 3 => if c.n = 0 ∨ c.n = 1 then (x.setN a { x.nd a with dr := c.n == 1 }, rpl0) else (x, ⟨2, [], 0, []⟩)
 | 4 => ((giveS x a c.pre).1, ⟨(giveS x a c.pre).2, [], 0, []⟩)
 | 5 => ((takeS x a c.pre).1, ⟨(takeS x a c.pre).2, [], 0, []⟩)
 | 6 => ((tellS x a).1, ⟨(tellS x a).2.2, [], 0, (tellS x a).2.1⟩)
 | 7 => ((sendS x a c.b c.n).1, ⟨(sendS x a c.b c.n).2.2, [], 0, (sendS x a c.b c.n).2.1⟩)
 | 8 => ((writeS x a c.key c.value).1, ⟨(writeS x a c.key c.value).2.2, [], 0, (writeS x a c.key c.value).2.1⟩)
 | 9 => (decideS x a, rpl0)
 | _ => (x, ⟨(walkS x a c.n c.m).2.2, (walkS x a c.n c.m).1, (walkS x a c.n c.m).2.1, []⟩)
theorem actK_1 (x : Net) (c : ActV) (a : Nat) : actK x c a 1 = if 1 ≤ c.n then ((linkS x a c.b c.n).1, ⟨(linkS x a c.b c.n).2, [], 0, []⟩) else (x, ⟨2, [], 0, []⟩) := rfl
theorem actK_3 (x : Net) (c : ActV) (a : Nat) : actK x c a 3 = if c.n = 0 ∨ c.n = 1 then (x.setN a { x.nd a with dr := c.n == 1 }, rpl0) else (x, ⟨2, [], 0, []⟩) := rfl
def actS (x : Net) (c : ActV) : Net × Rpl :=
 if c.kind < 1 ∨ 10 < c.kind then (x, ⟨3, [], 0, []⟩) else
 if isN c.a = false then (x, ⟨2, [], 0, []⟩) else actK x c c.a.toNat c.kind.toNat
theorem act_kind {x : Net} {c : ActV} (h : c.kind < 1 ∨ 10 < c.kind) : actS x c = (x, ⟨3, [], 0, []⟩) := by unfold actS; rw [if_pos h]
theorem act_node {x : Net} {c : ActV} (h : ¬ (c.kind < 1 ∨ 10 < c.kind)) (h2 : isN c.a = false) : actS x c = (x, ⟨2, [], 0, []⟩) := by unfold actS; rw [if_neg h, if_pos h2]
theorem act_go {x : Net} {c : ActV} (h : ¬ (c.kind < 1 ∨ 10 < c.kind)) (h2 : isN c.a = true) {a k : Nat} (ha : c.a = a) (hk : c.kind = k) : actS x c = actK x c a k := by
 unfold actS; rw [if_neg h, if_neg (by rw [h2]; simp), ha, hk]; rfl
theorem act_cases (x : Net) (c : ActV) : actS x c = (x, ⟨3, [], 0, []⟩) ∨ actS x c = (x, ⟨2, [], 0, []⟩) ∨ ∃ a k : Nat, c.a = a ∧ a < 12 ∧ c.kind = k ∧ 1 ≤ k ∧ k ≤ 10 ∧ actS x c = actK x c a k := by
 by_cases h : c.kind < 1 ∨ 10 < c.kind
 · exact .inl (act_kind h)
 · cases h2 : isN c.a with
   | false => exact .inr (.inl (act_node h h2))
   | true =>
     obtain ⟨a0, a1⟩ := (isN_iff c.a).1 h2
     exact .inr (.inr ⟨c.a.toNat, c.kind.toNat, by omega, by omega, by omega, by omega, by omega, act_go h h2 (by omega) (by omega)⟩)
theorem k_cases {k : Nat} (h1 : 1 ≤ k) (h2 : k ≤ 10) : k = 1 ∨ k = 2 ∨ k = 3 ∨ k = 4 ∨ k = 5 ∨ k = 6 ∨ k = 7 ∨ k = 8 ∨ k = 9 ∨ k = 10 := by omega
def runS (x : Net) : List ActV → Net × List Rpl
 | [] => (x, [])
 | c :: l => ((runS (actS x c).1 l).1, (actS x c).2 :: (runS (actS x c).1 l).2)
theorem runS_append (l m : List ActV) : ∀ x : Net, runS x (l ++ m) = ((runS (runS x l).1 m).1, (runS x l).2 ++ (runS (runS x l).1 m).2) := by
 induction l with
 | nil => intro x; rfl
 | cons c l ih => intro x; simp only [List.cons_append, runS, ih]
theorem runS_len (l : List ActV) : ∀ x : Net, (runS x l).2.length = l.length := by
 induction l with
 | nil => intro x; rfl
 | cons c l ih => intro x; simp [runS, ih]
theorem runS_snoc (x : Net) (l : List ActV) (c : ActV) : runS x (l ++ [c]) = ((actS (runS x l).1 c).1, (runS x l).2 ++ [(actS (runS x l).1 c).2]) := by
 rw [runS_append]; rfl
structure NdOk (y : Nd) : Prop where
 st : OkS y.st
 pf : chkPrefs y.pf = 0
 tb : chkRoutes y.tb = 0
structure NetOk (x : Net) : Prop where
 nd : ∀ a, a < 12 → NdOk (x.nd a)
 co : ∀ a b, 0 ≤ x.co a b ∧ x.co a b ≤ 1000
 sym : ∀ a b, x.co a b = x.co b a
 self : ∀ a, x.co a a = 0
theorem nd0_ok : NdOk nd0 := ⟨OkS.nil, by decide, by decide⟩
theorem net0_ok : NetOk net0 := ⟨fun _ _ => nd0_ok, fun _ _ => ⟨Int.le_refl _, by show (0 : Int) ≤ 1000; omega⟩, fun _ _ => rfl, fun _ => rfl⟩
theorem NetOk.setN {x : Net} (h : NetOk x) {a : Nat} {y : Nd} (hy : NdOk y) : NetOk (x.setN a y) := by
 refine ⟨fun i hi => ?_, h.co, h.sym, h.self⟩
 by_cases e : i = a
 · subst e; rw [setN_same]; exact hy
 · rw [setN_other _ _ e]; exact h.nd i hi
end Go.Proofs.YtbhbilenbbldnaaGreatDoor
