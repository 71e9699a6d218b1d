/-
  
-/
import Derived.Test.YtojojpjldkpmoaaGreatDoorGStM
import Derived.Test.YtojojpjldkpmoaaGreatDoorGStE
import Derived.Test.YtojojpjldkpmoaaGreatDoorGPaA
import Derived.Test.YtojojpjldkpmoaaGreatDoorGDec
import Derived.Test.YtojojpjldkpmoaaGreatDoorGTxD
import Derived.Test.YtojojpjldkpmoaaGreatDoorGRibF
set_option linter.unusedVariables false
set_option linter.unusedSimpArgs false
set_option maxHeartbeats 16000000
namespace Go.Proofs.YtojojpjldkpmoaaGreatDoor
section
open Go.RowKit
theorem above_irrefl (a : Entry) : aboveE a a = false := by unfold aboveE; simp [ltB_irrefl]
theorem above_lift {e g y : Entry} (h : aboveE e g = false) (h2 : aboveE y g = true) : aboveE e y = false := by
 unfold aboveE at *
 by_cases v1 : e.version = g.version <;> by_cases v2 : y.version = g.version <;> by_cases o1 : e.origin = g.origin <;> by_cases o2 : y.origin = g.origin <;> by_cases v3 : e.version = y.version <;> by_cases o3 : e.origin = y.origin <;> simp_all <;> first
  | omega
  | (rcases hl : ltB y.value e.value with _ | _
     · rfl
     · rw [ltB_trans h2 hl] at h; cases h)
  | skip
theorem find_iff {l : List Entry} (hl : l.Pairwise ltE) (k : ByteArray) (e : Entry) : findE l k = some e ↔ e ∈ l /\ e.key = k := by
 constructor
 · intro h; exact (findE_key h).symm
 · rintro ⟨hm, rfl⟩
   obtain ⟨j, hj, rfl⟩ := zaj hm
   have h1 := hasE_at hl l[j].key hj rfl
   have h2 := findE_some hl l[j].key (by omega) (by simp only [h1])
   simp only [h1] at h2
   exact h2
theorem find_none_iff {l : List Entry} (k : ByteArray) : findE l k = none ↔ ∀ e ∈ l, e.key ≠ k := by
 unfold findE
 rw [zbR]
 exact ⟨fun h e he hk => h e he (by simpa using hk), fun h e he hk => h e he (by simpa using hk)⟩
theorem mem_withE {l : List Entry} (hl : l.Pairwise ltE) (x e : Entry) : e ∈ withE l x ↔ e = x ∨ (e ∈ l /\ e.key ≠ x.key) := by
 have hle := lbE_le l x.key
 unfold withE
 rw [zaI, zaB]
 constructor
 · rintro (h | h | h)
   · right
     obtain ⟨i, hi, rfl⟩ := zaj h
     rw [zaq] at hi
     rw [zbs]
     refine ⟨zas _, fun e => ?_⟩
     have := lbE_lt l x.key i (by omega) (by omega)
     rw [e, ltB_irrefl] at this; cases this
   · exact .inl h
   · right
     refine ⟨zbi h, fun hk => ?_⟩
     obtain ⟨i, hi, rfl⟩ := zaj h
     rw [zaQ] at hi
     rw [zbI] at hk
     have h1 := hasE_at hl x.key (by omega) hk
     have h2 : hasE l x.key = true := by
      unfold hasE
      rw [zbo]
      exact ⟨_, zas _, decide_eq_true hk⟩
     rw [if_pos h2] at h1
     omega
 · rintro (h | ⟨h, hk⟩)
   · exact .inr (.inl h)
   · obtain ⟨i, hi, rfl⟩ := zaj h
     by_cases h1 : i < lbE l x.key
     · left
       rw [List.mem_iff_getElem]
       exact ⟨i, by rw [zaq]; omega, by rw [zbs]⟩
     · right; right
       rw [List.mem_iff_getElem]
       have hne : lbE l x.key + (if hasE l x.key = true then 1 else 0) <= i := by
        split
        · rename_i h2
          obtain ⟨hl2, hk2⟩ := (hasE_iff hl _).1 h2
          rcases Nat.lt_or_eq_of_le (Nat.le_of_not_lt h1) with h3 | h3
          · omega
          · exact absurd (by simp only [<- h3]; exact hk2) hk
        · omega
       exact ⟨i - (lbE l x.key + if hasE l x.key = true then 1 else 0), by rw [zaQ]; omega, by rw [zbI]; congr 1; omega⟩
theorem find_with_same {l : List Entry} (hl : l.Pairwise ltE) (x : Entry) : findE (withE l x) x.key = some x :=
 (find_iff (withE_ord hl x) _ _).2 ⟨(mem_withE hl x x).2 (.inl rfl), rfl⟩
theorem find_with_other {l : List Entry} (hl : l.Pairwise ltE) (x : Entry) {k : ByteArray} (hk : k ≠ x.key) : findE (withE l x) k = findE l k := by
 rcases h : findE l k with _ | e
 · rw [find_none_iff] at h ⊢
   intro e he hek
   rcases (mem_withE hl x e).1 he with rfl | ⟨h1, _⟩
   · exact hk hek.symm
   · exact h e h1 hek
 · rw [find_iff hl] at h
   rw [find_iff (withE_ord hl x)]
   exact ⟨(mem_withE hl x e).2 (.inr ⟨h.1, by rw [h.2]; exact hk⟩), h.2⟩
theorem step_grow {p : List Entry × List ByteArray} {y e g : Entry} (hp : p.1.Pairwise ltE) (hg : findE p.1 e.key = some g) (ha : aboveE e g = false) : ∃ g', findE (mergeStep aboveE p y).1 e.key = some g' /\ aboveE e g' = false := by
 unfold mergeStep
 rcases hf : findE p.1 y.key with _ | o
 · simp only
   split
   · by_cases hk : e.key = y.key
     · rw [hk, hf] at hg; cases hg
     · exact ⟨g, by simp only; rw [find_with_other hp y hk]; exact hg, ha⟩
   · exact ⟨g, hg, ha⟩
 · simp only
   split
   · rename_i hab
     by_cases hk : e.key = y.key
     · rw [hk, hf] at hg
       injection hg with hg
       subst hg
       exact ⟨y, by simp only; rw [hk]; exact find_with_same hp y, above_lift ha hab⟩
     · exact ⟨g, by simp only; rw [find_with_other hp y hk]; exact hg, ha⟩
   · exact ⟨g, hg, ha⟩
theorem mTo_grow {a b : List Entry} (ha : OkS a) (hb : ∀ e ∈ b, entryOk e = true) {e : Entry} (he : e ∈ a) : ∀ k, k <= b.length -> ∃ g, findE (mTo a b k).1 e.key = some g /\ aboveE e g = false
 | 0, _ => ⟨e, (find_iff ha.ord _ _).2 ⟨he, rfl⟩, above_irrefl e⟩
 | k + 1, hk => by
   obtain ⟨g, h1, h2⟩ := mTo_grow ha hb he k (by omega)
   rw [mTo_succ a b k (by omega)]
   exact step_grow (mTo_ok ha hb k).ord h1 h2
theorem step_len {p : List Entry × List ByteArray} (hp : p.1.Pairwise ltE) (y : Entry) : p.1.length <= (mergeStep aboveE p y).1.length := by
 unfold mergeStep
 split
 · split
   · simp only; rw [withE_len hp]; omega
   · exact zab _
 · split
   · simp only; rw [withE_len hp]; omega
   · exact zab _
theorem mTo_len_ge {a b : List Entry} (ha : OkS a) (hb : ∀ e ∈ b, entryOk e = true) : ∀ k, k <= b.length -> a.length <= (mTo a b k).1.length
 | 0, _ => zab _
 | k + 1, hk => by
   rw [mTo_succ a b k (by omega)]
   exact zaz (mTo_len_ge ha hb k (by omega)) (step_len (mTo_ok ha hb k).ord _)
theorem merge_grow {a b : List Entry} (ha : OkS a) (hb : OkS b) : OkS (mergeS aboveE a b).1 /\ (∀ e ∈ a, ∃ g, getS (mergeS aboveE a b).1 e.key = (g, 0) /\ ¬ cmpE g e < 0) /\ a.length <= (mergeS aboveE a b).1.length := by
 rw [merge_ok ha.check hb.check]
 have hok := mTo_ok ha hb.ok b.length
 refine ⟨hok, fun e he => ?_, mTo_len_ge ha hb.ok _ (zab _)⟩
 obtain ⟨g, h1, h2⟩ := mTo_grow ha hb.ok he b.length (zab _)
 refine ⟨g, by unfold getS; rw [if_pos hok.check]; simp only; rw [h1], ?_⟩
 rw [cmpE_above, h2]
 split <;> simp
theorem store_ext : ∀ {a b : List Entry}, a.Pairwise ltE -> b.Pairwise ltE -> (∀ k, findE a k = findE b k) -> a = b
 | [], [], _, _, _ => rfl
 | [], y :: b, _, _, h => by
   have := h y.key
   simp [findE] at this
 | x :: a, [], _, _, h => by
   have := h x.key
   simp [findE] at this
 | x :: a, y :: b, ha, hb, h => by
   have hx : ∀ e ∈ a, ltB x.key e.key = true := fun e he => List.rel_of_pairwise_cons ha he
   have hy : ∀ e ∈ b, ltB y.key e.key = true := fun e he => List.rel_of_pairwise_cons hb he
   have fx : findE (y :: b) x.key = some x := by rw [<- h]; simp [findE]
   have fy : findE (x :: a) y.key = some y := by rw [h]; simp [findE]
   have hxy : x = y := by
    obtain ⟨m1, _⟩ := (find_iff hb _ _).1 fx
    obtain ⟨m2, _⟩ := (find_iff ha _ _).1 fy
    rcases zaB.1 m1 with e | m1
    · exact e
    · rcases zaB.1 m2 with e | m2
      · exact e.symm
      · have h1 := hy x m1
        have h2 := hx y m2
        rw [ltB_asymm h1] at h2; cases h2
   subst hxy
   have ht : a = b := store_ext (List.Pairwise.of_cons ha) (List.Pairwise.of_cons hb) (fun k => by
    have hk := h k
    by_cases e : x.key = k
    · subst e
      have n1 : findE a x.key = none := (find_none_iff _).2 (fun e he hk => by have := hx e he; rw [hk, ltB_irrefl] at this; cases this)
      have n2 : findE b x.key = none := (find_none_iff _).2 (fun e he hk => by have := hy e he; rw [hk, ltB_irrefl] at this; cases this)
      rw [n1, n2]
    · simpa [findE, e] using hk)
   rw [ht]
def mx (o p : Option Entry) : Option Entry :=
 match o, p with
 | none, p => p
 | o, none => o
 | some a, some b => if aboveE b a = true then some b else some a
theorem above_same {a b : Entry} (hk : a.key = b.key) (h1 : aboveE a b = false) (h2 : aboveE b a = false) : a = b := by
 unfold aboveE at h1 h2
 by_cases v : a.version = b.version
 · by_cases o : a.origin = b.origin
   · rw [if_neg (by simp [v]), if_neg (by simp [o])] at h1
     rw [if_neg (by simp [v]), if_neg (by simp [o])] at h2
     have hv := ltB_total h1 h2
     cases a; cases b
     simp_all
   · rw [if_neg (by simp [v]), if_pos o] at h1
     rw [if_neg (by simp [v]), if_pos (Ne.symm o)] at h2
     simp at h1 h2; omega
 · rw [if_pos v] at h1
   rw [if_pos (Ne.symm v)] at h2
   simp at h1 h2; omega
theorem above_neg {a b c : Entry} (h1 : aboveE b a = false) (h2 : aboveE c b = false) : aboveE c a = false := by
 rcases h : aboveE c a with _ | _
 · rfl
 · have h3 := above_lift (e := b) (g := a) (y := c) h1 h
   unfold aboveE at h h1 h2 h3
   by_cases v : b.version = c.version
   · by_cases o : b.origin = c.origin
     · have hv : b.value = c.value := by
        rw [if_neg (by simp [v]), if_neg (by simp [o])] at h3
        rw [if_neg (by simp [v]), if_neg (by simp [o])] at h2
        exact ltB_total h2 h3
       rw [v, o, hv] at h1
       rw [h1] at h; cases h
     · rw [if_neg (by simp [v]), if_pos (Ne.symm o)] at h2
       rw [if_neg (by simp [v]), if_pos o] at h3
       simp at h2 h3; omega
   · rw [if_pos (Ne.symm v)] at h2
     rw [if_pos v] at h3
     simp at h2 h3; omega
theorem find_take {b : List Entry} (hb : b.Pairwise ltE) {n : Nat} (hn : n < b.length) (k : ByteArray) : findE (b.take (n + 1)) k = if b[n].key = k then some b[n] else findE (b.take n) k := by
 rw [zar hn]
 unfold findE
 rw [List.find?_append]
 by_cases e : b[n].key = k
 · have hnone : (b.take n).find? (fun e => decide (e.key = k)) = none := by
    rw [zbR]
    intro x hx hk
    obtain ⟨i, hi, rfl⟩ := zaj hx
    rw [zaq] at hi
    rw [zbs] at hk
    have := Pairwise_lt hb (i := i) (j := n) (by omega) hn
    rw [of_decide_eq_true hk, e, ltB_irrefl] at this
    cases this
   rw [hnone, if_pos e]
   simp [e]
 · rw [if_neg e]
   simp [e]
theorem mTo_len_le {a b : List Entry} (ha : OkS a) (hb : ∀ e ∈ b, entryOk e = true) : ∀ n, n <= b.length -> (mTo a b n).1.length <= a.length + n
 | 0, _ => zab _
 | n + 1, hn => by
   rw [mTo_succ a b n (by omega)]
   have h1 := mTo_len_le ha hb n (by omega)
   have hp := (mTo_ok ha hb n).ord
   unfold mergeStep
   split
   · split
     · simp only; rw [withE_len hp]; split <;> omega
     · omega
   · split
     · simp only; rw [withE_len hp]; split <;> omega
     · omega
theorem mTo_find {a b : List Entry} (ha : OkS a) (hb : OkS b) (hr : a.length + b.length <= 60) : ∀ n, n <= b.length -> ∀ k, findE (mTo a b n).1 k = mx (findE a k) (findE (b.take n) k)
 | 0, _, k => by
   have : findE (b.take 0) k = none := by simp [findE]
   rw [this]
   show findE a k = _
   rcases findE a k with _ | e <;> rfl
 | n + 1, hn, k => by
   have hn' : n < b.length := by omega
   have ih := mTo_find ha hb hr n (by omega)
   have hp := mTo_ok ha hb.ok n
   have hpl := mTo_len_le ha hb.ok n (by omega)
   rw [mTo_succ a b n hn', find_take hb.ord hn']
   obtain ⟨y, hy⟩ : ∃ y, b[n] = y := ⟨_, rfl⟩
   obtain ⟨p, hpe⟩ : ∃ p, mTo a b n = p := ⟨_, rfl⟩
   have hynone : findE (b.take n) y.key = none := by
    rw [find_none_iff]
    intro e he hk
    obtain ⟨i, hi, rfl⟩ := zaj he
    rw [zaq] at hi
    rw [zbs] at hk
    have := Pairwise_lt hb.ord (i := i) (j := n) (by omega) hn'
    rw [hk, hy, ltB_irrefl] at this
    cases this
   rw [hy]
   rw [hpe] at ih hp hpl ⊢
   have hpy : findE p.1 y.key = findE a y.key := by
    rw [ih y.key, hynone]
    rcases findE a y.key with _ | e <;> rfl
   unfold mergeStep
   by_cases hk : y.key = k
   · subst hk
     rw [if_pos rfl, <- hpy]
     rcases hf : findE p.1 y.key with _ | o
     · simp only
       rw [if_pos (by omega)]
       simp only
       rw [find_with_same hp.ord]
       rfl
     · simp only [mx]
       split
       · simp only; exact find_with_same hp.ord y
       · exact hf
   · rw [if_neg hk, <- ih k]
     have hk' : k ≠ y.key := fun e => hk e.symm
     split
     · split
       · simp only; exact find_with_other hp.ord y hk'
       · rfl
     · split
       · simp only; exact find_with_other hp.ord y hk'
       · rfl
theorem merge_find {a b : List Entry} (ha : OkS a) (hb : OkS b) (hr : a.length + b.length <= 60) (k : ByteArray) : findE (mergeS aboveE a b).1 k = mx (findE a k) (findE b k) := by
 rw [merge_ok ha.check hb.check]
 have := mTo_find ha hb hr b.length (zab _) k
 rw [zaP] at this
 exact this
theorem merge_okS {a b : List Entry} (ha : OkS a) (hb : OkS b) : OkS (mergeS aboveE a b).1 := (merge_grow ha hb).1
end
section
open Go
structure Nd where
 st : List Entry
 dr : Bool
 pf : List Prefix
 tb : List Route
structure Net where
 nd : Nat -> Nd
 co : Nat -> Nat -> Int
structure ActV where
 kind : Int
 a : Int
 b : Int
 n : Int
 m : Int
 pre : Prefix
 key : ByteArray
 value : ByteArray
structure Rpl where
 code : Int
 path : List Int
 cost : Int
 keys : List ByteArray
def nd0 : Nd := ⟨[], false, [], []⟩
def net0 : Net := ⟨fun _ => nd0, fun _ _ => 0⟩
def rpl0 : Rpl := ⟨0, [], 0, []⟩
def isN (n : Int) : Bool := decide (0 <= n) && decide (n < 12)
def Net.setN (x : Net) (a : Nat) (y : Nd) : Net := { x with nd := fun i => if i = a then y else x.nd i }
theorem isN_iff (n : Int) : isN n = true ↔ 0 <= n /\ n < 12 := by unfold isN; simp
theorem setN_same (x : Net) (a : Nat) (y : Nd) : (x.setN a y).nd a = y := by simp [Net.setN]
theorem setN_other (x : Net) {a b : Nat} (y : Nd) (h : b ≠ a) : (x.setN a y).nd b = x.nd b := by simp [Net.setN, h]
def linkS (x : Net) (a : Nat) (b c : Int) : Net × Int :=
 if isN b = false ∨ c < 0 ∨ 1000 < c then (x, 2) else
 if (a : Int) = b then (x, 4) else
 if c = 0 /\ x.co a b.toNat = 0 then (x, 6) else
 ({ x with co := updC (updC x.co a b.toNat c) b.toNat a c }, 0)
def insP : List Prefix -> Prefix -> List Prefix
 | [], p => [p]
 | q :: l, p => if prefOrd p q = true then p :: q :: l else q :: insP l p
def giveS (x : Net) (a : Nat) (p : Prefix) : Net × Int :=
 if chkPrefs [p] ≠ 0 then (x, chkPrefs [p]) else
 if chkPrefs (insP (x.nd a).pf p) ≠ 0 then (x, chkPrefs (insP (x.nd a).pf p)) else
 (x.setN a { x.nd a with pf := insP (x.nd a).pf p }, 0)
def takeS (x : Net) (a : Nat) (p : Prefix) : Net × Int :=
 if inP (x.nd a).pf p = true then (x.setN a { x.nd a with pf := (x.nd a).pf.filter fun q => !sameP q p }, 0) else (x, 6)
def putO (st : List Entry) (a : Nat) (key value : ByteArray) : List Entry × List ByteArray × Int :=
 if (getS st key).2 = 0 /\ (getS st key).1.value = value /\ (getS st key).1.origin = a then (st, [], 0) else
 if (putS st a key value).2 ≠ 0 then (st, [], (putS st a key value).2) else ((putS st a key value).1, [key], 0)
def sidesTo (f : Nat -> Int) : Nat -> List Side
 | 0 => []
 | k + 1 => if 0 < f k then sidesTo f k ++ [⟨k, f k⟩] else sidesTo f k
def tellA (x : Net) (a : Nat) : ByteArray := bOf (adjT (x.nd a).dr (sidesTo (x.co a) 12))
def tellP (x : Net) (a : Nat) : ByteArray := bOf (prefsT (x.nd a).pf)
def tellS (x : Net) (a : Nat) : Net × List ByteArray × Int :=
 if (putO (x.nd a).st a (keyA a) (tellA x a)).2.2 ≠ 0 then (x, [], (putO (x.nd a).st a (keyA a) (tellA x a)).2.2) else
 if (putO (putO (x.nd a).st a (keyA a) (tellA x a)).1 a (keyP a) (tellP x a)).2.2 ≠ 0 then (x, [], (putO (putO (x.nd a).st a (keyA a) (tellA x a)).1 a (keyP a) (tellP x a)).2.2) else
 (x.setN a { x.nd a with st := (putO (putO (x.nd a).st a (keyA a) (tellA x a)).1 a (keyP a) (tellP x a)).1 },
  (putO (x.nd a).st a (keyA a) (tellA x a)).2.1 ++ (putO (putO (x.nd a).st a (keyA a) (tellA x a)).1 a (keyP a) (tellP x a)).2.1, 0)
def wireB (l : List Entry) (n : Int) : List UInt8 :=
 if 0 <= n then (encS l).set (n.toNat % (encS l).length) ((encS l).getD (n.toNat % (encS l).length) 0 ^^^ 1) else encS l
def sendS (x : Net) (a : Nat) (b n : Int) : Net × List ByteArray × Int :=
 if isN b = false then (x, [], 2) else
 if x.co a b.toNat = 0 then (x, [], 6) else
 if (decS (wireB (x.nd a).st n)).2 ≠ 0 then (x, [], (decS (wireB (x.nd a).st n)).2) else
 (x.setN b.toNat { x.nd b.toNat with st := (mergeS aboveE (x.nd b.toNat).st (decS (wireB (x.nd a).st n)).1).1 },
  (mergeS aboveE (x.nd b.toNat).st (decS (wireB (x.nd a).st n)).1).2.1, 0)
def writeS (x : Net) (a : Nat) (key value : ByteArray) : Net × List ByteArray × Int :=
 if (putS (x.nd a).st a key value).2 ≠ 0 then (x, [], (putS (x.nd a).st a key value).2) else
 (x.setN a { x.nd a with st := (putS (x.nd a).st a key value).1 }, [key], 0)
def decideS (x : Net) (a : Nat) : Net := x.setN a { x.nd a with tb := tabTo (x.nd a).st a 12 }
def walkGo (x : Net) (addr : Int) (pick : Nat) : Nat -> List Int -> Int -> Nat -> List Int × Int × Int
 | 0, _, _, _ => ([], 0, 10)
 | f + 1, path, cost, a =>
   if (lookS (x.nd a).tb addr).2 ≠ 0 then ([], 0, (lookS (x.nd a).tb addr).2) else
   if (lookS (x.nd a).tb addr).1.here = true then (path, cost, 0) else
   if 12 < path.length then ([], 0, 10) else
   if x.co a ((lookS (x.nd a).tb addr).1.hops.getD (pick % (lookS (x.nd a).tb addr).1.hops.length) 0).toNat = 0 then ([], 0, 6) else
   walkGo x addr pick f (path ++ [(lookS (x.nd a).tb addr).1.hops.getD (pick % (lookS (x.nd a).tb addr).1.hops.length) 0])
    (cost + x.co a ((lookS (x.nd a).tb addr).1.hops.getD (pick % (lookS (x.nd a).tb addr).1.hops.length) 0).toNat)
    ((lookS (x.nd a).tb addr).1.hops.getD (pick % (lookS (x.nd a).tb addr).1.hops.length) 0).toNat
def walkS (x : Net) (a : Nat) (addr pick : Int) : List Int × Int × Int :=
 if pick < 0 then ([], 0, 2) else walkGo x addr pick.toNat 13 [(a : Int)] 0 a
def actK (x : Net) (c : ActV) (a : Nat) : Nat -> Net × Rpl
 | 1 => if 1 <= c.n then ((linkS x a c.b c.n).1, ⟨(linkS x a c.b c.n).2, [], 0, []⟩) else (x, ⟨2, [], 0, []⟩)
 | 2 => ((linkS x a c.b 0).1, ⟨(linkS x a c.b 0).2, [], 0, []⟩)
 | 3 => if c.n = 0 ∨ c.n = 1 then (x.setN a { x.nd a with dr := c.n == 1 }, rpl0) else (x, ⟨2, [], 0, []⟩)
 | 4 => ((giveS x a c.pre).1, ⟨(giveS x a c.pre).2, [], 0, []⟩)
 | 5 => ((takeS x a c.pre).1, ⟨(takeS x a c.pre).2, [], 0, []⟩)
 | 6 => ((tellS x a).1, ⟨(tellS x a).2.2, [], 0, (tellS x a).2.1⟩)
 | 7 => ((sendS x a c.b c.n).1, ⟨(sendS x a c.b c.n).2.2, [], 0, (sendS x a c.b c.n).2.1⟩)
 | 8 => ((writeS x a c.key c.value).1, ⟨(writeS x a c.key c.value).2.2, [], 0, (writeS x a c.key c.value).2.1⟩)
 | 9 => (decideS x a, rpl0)
 | _ => (x, ⟨(walkS x a c.n c.m).2.2, (walkS x a c.n c.m).1, (walkS x a c.n c.m).2.1, []⟩)
theorem actK_1 (x : Net) (c : ActV) (a : Nat) : actK x c a 1 = if 1 <= c.n then ((linkS x a c.b c.n).1, ⟨(linkS x a c.b c.n).2, [], 0, []⟩) else (x, ⟨2, [], 0, []⟩) := rfl
theorem actK_3 (x : Net) (c : ActV) (a : Nat) : actK x c a 3 = if c.n = 0 ∨ c.n = 1 then (x.setN a { x.nd a with dr := c.n == 1 }, rpl0) else (x, ⟨2, [], 0, []⟩) := rfl
def actS (x : Net) (c : ActV) : Net × Rpl :=
 if c.kind < 1 ∨ 10 < c.kind then (x, ⟨3, [], 0, []⟩) else
 if isN c.a = false then (x, ⟨2, [], 0, []⟩) else actK x c c.a.toNat c.kind.toNat
theorem act_kind {x : Net} {c : ActV} (h : c.kind < 1 ∨ 10 < c.kind) : actS x c = (x, ⟨3, [], 0, []⟩) := by unfold actS; rw [if_pos h]
theorem act_node {x : Net} {c : ActV} (h : ¬ (c.kind < 1 ∨ 10 < c.kind)) (h2 : isN c.a = false) : actS x c = (x, ⟨2, [], 0, []⟩) := by unfold actS; rw [if_neg h, if_pos h2]
theorem act_go {x : Net} {c : ActV} (h : ¬ (c.kind < 1 ∨ 10 < c.kind)) (h2 : isN c.a = true) {a k : Nat} (ha : c.a = a) (hk : c.kind = k) : actS x c = actK x c a k := by
 unfold actS; rw [if_neg h, if_neg (by rw [h2]; simp), ha, hk]; rfl
theorem act_cases (x : Net) (c : ActV) : actS x c = (x, ⟨3, [], 0, []⟩) ∨ actS x c = (x, ⟨2, [], 0, []⟩) ∨ ∃ a k : Nat, c.a = a /\ a < 12 /\ c.kind = k /\ 1 <= k /\ k <= 10 /\ actS x c = actK x c a k := by
 by_cases h : c.kind < 1 ∨ 10 < c.kind
 · exact .inl (act_kind h)
 · cases h2 : isN c.a with
   | false => exact .inr (.inl (act_node h h2))
   | true =>
     obtain ⟨a0, a1⟩ := (isN_iff c.a).1 h2
     exact .inr (.inr ⟨c.a.toNat, c.kind.toNat, by omega, by omega, by omega, by omega, by omega, act_go h h2 (by omega) (by omega)⟩)
theorem k_cases {k : Nat} (h1 : 1 <= k) (h2 : k <= 10) : k = 1 ∨ k = 2 ∨ k = 3 ∨ k = 4 ∨ k = 5 ∨ k = 6 ∨ k = 7 ∨ k = 8 ∨ k = 9 ∨ k = 10 := by omega
def runS (x : Net) : List ActV -> Net × List Rpl
 | [] => (x, [])
 | c :: l => ((runS (actS x c).1 l).1, (actS x c).2 :: (runS (actS x c).1 l).2)
theorem runS_append (l m : List ActV) : ∀ x : Net, runS x (l ++ m) = ((runS (runS x l).1 m).1, (runS x l).2 ++ (runS (runS x l).1 m).2) := by
 induction l with
 | nil => intro x; rfl
 | cons c l ih => intro x; simp only [zbW, runS, ih]
theorem runS_len (l : List ActV) : ∀ x : Net, (runS x l).2.length = l.length := by
 induction l with
 | nil => intro x; rfl
 | cons c l ih => intro x; simp [runS, ih]
theorem runS_snoc (x : Net) (l : List ActV) (c : ActV) : runS x (l ++ [c]) = ((actS (runS x l).1 c).1, (runS x l).2 ++ [(actS (runS x l).1 c).2]) := by
 rw [runS_append]; rfl
structure NdOk (y : Nd) : Prop where
 st : OkS y.st
 pf : chkPrefs y.pf = 0
 tb : chkRoutes y.tb = 0
structure NetOk (x : Net) : Prop where
 nd : ∀ a, a < 12 -> NdOk (x.nd a)
 co : ∀ a b, 0 <= x.co a b /\ x.co a b <= 1000
 sym : ∀ a b, x.co a b = x.co b a
 self : ∀ a, x.co a a = 0
theorem nd0_ok : NdOk nd0 := ⟨OkS.nil, by decide, by decide⟩
theorem net0_ok : NetOk net0 := ⟨fun _ _ => nd0_ok, fun _ _ => ⟨zbS _, by show (0 : Int) <= 1000; omega⟩, fun _ _ => rfl, fun _ => rfl⟩
theorem NetOk.setN {x : Net} (h : NetOk x) {a : Nat} {y : Nd} (hy : NdOk y) : NetOk (x.setN a y) := by
 refine ⟨fun i hi => ?_, h.co, h.sym, h.self⟩
 by_cases e : i = a
 · subst e; rw [setN_same]; exact hy
 · rw [setN_other _ _ e]; exact h.nd i hi
end
end Go.Proofs.YtojojpjldkpmoaaGreatDoor
