/-
  
-/
import Derived.Test.YtojojpjldkpmoaaGreatDoorGMem
set_option linter.unusedVariables false
set_option linter.unusedSimpArgs false
set_option maxHeartbeats 16000000
namespace Go.Proofs.YtojojpjldkpmoaaGreatDoor
structure Spot where
 node : Int
 cost : Int
def lessS (x y : Spot) : Bool := decide (x.cost < y.cost) || (decide (x.cost = y.cost) && decide (x.node < y.node))
def atS (l : List Spot) (i : Nat) : Spot := l.getD i ⟨0, 0⟩
def swapS (l : List Spot) (i j : Nat) : List Spot := (l.set i (atS l j)).set j (atS l i)
def leS (x y : Spot) : Prop := x.cost < y.cost ∨ (x.cost = y.cost /\ x.node <= y.node)
theorem less_iff (x y : Spot) : lessS x y = true ↔ ¬ leS y x := by
 simp only [lessS, leS, Bool.or_eq_true, decide_eq_true_eq, Bool.and_eq_true]; omega
theorem less_no (x y : Spot) : lessS x y = false ↔ leS y x := by
 rw [<- Bool.not_eq_true, less_iff]; exact Classical.not_not
theorem leS.trans {x y z : Spot} (h : leS x y) (h' : leS y z) : leS x z := by unfold leS at *; omega
theorem leS.refl (x : Spot) : leS x x := by unfold leS; omega
theorem leS.total {x y : Spot} (h : ¬ leS x y) : leS y x := by unfold leS at *; omega
theorem leS.cost {x y : Spot} (h : leS x y) : x.cost <= y.cost := by unfold leS at h; omega
theorem swap_len (l : List Spot) (i j : Nat) : (swapS l i j).length = l.length := by simp [swapS]
theorem at_swap {l : List Spot} {i j : Nat} (hi : i < l.length) (hj : j < l.length) (k : Nat) : atS (swapS l i j) k = if k = j then atS l i else if k = i then atS l j else atS l k := by
 unfold swapS
 rw [atS, zal, zbT, zbT]
 by_cases h1 : j = k
 · subst h1; simp [hj]
 · have h1' : ¬ k = j := fun e => h1 e.symm
   by_cases h2 : i = k
   · subst h2; simp [h1, hi, h1']
   · have h2' : ¬ k = i := fun e => h2 e.symm
     rw [if_neg h1, if_neg h2, if_neg h1', if_neg h2', atS, zal]
theorem at_lt {l : List Spot} {k : Nat} (h : k < l.length) : atS l k = l[k] := by
 rw [atS, zal, zac h]; rfl
theorem mem_at {l : List Spot} {x : Spot} : x ∈ l ↔ ∃ k, k < l.length /\ atS l k = x := by
 constructor
 · intro h
   obtain ⟨k, hk, e⟩ := zaj h
   exact ⟨k, hk, by rw [at_lt hk]; exact e⟩
 · rintro ⟨k, hk, rfl⟩
   rw [at_lt hk]; exact zas hk
theorem swap_mem {l : List Spot} {i j : Nat} (hi : i < l.length) (hj : j < l.length) (x : Spot) : x ∈ swapS l i j ↔ x ∈ l := by
 rw [mem_at, mem_at, swap_len]
 constructor
 · rintro ⟨k, hk, e⟩
   rw [at_swap hi hj] at e
   split at e
   · exact ⟨i, hi, e⟩
   · split at e
     · exact ⟨j, hj, e⟩
     · exact ⟨k, hk, e⟩
 · rintro ⟨k, hk, e⟩
   by_cases h1 : k = i
   · refine ⟨j, hj, ?_⟩
     rw [at_swap hi hj, if_pos rfl, <- h1]; exact e
   · by_cases h2 : k = j
     · refine ⟨i, hi, ?_⟩
       rw [at_swap hi hj]
       split
       · rename_i h3; rw [h3, <- h2]; exact e
       · rw [if_pos rfl, <- h2]; exact e
     · refine ⟨k, hk, ?_⟩
       rw [at_swap hi hj, if_neg h2, if_neg h1]; exact e
def Hp (l : List Spot) : Prop := ∀ j, 0 < j -> j < l.length -> leS (atS l ((j - 1) / 2)) (atS l j)
theorem Hp.top {l : List Spot} (h : Hp l) : ∀ (n j : Nat), j < n -> j < l.length -> leS (atS l 0) (atS l j)
 | 0, j, hn, _ => by omega
 | n + 1, j, hn, hj => by
   rcases zaJ j with h0 | h0
   · subst h0; exact leS.refl _
   · exact (h.top n ((j - 1) / 2) (by omega) (by omega)).trans (h j h0 hj)
def up : Nat -> List Spot -> Nat -> List Spot
 | 0, l, _ => l
 | f + 1, l, i => if 0 < i /\ lessS (atS l i) (atS l ((i - 1) / 2)) = true then up f (swapS l i ((i - 1) / 2)) ((i - 1) / 2) else l
def pushS (l : List Spot) (x : Spot) : List Spot := up (l.length + 1) (l ++ [x]) l.length
theorem up_len : ∀ (f : Nat) (l : List Spot) (i : Nat), (up f l i).length = l.length
 | 0, _, _ => rfl
 | f + 1, l, i => by
   unfold up
   split
   · rw [up_len f, swap_len]
   · rfl
theorem up_mem : ∀ (f : Nat) (l : List Spot) (i : Nat), i < l.length -> ∀ x, x ∈ up f l i ↔ x ∈ l
 | 0, _, _, _, _ => Iff.rfl
 | f + 1, l, i, hi, x => by
   unfold up
   split
   · rw [up_mem f _ _ (by rw [swap_len]; omega), swap_mem hi (by omega)]
   · exact Iff.rfl
theorem up_hp : ∀ (f : Nat) (l : List Spot) (i : Nat), i < f -> i < l.length ->
  (∀ j, 0 < j -> j < l.length -> j ≠ i -> leS (atS l ((j - 1) / 2)) (atS l j)) ->
  (∀ j, 0 < j -> j < l.length -> (j - 1) / 2 = i -> 0 < i -> leS (atS l ((i - 1) / 2)) (atS l j)) -> Hp (up f l i)
 | 0, _, _, h, _, _, _ => by omega
 | f + 1, l, i, hf, hi, h1, h2 => by
   unfold up
   split
   · rename_i hc
     obtain ⟨h0, hl⟩ := hc
     have hp : (i - 1) / 2 < l.length := by omega
     have hlt : ¬ leS (atS l ((i - 1) / 2)) (atS l i) := (less_iff _ _).1 hl
     have hle := leS.total hlt
     refine up_hp f _ _ (by omega) (by rw [swap_len]; exact hp) ?_ ?_
     · intro j j0 jl jn
       rw [swap_len] at jl
       rw [at_swap hi hp, at_swap hi hp, if_neg jn]
       by_cases e : j = i
       · subst e; rw [if_pos rfl, if_pos rfl]; exact hle
       · rw [if_neg e]
         by_cases e2 : (j - 1) / 2 = (i - 1) / 2
         · rw [if_pos e2]
           have := h1 j j0 jl e
           rw [e2] at this
           exact hle.trans this
         · rw [if_neg e2]
           by_cases e3 : (j - 1) / 2 = i
           · rw [if_pos e3]; exact h2 j j0 jl e3 h0
           · rw [if_neg e3]; exact h1 j j0 jl e
     · intro j j0 jl jp p0
       rw [swap_len] at jl
       have hpp := h1 ((i - 1) / 2) p0 hp (by omega)
       rw [at_swap hi hp, at_swap hi hp, if_neg (show ¬ ((i - 1) / 2 - 1) / 2 = (i - 1) / 2 by omega), if_neg (show ¬ ((i - 1) / 2 - 1) / 2 = i by omega)]
       rw [if_neg (show ¬ j = (i - 1) / 2 by omega)]
       by_cases e : j = i
       · rw [if_pos e]; exact hpp
       · rw [if_neg e]
         have := h1 j j0 jl e
         rw [jp] at this
         exact hpp.trans this
   · rename_i hc
     intro j j0 jl
     by_cases e : j = i
     · subst e
       have : lessS (atS l j) (atS l ((j - 1) / 2)) = false := by
        rcases e : lessS (atS l j) (atS l ((j - 1) / 2)) with _ | _
        · rfl
        · exact absurd ⟨j0, e⟩ hc
       exact (less_no _ _).1 this
     · exact h1 j j0 jl e
theorem at_app {l : List Spot} {x : Spot} {k : Nat} (h : k < l.length) : atS (l ++ [x]) k = atS l k := by
 rw [atS, atS, zal, zal, zba h]
theorem push_hp {l : List Spot} (h : Hp l) (x : Spot) : Hp (pushS l x) := by
 refine up_hp _ _ _ (by omega) (by simp) ?_ ?_
 · intro j j0 jl jn
   have : j < l.length := by simp at jl; omega
   rw [at_app (by omega), at_app this]
   exact h j j0 this
 · intro j j0 jl jp _
   simp at jl; omega
theorem push_mem (l : List Spot) (x y : Spot) : y ∈ pushS l x ↔ y ∈ l ∨ y = x := by
 unfold pushS
 rw [up_mem _ _ _ (by simp)]; simp
theorem push_len (l : List Spot) (x : Spot) : (pushS l x).length = l.length + 1 := by unfold pushS; rw [up_len]; simp
def kid (l : List Spot) (last i : Nat) : Nat := if 2 * i + 2 < last /\ lessS (atS l (2 * i + 2)) (atS l (2 * i + 1)) = true then 2 * i + 2 else 2 * i + 1
def down : Nat -> List Spot -> Nat -> List Spot
 | 0, l, _ => l
 | f + 1, l, i => if l.length <= 2 * i + 1 then l else if lessS (atS l (kid l l.length i)) (atS l i) = true then down f (swapS l i (kid l l.length i)) (kid l l.length i) else l
theorem down_len : ∀ (f : Nat) (l : List Spot) (i : Nat), (down f l i).length = l.length
 | 0, _, _ => rfl
 | f + 1, l, i => by
   unfold down
   split
   · rfl
   · split
     · rw [down_len f, swap_len]
     · rfl
theorem kid_lt {l : List Spot} {i : Nat} (h : 2 * i + 1 < l.length) : kid l l.length i < l.length /\ (kid l l.length i = 2 * i + 1 ∨ kid l l.length i = 2 * i + 2) := by
 unfold kid
 split
 · rename_i hc; exact ⟨hc.1, .inr rfl⟩
 · exact ⟨h, .inl rfl⟩
theorem kid_le {l : List Spot} {i j : Nat} (hj : j < l.length) (j0 : 0 < j) (hp : (j - 1) / 2 = i) : leS (atS l (kid l l.length i)) (atS l j) := by
 have hj2 : j = 2 * i + 1 ∨ j = 2 * i + 2 := by omega
 unfold kid
 split
 · rename_i hc
   rcases hj2 with rfl | rfl
   · exact leS.total ((less_iff _ _).1 hc.2)
   · exact leS.refl _
 · rename_i hc
   rcases hj2 with rfl | rfl
   · exact leS.refl _
   · have : lessS (atS l (2 * i + 2)) (atS l (2 * i + 1)) = false := by
      rcases e : lessS (atS l (2 * i + 2)) (atS l (2 * i + 1)) with _ | _
      · rfl
      · exact absurd ⟨hj, e⟩ hc
     exact (less_no _ _).1 this
theorem down_mem : ∀ (f : Nat) (l : List Spot) (i : Nat), i < l.length -> ∀ x, x ∈ down f l i ↔ x ∈ l
 | 0, _, _, _, _ => Iff.rfl
 | f + 1, l, i, hi, x => by
   unfold down
   split
   · exact Iff.rfl
   · rename_i h1
     obtain ⟨hk, _⟩ := kid_lt (l := l) (i := i) (by omega)
     split
     · rw [down_mem f _ _ (by rw [swap_len]; exact hk), swap_mem hi hk]
     · exact Iff.rfl
theorem down_hp : ∀ (f : Nat) (l : List Spot) (i : Nat), l.length < f + i -> i < l.length ->
  (∀ j, 0 < j -> j < l.length -> (j - 1) / 2 ≠ i -> leS (atS l ((j - 1) / 2)) (atS l j)) ->
  (∀ j, 0 < j -> j < l.length -> (j - 1) / 2 = i -> 0 < i -> leS (atS l ((i - 1) / 2)) (atS l j)) -> Hp (down f l i)
 | 0, _, _, h, h', _, _ => by omega
 | f + 1, l, i, hf, hi, h1, h2 => by
   unfold down
   split
   · rename_i hc
     intro j j0 jl
     exact h1 j j0 jl (by omega)
   · rename_i hc
     obtain ⟨hk, hk2⟩ := kid_lt (l := l) (i := i) (by omega)
     split
     · rename_i hl
       have hle := leS.total ((less_iff _ _).1 hl)
       generalize hK : kid l l.length i = k at *
       refine down_hp f _ _ (by rw [swap_len]; omega) (by rw [swap_len]; exact hk) ?_ ?_
       · intro j j0 jl jn
         rw [swap_len] at jl
         rw [at_swap hi hk, at_swap hi hk, if_neg jn]
         by_cases e : (j - 1) / 2 = i
         · rw [if_pos e]
           have hkj := kid_le (l := l) (i := i) jl j0 e
           rw [hK] at hkj
           by_cases e2 : j = k
           · rw [if_pos e2]; exact hle
           · rw [if_neg e2, if_neg (by omega)]; exact hkj
         · rw [if_neg e]
           by_cases e2 : j = k
           · exfalso; omega
           · rw [if_neg e2]
             by_cases e3 : j = i
             · subst e3
               rw [if_pos rfl]
               exact h2 k (by omega) hk (by omega) j0
             · rw [if_neg e3]; exact h1 j j0 jl e
       · intro j j0 jl jp k0
         rw [swap_len] at jl
         have hki : (k - 1) / 2 = i := by omega
         rw [at_swap hi hk, at_swap hi hk, hki, if_neg (show ¬ i = k by omega), if_pos rfl, if_neg (show ¬ j = k by omega), if_neg (show ¬ j = i by omega)]
         have := h1 j j0 jl (by omega)
         rw [jp] at this
         exact this
     · rename_i hl
       have hl' : lessS (atS l (kid l l.length i)) (atS l i) = false := by simpa using hl
       intro j j0 jl
       by_cases e : (j - 1) / 2 = i
       · rw [e]
         exact ((less_no _ _).1 hl').trans (kid_le jl j0 e)
       · exact h1 j j0 jl e
def popS (l : List Spot) : List Spot := down (l.length + 1) ((l.set 0 (atS l (l.length - 1))).take (l.length - 1)) 0
theorem pop_len (l : List Spot) : (popS l).length = l.length - 1 := by unfold popS; rw [down_len]; simp
theorem pre_at {l : List Spot} {k : Nat} (h : k < l.length - 1) : atS ((l.set 0 (atS l (l.length - 1))).take (l.length - 1)) k = if k = 0 then atS l (l.length - 1) else atS l k := by
 rw [atS, zal, zbb, if_pos h, zbT]
 by_cases e : 0 = k
 · subst e
   rw [if_pos rfl, if_pos (by omega), if_pos rfl]; rfl
 · rw [if_neg e, if_neg (fun x => e x.symm), atS, zal]
theorem pop_hp {l : List Spot} (h : Hp l) : Hp (popS l) := by
 rcases zbu 1 l.length with h1 | h1
 · have hl : ((l.set 0 (atS l (l.length - 1))).take (l.length - 1)).length = l.length - 1 := by simp
   refine down_hp _ _ _ (by omega) (by omega) ?_ ?_
   · intro j j0 jl jn
     rw [hl] at jl
     rw [pre_at jl, pre_at (by omega), if_neg jn, if_neg (by omega)]
     exact h j j0 (by omega)
   · intro j _ _ _ hi; omega
 · intro j j0 jl
   rw [pop_len] at jl; omega
theorem pop_mem {l : List Spot} (hl : 0 < l.length) (y : Spot) : (y ∈ popS l ∨ y = atS l 0) ↔ y ∈ l := by
 rcases zbu 1 l.length with h1 | h1
 · have hlen : ((l.set 0 (atS l (l.length - 1))).take (l.length - 1)).length = l.length - 1 := by simp
   unfold popS
   rw [down_mem _ _ _ (by omega), mem_at, mem_at, hlen]
   constructor
   · rintro (⟨k, hk, e⟩ | e)
     · rw [pre_at hk] at e
       split at e
       · exact ⟨l.length - 1, by omega, e⟩
       · exact ⟨k, by omega, e⟩
     · exact ⟨0, hl, e.symm⟩
   · rintro ⟨k, hk, e⟩
     by_cases k0 : k = 0
     · subst k0; exact .inr e.symm
     · left
       by_cases kl : k = l.length - 1
       · refine ⟨0, by omega, ?_⟩
         rw [pre_at (by omega), if_pos rfl, <- kl]; exact e
       · refine ⟨k, by omega, ?_⟩
         rw [pre_at (by omega), if_neg k0]; exact e
 · have e1 : l.length = 1 := by omega
   have e2 : popS l = [] := zat (by rw [pop_len, e1])
   rw [e2]
   match l, e1 with
   | [x], _ => simp [atS]
end Go.Proofs.YtojojpjldkpmoaaGreatDoor
