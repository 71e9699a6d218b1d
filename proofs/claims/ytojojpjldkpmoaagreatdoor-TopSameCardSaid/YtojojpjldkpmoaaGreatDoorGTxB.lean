/-
  
-/
import Derived.Lib.ItoaNum
import Derived.Lib.AtoiAll
import Derived.Lib.Join
import Derived.Lib.IndexMore
import Derived.Lib.Split
import Derived.Test.YtojojpjldkpmoaaGreatDoorGGrA
import Derived.Test.YtojojpjldkpmoaaGreatDoorGGrB
import Derived.Lib.CountLaws
import Derived.Lib.CutLaws
set_option linter.unusedVariables false
set_option linter.unusedSimpArgs false
set_option maxHeartbeats 16000000
namespace Go.Proofs.YtojojpjldkpmoaaGreatDoor
section
open Go
def valD (acc : Nat) (l : List UInt8) : Nat := l.foldl (fun a c => a * 10 + (c.toNat - 48)) acc
theorem valD_nil (acc : Nat) : valD acc [] = acc := by unfold valD; rw [List.foldl_nil]
theorem valD_cons (acc : Nat) (c : UInt8) (r : List UInt8) : valD acc (c :: r) = valD (acc * 10 + (c.toNat - 48)) r := by unfold valD; rw [List.foldl_cons]
def isD (c : UInt8) : Prop := 48 <= c.toNat /\ c.toNat <= 57
instance (c : UInt8) : Decidable (isD c) := by unfold isD; infer_instance
theorem valD_le (l : List UInt8) : ∀ acc : Nat, acc <= valD acc l := by
 induction l with
 | nil => intro acc; rw [valD_nil]; exact Nat.le_refl acc
 | cons c r ih =>
   intro acc
   have h := ih (acc * 10 + (c.toNat - 48))
   rw [valD_cons]
   exact Nat.le_trans (Nat.le_trans (Nat.le_mul_of_pos_right acc (by decide)) (Nat.le_add_right _ _)) h
theorem valD_append (l m : List UInt8) (acc : Nat) : valD acc (l ++ m) = valD (valD acc l) m := by unfold valD; rw [List.foldl_append]
theorem valD_snoc (l : List UInt8) (c : UInt8) (acc : Nat) : valD acc (l ++ [c]) = valD acc l * 10 + (c.toNat - 48) := by rw [valD_append, valD_cons, valD_nil]
theorem parse_step {c : UInt8} {r : List UInt8} {acc : Nat} (h1 : 48 <= c.toNat) (h2 : c.toNat <= 57) (hb : acc * 10 + (c.toNat - 48) < 1844674407370955161) : Lib.parseUint10 acc (c :: r) = Lib.parseUint10 (acc * 10 + (c.toNat - 48)) r := by
 conv => lhs; unfold Lib.parseUint10
 rw [if_pos ⟨h1, h2⟩, if_neg (by omega), if_neg (by omega)]
theorem parse_ok (l : List UInt8) : ∀ acc : Nat, (∀ c ∈ l, isD c) -> valD acc l < 1844674407370955161 -> Lib.parseUint10 acc l = .ok (valD acc l) := by
 induction l with
 | nil => intro acc _ _; rw [valD_nil]; rfl
 | cons c r ih =>
   intro acc hd hb
   obtain ⟨h1, h2⟩ := hd c (by simp)
   rw [valD_cons] at hb ⊢
   rw [parse_step h1 h2 (Nat.lt_of_le_of_lt (valD_le r _) hb)]
   exact ih _ (fun x hx => hd x (by simp [hx])) hb
theorem dig_toNat {u : Nat} (h : u < 10) : (UInt8.ofNat (48 + u)).toNat = 48 + u := by
 rw [UInt8.toNat_ofNat']
 omega
theorem dec_small {u : Nat} (h : u < 10) : Lib.decDigits u = [UInt8.ofNat (48 + u)] := Lib.decDigits_one h
theorem dec_big {u : Nat} (h : ¬ u < 10) : Lib.decDigits u = Lib.decDigits (u / 10) ++ [UInt8.ofNat (48 + u % 10)] := by
 conv => lhs; unfold Lib.decDigits
 rw [dif_neg h]
theorem dec_facts : ∀ (k u : Nat), u < k -> Lib.decDigits u ≠ [] /\ (∀ c ∈ Lib.decDigits u, isD c) /\ valD 0 (Lib.decDigits u) = u /\ (1 <= u -> (Lib.decDigits u).head? ≠ some 48)
 | 0, u, h => by omega
 | k + 1, u, h => by
   by_cases hu : u < 10
   · rw [dec_small hu]
     refine ⟨by simp, ?_, ?_, ?_⟩
     · intro c hc
       rw [List.mem_singleton] at hc; subst hc
       have := dig_toNat hu
       exact ⟨by omega, by omega⟩
     · rw [valD_cons, valD_nil, dig_toNat hu]; omega
     · intro h1 e
       rw [List.head?_cons] at e
       injection e with e
       have := congrArg UInt8.toNat e
       rw [dig_toNat hu] at this
       have h48 : (48 : UInt8).toNat = 48 := rfl
       omega
   · rw [dec_big hu]
     obtain ⟨e1, e2, e3, e4⟩ := dec_facts k (u / 10) (by omega)
     have hm : u % 10 < 10 := Nat.mod_lt _ (by omega)
     refine ⟨by simp, ?_, ?_, ?_⟩
     · intro c hc
       rcases List.mem_append.1 hc with hc | hc
       · exact e2 c hc
       · rw [List.mem_singleton] at hc; subst hc
         have := dig_toNat hm
         exact ⟨by omega, by omega⟩
     · rw [valD_snoc, e3, dig_toNat hm]; omega
     · intro _ e
       obtain ⟨c, r, hcr⟩ := List.exists_cons_of_ne_nil e1
       rw [hcr] at e e4
       exact e4 (by omega) e
theorem dec_ne (u : Nat) : Lib.decDigits u ≠ [] := (dec_facts (u + 1) u (by omega)).1
theorem dec_dig (u : Nat) : ∀ c ∈ Lib.decDigits u, isD c := (dec_facts (u + 1) u (by omega)).2.1
theorem dec_val (u : Nat) : valD 0 (Lib.decDigits u) = u := (dec_facts (u + 1) u (by omega)).2.2.1
theorem dec_inj {u v : Nat} (h : Lib.decDigits u = Lib.decDigits v) : u = v := by rw [<- dec_val u, h, dec_val]
theorem dec_len : ∀ (k u : Nat), u < 10 ^ (k + 1) -> (Lib.decDigits u).length <= k + 1
 | 0, u, h => by rw [dec_small (by simpa using h)]; simp
 | k + 1, u, h => by
   by_cases hu : u < 10
   · rw [dec_small hu]; simp
   · rw [dec_big hu, List.length_append]
     have := dec_len k (u / 10) (by rw [Nat.pow_succ] at h; omega)
     simp; omega
def numD (most : Int) (s : List UInt8) : Int :=
 match Lib.atoiAll s with
 | .ok n => if n < 0 ∨ most < n ∨ Lib.itoa n ≠ s then -1 else n
 | _ => -1
theorem itoa_nat (n : Nat) : Lib.itoa (n : Int) = Lib.decDigits n := by
 unfold Lib.itoa
 rw [if_neg (by omega)]
 rfl
theorem atoi_dec (n : Nat) (h : n < 1000000000000) : Lib.atoiAll (Lib.decDigits n) = .ok (n : Int) := by
 have hne := dec_ne n
 have hd := dec_dig n
 have hv := dec_val n
 obtain ⟨c, r, hcr⟩ := List.exists_cons_of_ne_nil hne
 have hp := parse_ok (Lib.decDigits n) 0 hd (by rw [hv]; omega)
 rw [hv] at hp
 obtain ⟨h1, h2⟩ := hd c (by rw [hcr]; simp)
 rw [hcr] at hp ⊢
 unfold Lib.atoiAll Lib.parseMag
 simp only
 have hq : ¬ (c.toNat = 43 ∨ c.toNat = 45) := by rintro (e | e) <;> omega
 rw [if_neg hq, if_neg (by simp), hp]
 simp only
 rw [if_neg (by omega), if_neg (by omega), if_neg (by omega)]
theorem num_dec (n : Nat) (most : Int) (hm : (n : Int) <= most) (h : n < 1000000000000) : numD most (Lib.decDigits n) = n := by
 unfold numD
 rw [atoi_dec n h]
 simp only
 rw [if_neg (by rw [itoa_nat]; simp; omega)]
theorem num_inv {s : List UInt8} {most : Int} (h : 0 <= numD most s) : ∃ n : Nat, s = Lib.decDigits n /\ (n : Int) <= most /\ numD most s = n := by
 unfold numD at h ⊢
 split at h
 · rename_i n hn
   split at h
   · omega
   · rename_i hc
     have h0 : ¬ n < 0 := fun e => hc (.inl e)
     have h1 : ¬ most < n := fun e => hc (.inr (.inl e))
     have h2 : Lib.itoa n = s := Classical.byContradiction fun e => hc (.inr (.inr e))
     obtain ⟨m, rfl⟩ : ∃ m : Nat, n = m := ⟨n.toNat, by omega⟩
     rw [if_neg hc]
     exact ⟨m, by rw [<- h2, itoa_nat], by omega, rfl⟩
 · omega
theorem num_neg {s : List UInt8} {most : Int} (h : ¬ 0 <= numD most s) : numD most s = -1 := by
 unfold numD at h ⊢
 split
 · split
   · rfl
   · rename_i n hn hc
     rw [hn] at h
     simp only at h
     rw [if_neg hc] at h
     exact absurd (show 0 <= n by have : ¬ n < 0 := fun e => hc (.inl e); omega) h
 · rfl
def cutB (b : UInt8) : List UInt8 -> List UInt8 × List UInt8 × Bool
 | [] => ([], [], false)
 | c :: r => if c = b then ([], r, true) else (c :: (cutB b r).1, (cutB b r).2)
def splitC (b : UInt8) : List UInt8 -> List (List UInt8)
 | [] => [[]]
 | c :: r => if c = b then [] :: splitC b r else match splitC b r with
   | [] => [[c]]
   | x :: xs => (c :: x) :: xs
def partsC (s : List UInt8) : List (List UInt8) := if s = [] then [] else splitC 44 s
theorem cutB_no {b : UInt8} : ∀ {s : List UInt8}, b ∉ s -> cutB b s = (s, [], false)
 | [], _ => rfl
 | c :: r, h => by
   simp at h
   unfold cutB
   rw [if_neg (fun e => h.1 e.symm), cutB_no h.2]
theorem cutB_at {b : UInt8} : ∀ {a : List UInt8} (r : List UInt8), b ∉ a -> cutB b (a ++ b :: r) = (a, r, true)
 | [], r, _ => by simp [cutB]
 | c :: a, r, h => by
   simp at h
   rw [List.cons_append]
   unfold cutB
   rw [if_neg (fun e => h.1 e.symm), cutB_at r h.2]
theorem cutB_len (b : UInt8) : ∀ s : List UInt8, (cutB b s).1.length <= s.length /\ (cutB b s).2.1.length <= s.length
 | [] => ⟨Nat.le_refl _, Nat.le_refl _⟩
 | c :: r => by
   have := cutB_len b r
   unfold cutB
   split
   · simp
   · simp; omega
theorem splitC_no {b : UInt8} : ∀ {s : List UInt8}, b ∉ s -> splitC b s = [s]
 | [], _ => rfl
 | c :: r, h => by
   simp at h
   unfold splitC
   rw [if_neg (fun e => h.1 e.symm), splitC_no h.2]
theorem splitC_at {b : UInt8} : ∀ {a : List UInt8} (r : List UInt8), b ∉ a -> splitC b (a ++ b :: r) = a :: splitC b r
 | [], r, _ => by simp [splitC]
 | c :: a, r, h => by
   simp at h
   rw [List.cons_append]
   conv => lhs; unfold splitC
   rw [if_neg (fun e => h.1 e.symm), splitC_at r h.2]
theorem split_join {b : UInt8} : ∀ {l : List (List UInt8)}, l ≠ [] -> (∀ x ∈ l, b ∉ x) -> splitC b (Lib.join l [b]) = l
 | [], h, _ => absurd rfl h
 | [x], _, hx => by rw [Lib.join_one]; exact splitC_no (hx x (by simp))
 | x :: y :: l, _, hx => by
   have e : Lib.join (x :: y :: l) [b] = x ++ b :: Lib.join (y :: l) [b] := by simp [Lib.join, List.intercalate]
   rw [e, splitC_at _ (hx x (by simp)), split_join (by simp) (fun z hz => hx z (by simp [hz]))]
end
section
open Go Go.RowKit
theorem index_no {b : UInt8} : ∀ {s : List UInt8}, b ∉ s -> Lib.index s [b] = -1
 | [], _ => rfl
 | c :: r, h => by
   simp at h
   have e : List.isPrefixOf [b] (c :: r) = false := by simp [List.isPrefixOf, h.1]
   unfold Lib.index
   rw [e, index_no h.2]; rfl
theorem index_at {b : UInt8} : ∀ {a : List UInt8} (r : List UInt8), b ∉ a -> Lib.index (a ++ b :: r) [b] = a.length
 | [], r, _ => by simp [Lib.index, List.isPrefixOf]
 | c :: a, r, h => by
   simp at h
   have e : List.isPrefixOf [b] (c :: (a ++ b :: r)) = false := by simp [List.isPrefixOf, h.1]
   rw [zbW]
   unfold Lib.index
   rw [e, index_at r h.2]
   have : (((a.length : Nat) : Int) == -1) = false := by rw [beq_eq_false_iff_ne]; omega
   rw [this]
   simp
theorem split_first {b : UInt8} : ∀ {s : List UInt8}, b ∈ s -> ∃ a r, s = a ++ b :: r /\ b ∉ a
 | [], h => by simp at h
 | c :: s, h => by
   by_cases e : c = b
   · exact ⟨[], s, by simp [e], by simp⟩
   · have h' : b ∈ s := by
      rcases zaB.1 h with h | h
      · exact absurd h.symm e
      · exact h
     obtain ⟨a, r, rfl, ha⟩ := split_first h'
     exact ⟨c :: a, r, rfl, by simp [ha]; exact fun x => e x.symm⟩
theorem cut_eq (b : UInt8) (s : List UInt8) : Lib.cut s [b] = cutB b s := by
 by_cases h : b ∈ s
 · obtain ⟨a, r, rfl, ha⟩ := split_first h
   unfold Lib.cut
   rw [index_at r ha, cutB_at r ha, if_pos (by omega)]
   simp
 · unfold Lib.cut
   rw [index_no h, cutB_no h, if_neg (by omega)]
theorem splitK_eq (b : UInt8) : ∀ (n : Nat) (s : List UInt8), s.length < n -> Lib.splitK [b] 0 (Lib.count s [b]) s = splitC b s
 | 0, s, h => by omega
 | n + 1, s, hn => by
   by_cases h : b ∈ s
   · obtain ⟨a, r, rfl, ha⟩ := split_first h
     have hr : r.length < n := by simp at hn; omega
     rw [Lib.count_hit (by simp) (index_at r ha)]
     have e : (a ++ b :: r).drop (a.length + [b].length) = r := by simp
     rw [e, splitC_at r ha, Nat.add_comm 1]
     unfold Lib.splitK
     rw [index_at r ha]
     have : (((a.length : Nat) : Int) == -1) = false := by rw [beq_eq_false_iff_ne]; omega
     rw [this, zaL, e, splitK_eq b n r hr]
     simp
   · rw [Lib.count_miss (index_no h), splitC_no h]; rfl
theorem count_len (b : UInt8) : ∀ (n : Nat) (s : List UInt8), s.length < n -> Lib.count s [b] + 1 = (splitC b s).length
 | 0, s, h => by omega
 | n + 1, s, hn => by
   by_cases h : b ∈ s
   · obtain ⟨a, r, rfl, ha⟩ := split_first h
     have hr : r.length < n := by simp at hn; omega
     rw [Lib.count_hit (by simp) (index_at r ha)]
     have e : (a ++ b :: r).drop (a.length + [b].length) = r := by simp
     rw [e, splitC_at r ha, zaw, <- count_len b n r hr]; omega
   · rw [Lib.count_miss (index_no h), splitC_no h]; rfl
theorem countB_len (s : ByteArray) (b : UInt8) : Lib.countB s ⟨#[b]⟩ + 1 = (splitC b s.data.toList).length := count_len b _ _ (zbN _)
theorem splitB_eq (s : ByteArray) (b : UInt8) : (Lib.splitB ⟨#[b]⟩ 0 (Lib.countB s ⟨#[b]⟩) s).map (·.data.toList) = splitC b s.data.toList := by
 rw [Lib.splitB_data]
 exact splitK_eq b _ _ (zbN _)
def bOf (l : List UInt8) : ByteArray := ⟨l.toArray⟩
theorem bOf_list (l : List UInt8) : (bOf l).data.toList = l := by simp [bOf]
theorem bOf_data (s : ByteArray) : bOf s.data.toList = s := ByteArray.ext (by simp [bOf])
theorem bOf_size (l : List UInt8) : (bOf l).size = l.length := by rw [<- size_toList, bOf_list]
theorem bOf_inj {l m : List UInt8} (h : bOf l = bOf m) : l = m := by rw [<- bOf_list l, h, bOf_list]
def pairT (b : UInt8) (x y : Int) : List UInt8 := Lib.decDigits x.toNat ++ b :: Lib.decDigits y.toNat
def sideT (s : Side) : List UInt8 := pairT 61 s.node s.cost
def prefT (p : Prefix) : List UInt8 := pairT 47 p.addr p.bits
def adjT (d : Bool) (l : List Side) : List UInt8 := if d then 33 :: Lib.join (l.map sideT) [44] else Lib.join (l.map sideT) [44]
def prefsT (l : List Prefix) : List UInt8 := Lib.join (l.map prefT) [44]
def pairD (b : UInt8) (s : List UInt8) : Option (Int × Int) :=
 if (cutB b s).2.2 = true /\ 0 <= numD 100000 (cutB b s).1 /\ 0 <= numD 100000 (cutB b s).2.1 then some (numD 100000 (cutB b s).1, numD 100000 (cutB b s).2.1) else none
def pairsD (b : UInt8) : List (List UInt8) -> Option (List (Int × Int))
 | [] => some []
 | p :: r => match pairD b p with
   | none => none
   | some x => match pairsD b r with
     | none => none
     | some l => some (x :: l)
theorem pairsD_snoc (b : UInt8) : ∀ (l : List (List UInt8)) (p : List UInt8), pairsD b (l ++ [p]) = match pairsD b l with
  | none => none
  | some a => match pairD b p with
    | none => none
    | some x => some (a ++ [x])
 | [], p => by
   rw [List.nil_append]
   unfold pairsD
   rcases pairD b p with _ | x <;> rfl
 | q :: l, p => by
   rw [zbW]
   unfold pairsD
   rcases pairD b q with _ | y
   · rfl
   · simp only
     rw [pairsD_snoc b l p]
     rcases pairsD b l with _ | a
     · rfl
     · simp only
       rcases pairD b p with _ | x <;> rfl
theorem pairsD_fail (b : UInt8) : ∀ {l : List (List UInt8)} {k : Nat} {p : List UInt8}, l[k]? = some p -> pairD b p = none -> pairsD b l = none
 | [], k, p, h, _ => by simp at h
 | q :: l, 0, p, h, hp => by
   simp at h; subst h
   unfold pairsD; rw [hp]
 | q :: l, k + 1, p, h, hp => by
   unfold pairsD
   rw [pairsD_fail b (l := l) (k := k) (by simpa using h) hp]
   split <;> rfl
theorem pairsD_len (b : UInt8) : ∀ {l : List (List UInt8)} {a : List (Int × Int)}, pairsD b l = some a -> a.length = l.length
 | [], a, h => by simp [pairsD] at h; subst h; rfl
 | q :: l, a, h => by
   unfold pairsD at h
   rcases hq : pairD b q with _ | y
   · rw [hq] at h; cases h
   · rcases hl : pairsD b l with _ | m
     · rw [hq, hl] at h; cases h
     · rw [hq, hl] at h; simp at h; subst h
       simp [pairsD_len b hl]
theorem num_le (most : Int) (h : -1 <= most) (s : List UInt8) : -1 <= numD most s /\ numD most s <= most := by
 by_cases h0 : 0 <= numD most s
 · obtain ⟨n, _, hn, he⟩ := num_inv h0
   omega
 · rw [num_neg h0]; omega
def readAdj (s : List UInt8) : Bool × List Side × Int :=
 match pairsD 61 (partsC (Lib.trimPrefix s [33])) with
 | none => (false, [], 4)
 | some l => if chkSides (l.map fun x => ⟨x.1, x.2⟩) = 0 then (Lib.hasPrefix s [33], l.map fun x => ⟨x.1, x.2⟩, 0) else (false, [], chkSides (l.map fun x => ⟨x.1, x.2⟩))
def readPrefs (s : List UInt8) : List Prefix × Int :=
 match pairsD 47 (partsC s) with
 | none => ([], 4)
 | some l => if chkPrefs (l.map fun x => ⟨x.1, x.2⟩) = 0 then (l.map fun x => ⟨x.1, x.2⟩, 0) else ([], chkPrefs (l.map fun x => ⟨x.1, x.2⟩))
end
end Go.Proofs.YtojojpjldkpmoaaGreatDoor
