/-
  
-/
import Derived.Test.YtojojpjldkpmoaaGreatDoorGStG
set_option linter.unusedVariables false
set_option linter.unusedSimpArgs false
set_option maxHeartbeats 16000000
namespace Go.Proofs.YtojojpjldkpmoaaGreatDoor
open Go.RowKit
def pByte : List UInt8 -> Except Int (Int × List UInt8)
 | [] => .error 5
 | c :: r => .ok ((c.toNat : Int), r)
def pNumGo (i n : Nat) : List UInt8 -> Except Int (Int × List UInt8)
 | [] => .error 5
 | c :: r => if i = 7 ∨ (0 < i /\ c.toNat = 0) then .error 4 else
   if c.toNat < 128 then .ok (((n + c.toNat % 128 * 128 ^ i : Nat) : Int), r) else pNumGo (i + 1) (n + c.toNat % 128 * 128 ^ i) r
def pNum : List UInt8 -> Except Int (Int × List UInt8) := pNumGo 0 0
def pText : List UInt8 -> Except Int (ByteArray × List UInt8)
 | [] => .error 5
 | c :: r => if r.length < c.toNat then .error 5 else .ok (⟨(r.take c.toNat).toArray⟩, r.drop c.toNat)
theorem pText_cons (c : UInt8) (r : List UInt8) : pText (c :: r) = if r.length < c.toNat then .error 5 else .ok (⟨(r.take c.toNat).toArray⟩, r.drop c.toNat) := rfl
def pEntry (l : List UInt8) : Except Int (Entry × List UInt8) :=
 match pText l with
 | .error e => .error e
 | .ok (k, l1) => match pNum l1 with
   | .error e => .error e
   | .ok (v, l2) => match pByte l2 with
     | .error e => .error e
     | .ok (o, l3) => match pText l3 with
       | .error e => .error e
       | .ok (x, l4) => .ok (⟨k, v, o, x⟩, l4)
def pMany : Nat -> List UInt8 -> Except Int (List Entry × List UInt8)
 | 0, l => .ok ([], l)
 | k + 1, l => match pEntry l with
   | .error e => .error e
   | .ok (x, l1) => match pMany k l1 with
     | .error e => .error e
     | .ok (xs, l2) => .ok (x :: xs, l2)
def decBody (l : List UInt8) : List Entry × Int :=
 match pByte l with
 | .error e => ([], e)
 | .ok (n, l1) => match pMany n.toNat l1 with
   | .error e => ([], e)
   | .ok (es, r) => if r ≠ [] then ([], 4) else if checkS es ≠ 0 then ([], checkS es) else (es, 0)
def decS (b : List UInt8) : List Entry × Int :=
 if 20000 < b.length then ([], 1) else if b.length < 6 then ([], 5) else if b.head? ≠ some 116 then ([], 4) else
 if sealB (b.take (b.length - 4)) ≠ b.drop (b.length - 4) then ([], 9) else decBody ((b.take (b.length - 4)).drop 1)
theorem pByte_err {l : List UInt8} {e : Int} (h : pByte l = .error e) : e ≠ 0 := by
 cases l <;> simp [pByte] at h; omega
theorem pNumGo_err : ∀ (l : List UInt8) (i n : Nat) (e : Int), pNumGo i n l = .error e -> e ≠ 0
 | [], i, n, e, h => by simp [pNumGo] at h; omega
 | c :: r, i, n, e, h => by
   unfold pNumGo at h
   split at h
   · injection h with h; omega
   · split at h
     · cases h
     · exact pNumGo_err r _ _ e h
theorem pText_err {l : List UInt8} {e : Int} (h : pText l = .error e) : e ≠ 0 := by
 cases l with
 | nil => simp [pText] at h; omega
 | cons c r =>
   rw [pText_cons] at h
   by_cases hl : r.length < c.toNat
   · rw [if_pos hl] at h; injection h with h; omega
   · rw [if_neg hl] at h; cases h
theorem pEntry_err {l : List UInt8} {e : Int} (h : pEntry l = .error e) : e ≠ 0 := by
 unfold pEntry at h
 rcases h1 : pText l with e1 | ⟨k, l1⟩ <;> rw [h1] at h <;> simp only at h
 · injection h with h; subst h; exact pText_err h1
 rcases h2 : pNum l1 with e1 | ⟨v, l2⟩ <;> rw [h2] at h <;> simp only at h
 · injection h with h; subst h; exact pNumGo_err _ _ _ _ h2
 rcases h3 : pByte l2 with e1 | ⟨o, l3⟩ <;> rw [h3] at h <;> simp only at h
 · injection h with h; subst h; exact pByte_err h3
 rcases h4 : pText l3 with e1 | ⟨x, l4⟩ <;> rw [h4] at h <;> simp only at h
 · injection h with h; subst h; exact pText_err h4
 · cases h
theorem pMany_err : ∀ (k : Nat) (l : List UInt8) (e : Int), pMany k l = .error e -> e ≠ 0
 | 0, l, e, h => by simp [pMany] at h
 | k + 1, l, e, h => by
   unfold pMany at h
   rcases h1 : pEntry l with e1 | ⟨x, l1⟩ <;> rw [h1] at h <;> simp only at h
   · injection h with h; subst h; exact pEntry_err h1
   rcases h2 : pMany k l1 with e1 | ⟨xs, l2⟩ <;> rw [h2] at h <;> simp only at h
   · injection h with h; subst h; exact pMany_err _ _ _ h2
   · cases h
theorem b8_of (c : UInt8) : b8 (c.toNat : Int) = c := by
 unfold b8; rw [zaL]; simp
theorem pByte_inv {l r : List UInt8} {n : Int} (h : pByte l = .ok (n, r)) : l = b8 n :: r /\ 0 <= n /\ n <= 255 := by
 cases l with
 | nil => simp [pByte] at h
 | cons c s =>
   simp only [pByte, Except.ok.injEq, Prod.mk.injEq] at h
   obtain ⟨rfl, rfl⟩ := h
   have := c.toNat_lt
   exact ⟨by rw [b8_of], by omega, by omega⟩
theorem pText_inv {l r : List UInt8} {s : ByteArray} (h : pText l = .ok (s, r)) : l = b8 s.size :: (s.data.toList ++ r) := by
 cases l with
 | nil => simp [pText] at h
 | cons c t =>
   rw [pText_cons] at h
   by_cases hl : t.length < c.toNat
   · rw [if_pos hl] at h; cases h
   · rw [if_neg hl] at h
     simp only [Except.ok.injEq, Prod.mk.injEq] at h
     obtain ⟨rfl, rfl⟩ := h
     have hs : (⟨(t.take c.toNat).toArray⟩ : ByteArray).size = c.toNat := by
      show (t.take c.toNat).toArray.size = _
      rw [zaW, zaq]; omega
     rw [hs, b8_of]
     simp
theorem pNumGo_inv : ∀ (l : List UInt8) (i n : Nat) (m : Int) (r : List UInt8), pNumGo i n l = .ok (m, r) -> ∃ q : Nat, m = ((n + q * 128 ^ i : Nat) : Int) /\ l = sev q ++ r /\ (0 < i -> 0 < q)
 | [], i, n, m, r, h => by simp [pNumGo] at h
 | c :: t, i, n, m, r, h => by
   unfold pNumGo at h
   split at h
   · cases h
   · rename_i hi
     split at h
     · rename_i hc
       simp only [Except.ok.injEq, Prod.mk.injEq] at h
       obtain ⟨rfl, rfl⟩ := h
       refine ⟨c.toNat, by rw [zbM hc], by rw [sev_small hc, b8_of]; rfl, fun h0 => ?_⟩
       rcases zaJ c.toNat with e | e
       · exact absurd (Or.inr ⟨h0, e⟩) hi
       · exact e
     · rename_i hc
       obtain ⟨q, h1, h2, h3⟩ := pNumGo_inv t _ _ m r h
       have hq := h3 (by omega)
       have hlt := c.toNat_lt
       refine ⟨c.toNat % 128 + 128 * q, ?_, ?_, fun _ => by omega⟩
       · rw [h1]
         congr 1
         rw [Nat.pow_succ, Nat.add_mul, Nat.mul_comm (128 ^ i) 128, <- Nat.mul_assoc, Nat.mul_comm q 128]; omega
       · rw [sev_big (by omega), h2]
         have e1 : (c.toNat % 128 + 128 * q) % 128 = c.toNat % 128 := by omega
         have e2 : (c.toNat % 128 + 128 * q) / 128 = q := by omega
         have e3 : 128 + c.toNat % 128 = c.toNat := by omega
         rw [e1, e2, e3, b8_of]; rfl
theorem pNum_inv {l r : List UInt8} {m : Int} (h : pNum l = .ok (m, r)) : 0 <= m /\ l = sev m.toNat ++ r := by
 obtain ⟨q, rfl, h2, _⟩ := pNumGo_inv l 0 0 m r h
 simp only [zaM, Nat.pow_zero, Nat.mul_one]
 exact ⟨zaf _, by simpa using h2⟩
theorem pEntry_inv {l r : List UInt8} {x : Entry} (h : pEntry l = .ok (x, r)) : l = encE x ++ r := by
 unfold pEntry at h
 rcases h1 : pText l with e1 | ⟨k, l1⟩ <;> rw [h1] at h <;> simp only at h
 · cases h
 rcases h2 : pNum l1 with e1 | ⟨v, l2⟩ <;> rw [h2] at h <;> simp only at h
 · cases h
 rcases h3 : pByte l2 with e1 | ⟨o, l3⟩ <;> rw [h3] at h <;> simp only at h
 · cases h
 rcases h4 : pText l3 with e1 | ⟨y, l4⟩ <;> rw [h4] at h <;> simp only at h
 · cases h
 · simp only [Except.ok.injEq, Prod.mk.injEq] at h
   obtain ⟨rfl, rfl⟩ := h
   rw [pText_inv h1, (pNum_inv h2).2, (pByte_inv h3).1, pText_inv h4]
   unfold encE
   simp
theorem pMany_inv : ∀ (k : Nat) (l : List UInt8) (xs : List Entry) (r : List UInt8), pMany k l = .ok (xs, r) -> l = (xs.map encE).flatten ++ r /\ xs.length = k
 | 0, l, xs, r, h => by simp [pMany] at h; obtain ⟨rfl, rfl⟩ := h; simp
 | k + 1, l, xs, r, h => by
   unfold pMany at h
   rcases h1 : pEntry l with e1 | ⟨x, l1⟩ <;> rw [h1] at h <;> simp only at h
   · cases h
   rcases h2 : pMany k l1 with e1 | ⟨ys, l2⟩ <;> rw [h2] at h <;> simp only at h
   · cases h
   · simp only [Except.ok.injEq, Prod.mk.injEq] at h
     obtain ⟨rfl, rfl⟩ := h
     obtain ⟨g1, g2⟩ := pMany_inv k l1 ys l2 h2
     rw [pEntry_inv h1, g1]
     simp [g2]
theorem pByte_enc {n : Int} (h0 : 0 <= n) (h1 : n <= 255) (r : List UInt8) : pByte (b8 n :: r) = .ok (n, r) := by
 simp only [pByte]; rw [b8_toNat h0 h1]
theorem pText_enc {s : ByteArray} (h : s.size <= 255) (r : List UInt8) : pText (b8 s.size :: (s.data.toList ++ r)) = .ok (s, r) := by
 have hl : s.data.toList.length = s.size := size_toList s
 have hb : (b8 s.size).toNat = s.size := by
  have := b8_toNat (n := (s.size : Int)) (by omega) (by omega)
  omega
 rw [pText_cons, hb, if_neg (by rw [zah, hl]; omega), zaN (by omega), zaG (by omega), List.drop_append_of_le_length (by omega), zbY (by omega)]
 simp
theorem pNumGo_enc : ∀ (d q i n : Nat) (r : List UInt8), i + d = 6 -> q < 128 ^ (d + 1) -> (0 < i -> 0 < q) -> pNumGo i n (sev q ++ r) = .ok (((n + q * 128 ^ i : Nat) : Int), r) := by
 intro d
 induction d with
 | zero =>
   intro q i n r hi hq h0
   have hq' : q < 128 := by omega
   have hb : (b8 q).toNat = q := by have := b8_toNat (n := (q : Int)) (by omega) (by omega); omega
   rw [sev_small hq', List.singleton_append]
   unfold pNumGo
   rw [hb, if_neg (by omega), if_pos hq', zbM hq']
 | succ d ih =>
   intro q i n r hi hq h0
   by_cases hq' : q < 128
   · have hb : (b8 q).toNat = q := by have := b8_toNat (n := (q : Int)) (by omega) (by omega); omega
     rw [sev_small hq', List.singleton_append]
     unfold pNumGo
     rw [hb, if_neg (by omega), if_pos hq', zbM hq']
   · have hb : (b8 (128 + q % 128 : Nat)).toNat = 128 + q % 128 := by have := b8_toNat (n := ((128 + q % 128 : Nat) : Int)) (by omega) (by omega); omega
     rw [sev_big hq', zbW]
     unfold pNumGo
     rw [hb, if_neg (by omega), if_neg (by omega), ih (q / 128) (i + 1) _ r (by omega) (by rw [Nat.div_lt_iff_lt_mul (by omega)]; rwa [Nat.pow_succ] at hq) (by omega)]
     congr 2
     have e1 : (128 + q % 128) % 128 = q % 128 := by omega
     rw [e1, Nat.pow_succ, Nat.add_assoc, Nat.mul_comm (128 ^ i) 128, <- Nat.mul_assoc, <- Nat.add_mul]
     have e2 : q % 128 + q / 128 * 128 = q := by omega
     rw [e2]
theorem pEntry_enc {x : Entry} (h : entryOk x = true) (r : List UInt8) : pEntry (encE x ++ r) = .ok (x, r) := by
 obtain ⟨h1, h2, h3, h4, h5, h6, h7⟩ := entryOk_bounds h
 have e : encE x ++ r = b8 x.key.size :: (x.key.data.toList ++ (sev x.version.toNat ++ (b8 x.origin :: (b8 x.value.size :: (x.value.data.toList ++ r))))) := by unfold encE; simp
 have hn := pNumGo_enc 6 x.version.toNat 0 0 (b8 x.origin :: (b8 x.value.size :: (x.value.data.toList ++ r))) rfl (by omega) (by omega)
 have hv : ((0 + x.version.toNat * 128 ^ 0 : Nat) : Int) = x.version := by omega
 rw [hv] at hn
 rw [e]
 unfold pEntry pNum
 rw [pText_enc (by omega)]
 simp only
 rw [hn]
 simp only
 rw [pByte_enc (by omega) (by omega)]
 simp only
 rw [pText_enc (by omega)]
theorem pMany_enc : ∀ (xs : List Entry) (r : List UInt8), (∀ e ∈ xs, entryOk e = true) -> pMany xs.length ((xs.map encE).flatten ++ r) = .ok (xs, r)
 | [], r, _ => by simp [pMany]
 | x :: xs, r, h => by
   rw [zaH, zaE, zaS, zaw]
   unfold pMany
   rw [pEntry_enc (h x (by simp))]
   simp only
   rw [pMany_enc xs r (fun e he => h e (by simp [he]))]
theorem decBody_ok {l : List UInt8} {xs : List Entry} (h : decBody l = (xs, 0)) : checkS xs = 0 /\ l = b8 xs.length :: (xs.map encE).flatten := by
 unfold decBody at h
 rcases h1 : pByte l with e1 | ⟨n, l1⟩ <;> rw [h1] at h <;> simp only at h
 · injection h with _ h; exact absurd h (pByte_err h1)
 rcases h2 : pMany n.toNat l1 with e1 | ⟨ys, l2⟩ <;> rw [h2] at h <;> simp only at h
 · injection h with _ h; exact absurd h (pMany_err _ _ _ h2)
 obtain ⟨g1, g2, g3⟩ := pByte_inv h1
 obtain ⟨k1, k2⟩ := pMany_inv _ _ _ _ h2
 split at h
 · injection h with _ h; cases h
 · rename_i hr
   have hr' : l2 = [] := by simpa using hr
   split at h
   · rename_i hc
     injection h with _ h; exact absurd h hc
   · rename_i hc
     injection h with h _
     subst h
     refine ⟨by simpa using hc, ?_⟩
     rw [g1, k1, hr', zbq, k2]
     congr 2
     omega
theorem decS_ok {b : List UInt8} {xs : List Entry} (h : decS b = (xs, 0)) : checkS xs = 0 /\ encS xs = b := by
 unfold decS at h
 split at h
 · injection h with _ h; cases h
 split at h
 · injection h with _ h; cases h
 rename_i _ h6
 split at h
 · injection h with _ h; cases h
 rename_i hh
 split at h
 · injection h with _ h; cases h
 rename_i hs
 obtain ⟨h1, h2⟩ := decBody_ok h
 refine ⟨h1, ?_⟩
 have hs' : sealB (b.take (b.length - 4)) = b.drop (b.length - 4) := by simpa using hs
 have hB : b.take (b.length - 4) = encB xs := by
  unfold encB
  rw [<- h2]
  cases b with
  | nil => simp at h6
  | cons c t =>
    have hc : c = 116 := by simpa using hh
    subst hc
    simp only [zaw] at h6 ⊢
    have e : t.length + 1 - 4 = (t.length - 4) + 1 := by omega
    rw [e, zbd]
    simp
 rw [hB] at hs'
 unfold encS
 rw [hs', <- hB, List.take_append_drop]
theorem encS_len (xs : List Entry) (h : OkS xs) : 6 <= (encS xs).length /\ (encS xs).length <= 10000 /\ (encB xs).length = (encS xs).length - 4 := by
 have h1 := encTo_len h.ok xs.length (zab _)
 rw [encTo_end xs _ (zab _)] at h1
 have h2 := h.len
 unfold encS
 rw [zah]
 have h3 : (sealB (encB xs)).length = 4 := rfl
 have h4 : 2 <= (encB xs).length := by unfold encB; simp
 omega
theorem decS_enc {xs : List Entry} (h : OkS xs) : decS (encS xs) = (xs, 0) := by
 obtain ⟨h1, h2, h3⟩ := encS_len xs h
 have ht : (encS xs).take ((encS xs).length - 4) = encB xs := by
  rw [<- h3]; unfold encS; rw [zaN (zab _), zaP]
 have hd : (encS xs).drop ((encS xs).length - 4) = sealB (encB xs) := by
  rw [<- h3]; unfold encS; rw [List.drop_append_of_le_length (zab _), List.drop_length, List.nil_append]
 unfold decS
 rw [if_neg (by omega), if_neg (by omega), if_neg (by simp [encS, encB]), ht, hd, if_neg (by simp)]
 unfold encB decBody
 have h60 := h.len
 simp only [zby, List.drop_zero]
 rw [pByte_enc (by omega) (by omega)]
 simp only [zaL]
 have hm := pMany_enc xs [] h.ok
 rw [zbq] at hm
 rw [hm]
 simp [h.check]
theorem sums_fst (l : List UInt8) : (sums l).1 = (1 + ((l.map fun c => (c.toNat : Int)).sum)) % 65521 := by
 suffices h : ∀ (l : List UInt8) (p : Int × Int), 0 <= p.1 -> p.1 < 65521 -> (l.foldl (fun (p : Int × Int) (c : UInt8) => let x := (p.1 + (c.toNat : Int)) % 65521; (x, (p.2 + x) % 65521)) p).1 = (p.1 + ((l.map fun c => (c.toNat : Int)).sum)) % 65521 from h l (1, 0) (by simp) (by simp)
 intro l
 induction l with
 | nil => intro p h0 h1; simp; omega
 | cons c t ih =>
   intro p h0 h1
   rw [List.foldl_cons, ih _ (by simp only; omega) (by simp only; omega)]
   simp only [zaH, List.sum_cons]
   omega
theorem sum_set (l : List UInt8) (i : Nat) (h : i < l.length) (c : UInt8) : ((l.set i c).map fun c => (c.toNat : Int)).sum = (l.map fun c => (c.toNat : Int)).sum + (c.toNat : Int) - (l[i].toNat : Int) := by
 induction l generalizing i with
 | nil => simp at h
 | cons a t ih =>
   cases i with
   | zero => simp; omega
   | succ i =>
     have := ih i (by simpa using h)
     simp only [zbH, zaH, List.sum_cons, zbK, this]
     omega
theorem sealB_fst {l m : List UInt8} (h : sealB l = sealB m) : (sums l).1 = (sums m).1 := by
 unfold sealB at h
 simp only [List.cons.injEq, and_true] at h
 obtain ⟨_, _, h3, h4⟩ := h
 obtain ⟨a1, a2, _, _⟩ := sums_lt l
 obtain ⟨b1, b2, _, _⟩ := sums_lt m
 have e3 := b8_inj (by omega) (by omega) (by omega) (by omega) h3
 have e4 := b8_inj (by omega) (by omega) (by omega) (by omega) h4
 omega
theorem decS_spoilt {xs : List Entry} (h : OkS xs) (i : Nat) (hi : i < (encS xs).length) (c : UInt8) (hc : c ≠ (encS xs)[i]) : (decS ((encS xs).set i c)).2 ≠ 0 := by
 intro h0
 obtain ⟨l, e, hl⟩ : ∃ l e, decS ((encS xs).set i c) = (l, e) := ⟨_, _, rfl⟩
 rw [hl] at h0
 simp only at h0
 subst h0
 obtain ⟨g1, g2⟩ := decS_ok hl
 have gl := okS_of g1
 obtain ⟨l1, l2, l3⟩ := encS_len l gl
 obtain ⟨x1, x2, x3⟩ := encS_len xs h
 have hlen : (encB l).length = (encB xs).length := by
  have := congrArg List.length g2
  rw [zbx] at this
  omega
 have hs3 : ∀ m : List UInt8, (sealB m).length = 4 := fun _ => rfl
 by_cases hb : i < (encB xs).length
 · have e1 : encB l ++ sealB (encB l) = (encB xs).set i c ++ sealB (encB xs) := by
    have : (encS xs).set i c = (encB xs).set i c ++ sealB (encB xs) := by unfold encS; rw [List.set_append_left _ _ hb]
    rw [<- this, <- g2]; rfl
   obtain ⟨e2, e3⟩ := List.append_inj e1 (by rw [zbx]; exact hlen)
   have e4 := sealB_fst e3
   rw [sums_fst, sums_fst, e2, sum_set _ _ hb] at e4
   have hne : c.toNat ≠ (encB xs)[i].toNat := by
    intro e
    apply hc
    have : c = (encB xs)[i] := UInt8.toNat_inj.1 e
    exact this.trans (List.getElem_append_left (bs := sealB (encB xs)) hb).symm
   have r1 := c.toNat_lt
   have r2 := (encB xs)[i].toNat_lt
   omega
 · have e1 : encB l ++ sealB (encB l) = encB xs ++ (sealB (encB xs)).set (i - (encB xs).length) c := by
    have : (encS xs).set i c = encB xs ++ (sealB (encB xs)).set (i - (encB xs).length) c := by unfold encS; rw [zca _ _ (by omega)]
    rw [<- this, <- g2]; rfl
   obtain ⟨e2, e3⟩ := List.append_inj e1 hlen
   rw [e2] at e3
   apply hc
   have hi' : i - (encB xs).length < (sealB (encB xs)).length := by rw [hs3]; unfold encS at hi; rw [zah, hs3] at hi; omega
   have e4 : (sealB (encB xs))[i - (encB xs).length]? = some c := by
    rw [e3, zbw hi']
   rw [zac hi'] at e4
   injection e4 with e4
   exact e4.symm.trans (List.getElem_append_right (bs := sealB (encB xs)) (show (encB xs).length <= i by omega)).symm
end Go.Proofs.YtojojpjldkpmoaaGreatDoor
