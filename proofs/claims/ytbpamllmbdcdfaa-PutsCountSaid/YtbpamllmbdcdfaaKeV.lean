/-
  What Put does to a store of raw things: plain lemmas, no program in sight.
-/
import Derived.Test.YtbpamllmbdcdfaaKeR
namespace Go.Proofs.Ytbpamllmbdcdfaa
open Go.RowKit

def few (s : List Entry) : Prop := ∀ e ∈ s, e.version ≤ 4
theorem rawE_few (r : Raw) : (rawE r).version ≤ 4 := by
  have h2 := pickN_lt r.a 4 (by omega)
  unfold rawE
  simp only
  omega
theorem oneS_few {s : List Entry} (h : OkS s) (hf : few s) (r : Raw) : few (oneS s r) := by
  have hw : few (withE s (rawE r)) := by
    intro e he
    rw [mem_withE h.ord] at he
    rcases he with rfl | ⟨he, _⟩
    · exact rawE_few r
    · exact hf e he
  unfold oneS mergeStep
  split
  · split
    · exact hw
    · exact hf
  · split
    · exact hw
    · exact hf
theorem foldl_one_few : ∀ (l : List Raw) (s : List Entry), OkS s → few s → few (l.foldl oneS s)
  | [], _, _, h => h
  | r :: l, _, h, hf => foldl_one_few l _ (oneS_ok h r) (oneS_few h hf r)
theorem stoS_few (l : List Raw) : few (stoS l) := foldl_one_few l [] OkS.nil (by intro e he; simp at he)

def putN (s : List Entry) (n : Int) (e : Entry) : Entry := ⟨e.key, (getS s e.key).1.version + 1, n, e.value⟩
theorem put_get {s : List Entry} (h : OkS s) (hf : few s) (hl : s.length ≤ 20) (e : Entry) (he : entryOk e = true) (n : Int) (h0 : 0 ≤ n) (h1 : n ≤ 11) :
    putS s n e.key e.value = (withE s (putN s n e), 0) ∧ entryOk (putN s n e) = true ∧ OkS (withE s (putN s n e)) ∧ (∀ o, findE s e.key = some o → aboveE (putN s n e) o = true) := by
  have hkk : keyOk e.key = true := by
    unfold entryOk at he
    simp only [Bool.and_eq_true] at he
    exact he.1.1.1.1.1
  obtain ⟨b1, b2, b3, b4, b5, b6, b7⟩ := entryOk_bounds he
  have hv : 0 ≤ (getS s e.key).1.version ∧ (getS s e.key).1.version ≤ 4 ∧ ∀ o, findE s e.key = some o → (getS s e.key).1 = o := by
    unfold getS
    rw [if_pos h.check]
    rcases hfe : findE s e.key with _ | o
    · exact ⟨by decide, by decide, fun o ho => by cases ho⟩
    · have hm := (findE_key hfe).2
      have := hf o hm
      obtain ⟨_, _, c3, _⟩ := entryOk_bounds (h.ok o hm)
      simp only
      exact ⟨by omega, this, fun o' ho => by injection ho⟩
  have hok : entryOk (putN s n e) = true := by
    unfold entryOk putN
    simp only [hkk, Bool.true_and, Bool.and_eq_true, decide_eq_true_eq]
    omega
  refine ⟨?_, hok, withE_ok h hok (.inr (by omega)), fun o ho => ?_⟩
  · rcases hfe : findE s e.key with _ | o
    · have hh : hasE s e.key = false := by
        rcases hh : hasE s e.key with _ | _
        · rfl
        · obtain ⟨hl2, hk⟩ := (hasE_iff h.ord _).1 hh
          rw [findE_some h.ord _ hl2 hk] at hfe; cases hfe
      rw [put_new h.check ⟨h0, h1⟩ hkk b7 hh (by omega)]
      unfold putN getS
      rw [if_pos h.check, hfe]
      rfl
    · have := hf o (findE_key hfe).2
      rw [put_old h.check ⟨h0, h1⟩ hkk b7 hfe (by omega)]
      unfold putN getS
      rw [if_pos h.check, hfe]
  · have e1 := hv.2.2 o ho
    unfold aboveE putN
    rw [e1]
    simp only
    rw [if_pos (by omega)]
    simp
    omega
theorem get_put {s : List Entry} (h : OkS s) (x : Entry) (hx : OkS (withE s x)) : getS (withE s x) x.key = (x, 0) := by
  unfold getS
  rw [if_pos hx.check, find_with_same h.ord]
theorem find_filter (l : List Entry) (key k : ByteArray) : findE (l.filter (fun x => !(x.key.toList == key.toList))) k = if k = key then none else findE l k := by
  unfold findE
  rw [List.find?_filter]
  by_cases e : k = key
  · subst e
    rw [if_pos rfl, List.find?_eq_none]
    intro x _
    simp
    intro h1 h2
    exact h1 (by rw [h2])
  · rw [if_neg e]
    congr 1
    funext x
    by_cases h2 : x.key = k
    · have : (x.key.toList == key.toList) = false := by
        simp only [beq_eq_false_iff_ne, ne_eq]
        intro hc
        exact e (h2 ▸ toList_inj hc)
      simp [h2]
      intro hc
      exact e (toList_inj hc)
    · simp [h2]
theorem filter_put {s : List Entry} (h : OkS s) (x : Entry) (hx : OkS (withE s x)) : (withE s x).filter (fun y => !(y.key.toList == x.key.toList)) = s.filter (fun y => !(y.key.toList == x.key.toList)) :=
  store_ext (hx.ord.filter _) (h.ord.filter _) fun k => by
    rw [find_filter, find_filter]
    by_cases e : k = x.key
    · rw [if_pos e, if_pos e]
    · rw [if_neg e, if_neg e, find_with_other h.ord x e]
theorem merge_put {s : List Entry} (h : OkS s) (hl : s.length ≤ 20) (x : Entry) (hx : OkS (withE s x)) (ha : ∀ o, findE s x.key = some o → aboveE x o = true) : (mergeS aboveE s (withE s x)).1 = withE s x := by
  have hle := withE_len_le h.ord x
  refine store_ext (merge_okS h hx).ord hx.ord fun k => ?_
  rw [merge_find h hx (by omega)]
  by_cases e : k = x.key
  · subst e
    rw [find_with_same h.ord]
    rcases hfe : findE s x.key with _ | o
    · rfl
    · simp [mx, ha o hfe]
  · rw [find_with_other h.ord x e]
    exact mx_idem _
end Go.Proofs.Ytbpamllmbdcdfaa
