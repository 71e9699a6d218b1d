/-
  Merging stores in whatever order: plain lemmas, no program in sight.
-/
import Derived.Test.YtbpamllmbdcdfaaKeP
namespace Go.Proofs.Ytbpamllmbdcdfaa
open Go.RowKit

/-- stores in order are the same where the same is found in them -/
theorem store_ext : ∀ {a b : List Entry}, a.Pairwise ltE → b.Pairwise ltE → (∀ k, findE a k = findE b k) → a = b
  | [], [], _, _, _ => rfl
  | [], y :: b, _, _, h => by
    have := h y.key
    simp [findE] at this
  | x :: a, [], _, _, h => by
    have := h x.key
    simp [findE] at this
  | x :: a, y :: b, ha, hb, h => by
    have hx : ∀ e ∈ a, ltB x.key e.key = true := fun e he => List.rel_of_pairwise_cons ha he
    have hy : ∀ e ∈ b, ltB y.key e.key = true := fun e he => List.rel_of_pairwise_cons hb he
    have fx : findE (y :: b) x.key = some x := by rw [← h]; simp [findE]
    have fy : findE (x :: a) y.key = some y := by rw [h]; simp [findE]
    have hxy : x = y := by
      obtain ⟨m1, _⟩ := (find_iff hb _ _).1 fx
      obtain ⟨m2, _⟩ := (find_iff ha _ _).1 fy
      rcases List.mem_cons.1 m1 with e | m1
      · exact e
      · rcases List.mem_cons.1 m2 with e | m2
        · exact e.symm
        · have h1 := hy x m1
          have h2 := hx y m2
          rw [ltB_asymm h1] at h2; cases h2
    subst hxy
    have ht : a = b := store_ext (List.Pairwise.of_cons ha) (List.Pairwise.of_cons hb) (fun k => by
      have hk := h k
      by_cases e : x.key = k
      · subst e
        have n1 : findE a x.key = none := (find_none_iff _).2 (fun e he hk => by have := hx e he; rw [hk, ltB_irrefl] at this; cases this)
        have n2 : findE b x.key = none := (find_none_iff _).2 (fun e he hk => by have := hy e he; rw [hk, ltB_irrefl] at this; cases this)
        rw [n1, n2]
      · simpa [findE, e] using hk)
    rw [ht]

/-- the greater one of two -/
def mx (o p : Option Entry) : Option Entry :=
  match o, p with
  | none, p => p
  | o, none => o
  | some a, some b => if aboveE b a = true then some b else some a
theorem above_same {a b : Entry} (hk : a.key = b.key) (h1 : aboveE a b = false) (h2 : aboveE b a = false) : a = b := by
  unfold aboveE at h1 h2
  by_cases v : a.version = b.version
  · by_cases o : a.origin = b.origin
    · rw [if_neg (by simp [v]), if_neg (by simp [o])] at h1
      rw [if_neg (by simp [v]), if_neg (by simp [o])] at h2
      have hv := ltB_total h1 h2
      cases a; cases b
      simp_all
    · rw [if_neg (by simp [v]), if_pos o] at h1
      rw [if_neg (by simp [v]), if_pos (Ne.symm o)] at h2
      simp at h1 h2; omega
  · rw [if_pos v] at h1
    rw [if_pos (Ne.symm v)] at h2
    simp at h1 h2; omega
theorem above_asymm {a b : Entry} (h : aboveE a b = true) : aboveE b a = false := by
  have := above_lift (e := b) (g := b) (y := a) (above_irrefl b) h
  exact this
theorem above_trans {a b c : Entry} (h1 : aboveE a b = true) (h2 : aboveE b c = true) : aboveE a c = true := by
  rcases h : aboveE a c with _ | _
  · have := above_lift (e := a) (g := c) (y := b) h h2
    rw [h1] at this; cases this
  · rfl
def keyed (o : Option Entry) (k : ByteArray) : Prop := ∀ e, o = some e → e.key = k
theorem find_keyed (l : List Entry) (k : ByteArray) : keyed (findE l k) k := fun _ h => (findE_key h).1
theorem mx_comm {o p : Option Entry} {k : ByteArray} (ho : keyed o k) (hp : keyed p k) : mx o p = mx p o := by
  rcases o with _ | a <;> rcases p with _ | b <;> simp only [mx]
  rcases h1 : aboveE b a with _ | _ <;> rcases h2 : aboveE a b with _ | _ <;> simp
  · exact above_same ((ho a rfl).trans (hp b rfl).symm) h2 h1
  · rw [above_asymm h1] at h2; cases h2
theorem above_neg {a b c : Entry} (h1 : aboveE b a = false) (h2 : aboveE c b = false) : aboveE c a = false := by
  rcases h : aboveE c a with _ | _
  · rfl
  · have h3 := above_lift (e := b) (g := a) (y := c) h1 h
    unfold aboveE at h h1 h2 h3
    by_cases v : b.version = c.version
    · by_cases o : b.origin = c.origin
      · have hv : b.value = c.value := by
          rw [if_neg (by simp [v]), if_neg (by simp [o])] at h3
          rw [if_neg (by simp [v]), if_neg (by simp [o])] at h2
          exact ltB_total h2 h3
        rw [v, o, hv] at h1
        rw [h1] at h; cases h
      · rw [if_neg (by simp [v]), if_pos (Ne.symm o)] at h2
        rw [if_neg (by simp [v]), if_pos o] at h3
        simp at h2 h3; omega
    · rw [if_pos (Ne.symm v)] at h2
      rw [if_pos v] at h3
      simp at h2 h3; omega
theorem mx_assoc (o p q : Option Entry) : mx (mx o p) q = mx o (mx p q) := by
  rcases o with _ | a
  · rfl
  rcases p with _ | b
  · rfl
  rcases q with _ | c
  · rcases h : aboveE b a with _ | _ <;> simp [mx, h]
  rcases h1 : aboveE b a with _ | _ <;> rcases h2 : aboveE c b with _ | _ <;> simp [mx, h1, h2]
  · intro h3; rw [above_neg h1 h2] at h3; cases h3
  · intro h3; rw [above_trans h2 h1] at h3; cases h3
theorem mx_idem (o : Option Entry) : mx o o = o := by
  rcases o with _ | a <;> simp [mx, above_irrefl]

theorem find_take {b : List Entry} (hb : b.Pairwise ltE) {n : Nat} (hn : n < b.length) (k : ByteArray) : findE (b.take (n + 1)) k = if b[n].key = k then some b[n] else findE (b.take n) k := by
  rw [List.take_succ_eq_append_getElem hn]
  unfold findE
  rw [List.find?_append]
  by_cases e : b[n].key = k
  · have hnone : (b.take n).find? (fun e => decide (e.key = k)) = none := by
      rw [List.find?_eq_none]
      intro x hx hk
      obtain ⟨i, hi, rfl⟩ := List.getElem_of_mem hx
      rw [List.length_take] at hi
      rw [List.getElem_take] at hk
      have := Pairwise_lt hb (i := i) (j := n) (by omega) hn
      rw [of_decide_eq_true hk, e, ltB_irrefl] at this
      cases this
    rw [hnone, if_pos e]
    simp [e]
  · rw [if_neg e]
    simp [e]
theorem mTo_len_le {a b : List Entry} (ha : OkS a) (hb : ∀ e ∈ b, entryOk e = true) : ∀ n, n ≤ b.length → (mTo a b n).1.length ≤ a.length + n
  | 0, _ => Nat.le_refl _
  | n + 1, hn => by
    rw [mTo_succ a b n (by omega)]
    have h1 := mTo_len_le ha hb n (by omega)
    have hp := (mTo_ok ha hb n).ord
    unfold mergeStep
    split
    · split
      · simp only; rw [withE_len hp]; split <;> omega
      · omega
    · split
      · simp only; rw [withE_len hp]; split <;> omega
      · omega
/-- of each key the greater entry, where there is room -/
theorem mTo_find {a b : List Entry} (ha : OkS a) (hb : OkS b) (hr : a.length + b.length ≤ 60) : ∀ n, n ≤ b.length → ∀ k, findE (mTo a b n).1 k = mx (findE a k) (findE (b.take n) k)
  | 0, _, k => by
    have : findE (b.take 0) k = none := by simp [findE]
    rw [this]
    show findE a k = _
    rcases findE a k with _ | e <;> rfl
  | n + 1, hn, k => by
    have hn' : n < b.length := by omega
    have ih := mTo_find ha hb hr n (by omega)
    have hp := mTo_ok ha hb.ok n
    have hpl := mTo_len_le ha hb.ok n (by omega)
    rw [mTo_succ a b n hn', find_take hb.ord hn']
    obtain ⟨y, hy⟩ : ∃ y, b[n] = y := ⟨_, rfl⟩
    obtain ⟨p, hpe⟩ : ∃ p, mTo a b n = p := ⟨_, rfl⟩
    have hynone : findE (b.take n) y.key = none := by
      rw [find_none_iff]
      intro e he hk
      obtain ⟨i, hi, rfl⟩ := List.getElem_of_mem he
      rw [List.length_take] at hi
      rw [List.getElem_take] at hk
      have := Pairwise_lt hb.ord (i := i) (j := n) (by omega) hn'
      rw [hk, hy, ltB_irrefl] at this
      cases this
    rw [hy]
    rw [hpe] at ih hp hpl ⊢
    have hpy : findE p.1 y.key = findE a y.key := by
      rw [ih y.key, hynone]
      rcases findE a y.key with _ | e <;> rfl
    unfold mergeStep
    by_cases hk : y.key = k
    · subst hk
      rw [if_pos rfl, ← hpy]
      rcases hf : findE p.1 y.key with _ | o
      · simp only
        rw [if_pos (by omega)]
        simp only
        rw [find_with_same hp.ord]
        rfl
      · simp only [mx]
        split
        · simp only; exact find_with_same hp.ord y
        · exact hf
    · rw [if_neg hk, ← ih k]
      have hk' : k ≠ y.key := fun e => hk e.symm
      split
      · split
        · simp only; exact find_with_other hp.ord y hk'
        · rfl
      · split
        · simp only; exact find_with_other hp.ord y hk'
        · rfl
theorem merge_find {a b : List Entry} (ha : OkS a) (hb : OkS b) (hr : a.length + b.length ≤ 60) (k : ByteArray) : findE (mergeS aboveE a b).1 k = mx (findE a k) (findE b k) := by
  rw [merge_ok ha.check hb.check]
  have := mTo_find ha hb hr b.length (Nat.le_refl _) k
  rw [List.take_length] at this
  exact this
theorem merge_okS {a b : List Entry} (ha : OkS a) (hb : OkS b) : OkS (mergeS aboveE a b).1 := (merge_grow ha hb).1
theorem merge_len {a b : List Entry} (ha : OkS a) (hb : OkS b) : (mergeS aboveE a b).1.length ≤ a.length + b.length := by
  rw [merge_ok ha.check hb.check]; exact mTo_len_le ha hb.ok _ (Nat.le_refl _)
theorem merge_comm {a b : List Entry} (ha : OkS a) (hb : OkS b) (hr : a.length + b.length ≤ 60) : (mergeS aboveE a b).1 = (mergeS aboveE b a).1 :=
  store_ext (merge_okS ha hb).ord (merge_okS hb ha).ord fun k => by
    rw [merge_find ha hb hr, merge_find hb ha (by omega)]
    exact mx_comm (find_keyed a k) (find_keyed b k)
theorem merge_assoc {a b c : List Entry} (ha : OkS a) (hb : OkS b) (hc : OkS c) (hr : a.length + b.length + c.length ≤ 60) : (mergeS aboveE (mergeS aboveE a b).1 c).1 = (mergeS aboveE a (mergeS aboveE b c).1).1 := by
  have l1 := merge_len ha hb
  have l2 := merge_len hb hc
  exact store_ext (merge_okS (merge_okS ha hb) hc).ord (merge_okS ha (merge_okS hb hc)).ord fun k => by
    rw [merge_find (merge_okS ha hb) hc (by omega), merge_find ha hb (by omega), merge_find ha (merge_okS hb hc) (by omega), merge_find hb hc (by omega)]
    exact mx_assoc _ _ _
theorem merge_idem {a : List Entry} (ha : OkS a) (hr : a.length + a.length ≤ 60) : (mergeS aboveE a a).1 = a :=
  store_ext (merge_okS ha ha).ord ha.ord fun k => by rw [merge_find ha ha hr]; exact mx_idem _
/-- what has been merged changes nothing -/
theorem mTo_again {m b : List Entry} (hm : OkS m) (h : ∀ e ∈ b, ∃ g, findE m e.key = some g ∧ aboveE e g = false) : ∀ n, n ≤ b.length → mTo m b n = (m, [])
  | 0, _ => rfl
  | n + 1, hn => by
    rw [mTo_succ m b n (by omega), mTo_again hm h n (by omega)]
    obtain ⟨g, h1, h2⟩ := h b[n] (List.getElem_mem _)
    unfold mergeStep
    simp only [h1, h2]
    simp
theorem merge_again {a b : List Entry} (ha : OkS a) (hb : OkS b) (hr : a.length + b.length ≤ 60) : mergeS aboveE (mergeS aboveE a b).1 b = ((mergeS aboveE a b).1, [], 0) := by
  have hm := merge_okS ha hb
  rw [merge_ok hm.check hb.check, mTo_again hm (fun e he => ?_) _ (Nat.le_refl _)]
  have hf := merge_find ha hb hr e.key
  have he' := (find_iff hb.ord e.key e).2 ⟨he, rfl⟩
  rw [he'] at hf
  rcases hfa : findE a e.key with _ | o
  · rw [hfa] at hf; exact ⟨e, hf, above_irrefl e⟩
  · rw [hfa] at hf
    simp only [mx] at hf
    rcases hab : aboveE e o with _ | _
    · rw [hab] at hf; exact ⟨o, by simpa using hf, hab⟩
    · rw [hab] at hf; exact ⟨e, by simpa using hf, above_irrefl e⟩
/-- the keys that are told: there, and not as they were -/
theorem mTo_keys {a b : List Entry} (ha : OkS a) (hb : OkS b) : ∀ n, n ≤ b.length → ∀ k ∈ (mTo a b n).2, (∃ e ∈ b.take n, e.key = k) ∧ ∃ p, findE (mTo a b n).1 k = some p ∧ p ∉ a
  | 0, _, k, h => by simp [mTo] at h
  | n + 1, hn, k, h => by
    have hn' : n < b.length := by omega
    have ih := mTo_keys ha hb n (by omega)
    have hp := mTo_ok ha hb.ok n
    rw [mTo_succ a b n hn'] at h ⊢
    have hmem : ∀ e ∈ b.take n, e ∈ b.take (n + 1) := fun e he => by rw [List.take_succ_eq_append_getElem hn']; exact List.mem_append_left _ he
    have hself : b[n] ∈ b.take (n + 1) := by rw [List.take_succ_eq_append_getElem hn']; exact List.mem_append_right _ (List.mem_singleton.2 rfl)
    have hold : ∀ k ∈ (mTo a b n).2, k ≠ b[n].key := by
      intro k hk e
      obtain ⟨⟨x, hx, hxk⟩, _⟩ := ih k hk
      obtain ⟨i, hi, rfl⟩ := List.getElem_of_mem hx
      rw [List.length_take] at hi
      rw [List.getElem_take] at hxk
      have := Pairwise_lt hb.ord (i := i) (j := n) (by omega) hn'
      rw [hxk, e, ltB_irrefl] at this
      cases this
    obtain ⟨y, hy⟩ : ∃ y, b[n] = y := ⟨_, rfl⟩
    rw [hy] at h hself hold ⊢
    have hfa : ∀ o, findE (mTo a b n).1 y.key = some o → aboveE y o = true → y ∉ a := by
      intro o ho hab hya
      obtain ⟨g, hg1, hg2⟩ := mTo_grow ha hb.ok hya n (by omega)
      rw [ho] at hg1
      injection hg1 with hg1
      subst hg1
      rw [hab] at hg2; cases hg2
    have hfn : findE (mTo a b n).1 y.key = none → y ∉ a := by
      intro hno hya
      obtain ⟨g, hg1, _⟩ := mTo_grow ha hb.ok hya n (by omega)
      rw [hno] at hg1; cases hg1
    obtain ⟨p, hpe⟩ : ∃ p, mTo a b n = p := ⟨_, rfl⟩
    rw [hpe] at h ih hp hold hfa hfn ⊢
    have take : ∀ k ∈ p.2 ++ [y.key], y ∉ a → (∃ e ∈ b.take (n + 1), e.key = k) ∧ ∃ q, findE (withE p.1 y) k = some q ∧ q ∉ a := by
      intro k hk hya
      rcases List.mem_append.1 hk with hk | hk
      · obtain ⟨⟨x, hx, hxk⟩, q, hq, hqa⟩ := ih k hk
        exact ⟨⟨x, hmem x hx, hxk⟩, q, by rw [find_with_other hp.ord y (hold k hk)]; exact hq, hqa⟩
      · simp at hk
        subst hk
        exact ⟨⟨y, hself, rfl⟩, y, find_with_same hp.ord y, hya⟩
    have keep : ∀ k ∈ p.2, (∃ e ∈ b.take (n + 1), e.key = k) ∧ ∃ q, findE p.1 k = some q ∧ q ∉ a := by
      intro k hk
      obtain ⟨⟨x, hx, hxk⟩, hq⟩ := ih k hk
      exact ⟨⟨x, hmem x hx, hxk⟩, hq⟩
    unfold mergeStep at h ⊢
    rcases hf : findE p.1 y.key with _ | o
    · rw [hf] at h
      simp only at h ⊢
      split
      · rename_i hc
        rw [if_pos hc] at h
        exact take k h (hfn hf)
      · rename_i hc
        rw [if_neg hc] at h
        exact keep k h
    · rw [hf] at h
      simp only at h ⊢
      split
      · rename_i hc
        rw [if_pos hc] at h
        exact take k h (hfa o hf hc)
      · rename_i hc
        rw [if_neg hc] at h
        exact keep k h
theorem merge_keys {a b : List Entry} (ha : OkS a) (hb : OkS b) : ∀ k ∈ (mergeS aboveE a b).2.1, ∃ p, getS (mergeS aboveE a b).1 k = (p, 0) ∧ p ∉ a := by
  intro k hk
  have hm := merge_okS ha hb
  rw [merge_ok ha.check hb.check] at hk hm ⊢
  obtain ⟨_, p, h1, h2⟩ := mTo_keys ha hb b.length (Nat.le_refl _) k hk
  exact ⟨p, by unfold getS; rw [if_pos hm.check]; simp only at h1 ⊢; rw [h1], h2⟩
end Go.Proofs.Ytbpamllmbdcdfaa
