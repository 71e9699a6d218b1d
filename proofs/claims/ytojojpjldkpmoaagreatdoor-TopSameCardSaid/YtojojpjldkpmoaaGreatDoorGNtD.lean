/-
  
-/
import Derived.Test.YtojojpjldkpmoaaGreatDoorGTxD
import Derived.Test.YtojojpjldkpmoaaGreatDoorGNtB
import Derived.Test.YtojojpjldkpmoaaGreatDoorGWaD
set_option linter.unusedVariables false
set_option linter.unusedSimpArgs false
set_option maxHeartbeats 16000000
namespace Go.Proofs.YtojojpjldkpmoaaGreatDoor
section
open Go
theorem dec_len4 {n : Int} (h0 : 0 <= n) (h1 : n <= 1000) : (Lib.decDigits n.toNat).length <= 4 := dec_len 3 n.toNat (by show _ < 10000; omega)
theorem dec_len2 {n : Int} (h0 : 0 <= n) (h1 : n <= 11) : (Lib.decDigits n.toNat).length <= 2 := dec_len 1 n.toNat (by show _ < 100; omega)
theorem dec_len3 {n : Int} (h0 : 0 <= n) (h1 : n <= 255) : (Lib.decDigits n.toNat).length <= 3 := dec_len 2 n.toNat (by show _ < 1000; omega)
theorem adjT_short (d : Bool) {l : List Side} (h : chkSides l = 0) : (adjT d l).length <= 97 := by
 have h1 := sides_len h
 have h2 := join_len 7 (l.map sideT) (fun x hx => by
  obtain ⟨p, hp, rfl⟩ := zbm.1 hx
  obtain ⟨i, hi, rfl⟩ := zaj hp
  obtain ⟨a1, a2, a3, a4⟩ := sides_all h i hi
  have b1 := dec_len2 a1 a2
  have b2 := dec_len4 (n := l[i].cost) (by omega) a4
  unfold sideT pairT
  rw [zah, zaw]; omega)
 rw [zaV] at h2
 unfold adjT
 split
 · rw [zaw]; omega
 · omega
theorem prefsT_short {l : List Prefix} (h : chkPrefs l = 0) : (prefsT l).length <= 48 := by
 have h1 := prefs_len h
 have h2 := join_len 7 (l.map prefT) (fun x hx => by
  obtain ⟨p, hp, rfl⟩ := zbm.1 hx
  obtain ⟨i, hi, rfl⟩ := zaj hp
  obtain ⟨a1, a2, a3, a4⟩ := prefs_all h i hi
  have b1 := dec_len3 a3 a4
  have b2 := dec_len2 (n := l[i].bits) a1 (by omega)
  unfold prefT pairT
  rw [zah, zaw]; omega)
 rw [zaV] at h2
 unfold prefsT; omega
def LeS (s t : List Entry) : Prop := ∀ e ∈ s, ∃ g, findE t e.key = some g /\ aboveE e g = false
theorem LeS.refl {s : List Entry} (h : OkS s) : LeS s s := fun e he => ⟨e, (find_iff h.ord _ _).2 ⟨he, rfl⟩, above_irrefl e⟩
theorem LeS.trans {s t u : List Entry} (h1 : LeS s t) (h2 : LeS t u) : LeS s u := fun e he => by
 obtain ⟨g, f1, a1⟩ := h1 e he
 obtain ⟨k1, m1⟩ := findE_key f1
 obtain ⟨g2, f2, a2⟩ := h2 g m1
 rw [k1] at f2
 exact ⟨g2, f2, above_neg a2 a1⟩
theorem LeS.antisymm {s t : List Entry} (hs : OkS s) (ht : OkS t) (h1 : LeS s t) (h2 : LeS t s) : s = t := by
 refine store_ext hs.ord ht.ord fun k => ?_
 rcases hf : findE s k with _ | e
 · rcases hg : findE t k with _ | g
   · rfl
   · obtain ⟨k1, m1⟩ := findE_key hg
     obtain ⟨e, f, _⟩ := h2 g m1
     rw [k1, hf] at f; cases f
 · obtain ⟨k1, m1⟩ := findE_key hf
   obtain ⟨g, f1, a1⟩ := h1 e m1
   obtain ⟨k2, m2⟩ := findE_key f1
   obtain ⟨e', f2, a2⟩ := h2 g m2
   rw [k2, k1, hf] at f2
   injection f2 with f2
   subst f2
   rw [k1] at f1
   rw [f1, above_same k2.symm a1 a2]
theorem le_merge_left {a b : List Entry} (ha : OkS a) (hb : OkS b) : LeS a (mergeS aboveE a b).1 := fun e he => by
 obtain ⟨g, h1, h2⟩ := mTo_grow ha hb.ok he b.length (zab _)
 rw [merge_ok ha.check hb.check]
 exact ⟨g, h1, h2⟩
theorem le_merge_right {a b : List Entry} (ha : OkS a) (hb : OkS b) (hr : a.length + b.length <= 60) : LeS b (mergeS aboveE a b).1 := fun e he => by
 have hf := merge_find ha hb hr e.key
 rw [(find_iff hb.ord e.key e).2 ⟨he, rfl⟩] at hf
 rcases hfa : findE a e.key with _ | o
 · rw [hfa] at hf; exact ⟨e, hf, above_irrefl e⟩
 · rw [hfa] at hf
   simp only [mx] at hf
   rcases hab : aboveE e o with _ | _
   · rw [hab] at hf; exact ⟨o, by simpa using hf, hab⟩
   · rw [hab] at hf; exact ⟨e, by simpa using hf, above_irrefl e⟩
theorem merge_mem {a b : List Entry} (ha : OkS a) (hb : OkS b) (hr : a.length + b.length <= 60) {e : Entry} (he : e ∈ (mergeS aboveE a b).1) : e ∈ a ∨ e ∈ b := by
 have hf := merge_find ha hb hr e.key
 rw [(find_iff (merge_okS ha hb).ord e.key e).2 ⟨he, rfl⟩] at hf
 rcases hfa : findE a e.key with _ | o <;> rcases hfb : findE b e.key with _ | p <;> rw [hfa, hfb] at hf
 · cases hf
 · simp only [mx] at hf; injection hf with hf; rw [hf]; exact .inr (findE_key hfb).2
 · simp only [mx] at hf; injection hf with hf; rw [hf]; exact .inl (findE_key hfa).2
 · simp only [mx] at hf
   split at hf
   · injection hf with hf; rw [hf]; exact .inr (findE_key hfb).2
   · injection hf with hf; rw [hf]; exact .inl (findE_key hfa).2
theorem merge_le {a b u : List Entry} (ha : OkS a) (hb : OkS b) (hr : a.length + b.length <= 60) (h1 : LeS a u) (h2 : LeS b u) : LeS (mergeS aboveE a b).1 u := fun e he => by
 rcases merge_mem ha hb hr he with h | h
 · exact h1 e h
 · exact h2 e h
theorem keyA_inj {n m : Nat} (h : keyA n = keyA m) : n = m := by
 unfold keyA at h
 have := bOf_inj h
 simp at this
 exact dec_inj this
theorem keyP_inj {n m : Nat} (h : keyP n = keyP m) : n = m := by
 unfold keyP at h
 have := bOf_inj h
 simp at this
 exact dec_inj this
theorem keyA_ne_keyP (n m : Nat) : keyA n ≠ keyP m := fun h => by
 unfold keyA keyP at h
 have := bOf_inj h
 simp at this
def keys10 : List ByteArray := [keyA 0, keyA 1, keyA 2, keyA 3, keyA 4, keyP 0, keyP 1, keyP 2, keyP 3, keyP 4]
def ownKey (k : ByteArray) (n : Nat) : Prop := n < 5 /\ (k = keyA n ∨ k = keyP n)
theorem ownKey_uniq {k : ByteArray} {n m : Nat} (h : ownKey k n) (g : ownKey k m) : n = m := by
 rcases h.2 with h | h <;> rcases g.2 with g | g
 · exact keyA_inj (h.symm.trans g)
 · exact absurd (h.symm.trans g) (keyA_ne_keyP n m)
 · exact absurd (g.symm.trans h) (keyA_ne_keyP m n)
 · exact keyP_inj (h.symm.trans g)
theorem ownKey_mem {k : ByteArray} {n : Nat} (h : ownKey k n) : k ∈ keys10 := by
 obtain ⟨hn, h⟩ := h
 have : n = 0 ∨ n = 1 ∨ n = 2 ∨ n = 3 ∨ n = 4 := by omega
 unfold keys10
 rcases this with rfl | rfl | rfl | rfl | rfl <;> rcases h with rfl | rfl <;> simp
theorem keys_ok : ∀ n, n < 12 -> keyOk (keyA n) = true /\ keyOk (keyP n) = true := by
 intro n hn
 have : ∀ n, n < 12 -> Lib.decDigits n = if n < 10 then [UInt8.ofNat (48 + n)] else [49, UInt8.ofNat (48 + n % 10)] := by
  intro n hn
  by_cases h : n < 10
  · rw [if_pos h, dec_small h]
  · rw [if_neg h, dec_big h, dec_small (by omega)]
    have : n = 10 ∨ n = 11 := by omega
    rcases this with rfl | rfl <;> rfl
 have h2 : ∀ n, n < 12 -> keyOk (bOf (97 :: 58 :: (if n < 10 then [UInt8.ofNat (48 + n)] else [49, UInt8.ofNat (48 + n % 10)]))) = true /\ keyOk (bOf ([112, 58] ++ (if n < 10 then [UInt8.ofNat (48 + n)] else [49, UInt8.ofNat (48 + n % 10)]))) = true := by decide +kernel
 unfold keyA keyP
 rw [this n hn]
 exact h2 n hn
theorem nodup_len {α : Type} [DecidableEq α] : ∀ {l m : List α}, l.Nodup -> (∀ x ∈ l, x ∈ m) -> l.length <= m.length
 | [], _, _, _ => zak _
 | a :: l, m, hd, hs => by
   obtain ⟨h1, h2⟩ := List.nodup_cons.1 hd
   have ha := hs a (by simp)
   have := nodup_len (m := m.erase a) h2 (fun x hx => (List.mem_erase_of_ne (fun e : x = a => h1 (by rw [<- e]; exact hx))).2 (hs x (by simp [hx])))
   rw [List.length_erase_of_mem ha] at this
   have : 0 < m.length := List.length_pos_of_mem ha
   rw [zaw]; omega
theorem own_len {s : List Entry} (h : OkS s) (hk : ∀ e ∈ s, ∃ n, ownKey e.key n) : s.length <= 10 := by
 have h1 : (s.map Entry.key).Nodup := by
  rw [List.nodup_iff_pairwise_ne, List.pairwise_map]
  exact h.ord.imp fun {a b} hab e => by unfold ltE at hab; rw [e, ltB_irrefl] at hab; cases hab
 have := nodup_len h1 (m := keys10) (fun k hk' => by
  obtain ⟨e, he, rfl⟩ := zbm.1 hk'
  obtain ⟨n, hn⟩ := hk e he
  exact ownKey_mem hn)
 rw [zaV] at this
 exact this
theorem sidesTo_mem {f : Nat -> Int} {s : Side} : ∀ {k : Nat}, s ∈ sidesTo f k ↔ ∃ i, i < k /\ 0 < f i /\ s = ⟨i, f i⟩
 | 0 => by simp [sidesTo]
 | k + 1 => by
   have ih := sidesTo_mem (f := f) (s := s) (k := k)
   unfold sidesTo
   split
   · rename_i hp
     rw [zaI, ih, zbl]
     constructor
     · rintro (⟨i, h1, h2, h3⟩ | h)
       · exact ⟨i, by omega, h2, h3⟩
       · exact ⟨k, by omega, hp, h⟩
     · rintro ⟨i, h1, h2, h3⟩
       by_cases e : i = k
       · subst e; exact .inr h3
       · exact .inl ⟨i, by omega, h2, h3⟩
   · rename_i hp
     rw [ih]
     constructor
     · rintro ⟨i, h1, h2, h3⟩; exact ⟨i, by omega, h2, h3⟩
     · rintro ⟨i, h1, h2, h3⟩
       by_cases e : i = k
       · subst e; exact absurd h2 hp
       · exact ⟨i, by omega, h2, h3⟩
theorem sidesTo_ord (f : Nat -> Int) : ∀ k, (sidesTo f k).Pairwise (fun a b => sideOrd a b = true)
 | 0 => List.Pairwise.nil
 | k + 1 => by
   unfold sidesTo
   split
   · rw [List.pairwise_append]
     refine ⟨sidesTo_ord f k, List.pairwise_singleton _ _, fun a ha b hb => ?_⟩
     obtain ⟨i, h1, _, rfl⟩ := sidesTo_mem.1 ha
     rw [zbl] at hb
     subst hb
     unfold sideOrd; simp; omega
   · exact sidesTo_ord f k
theorem sidesTo_chk {f : Nat -> Int} (h : ∀ b, 0 <= f b /\ f b <= 1000) : chkSides (sidesTo f 12) = 0 := by
 unfold chkSides
 refine seq_zero _ (fun s hs => ?_) (sidesTo_ord f 12) _ _
 obtain ⟨i, h1, h2, rfl⟩ := sidesTo_mem.1 hs
 have := h i
 unfold sideBad
 rw [if_pos (by refine ⟨?_, ?_, ?_, ?_⟩ <;> show _ <= _ <;> simp only <;> omega)]
structure PutIt (st : List Entry) (a : Nat) (key value : ByteArray) (t : Nat) (r : List Entry × List ByteArray × Int) : Prop where
 code : r.2.2 = 0
 ok : OkS r.1
 there : ∃ e, findE r.1 key = some e /\ e.value = value /\ e.origin = a /\ ∀ o, findE st key = some o -> aboveE o e = false
 other : ∀ k, k ≠ key -> findE r.1 k = findE st k
 ver : ∀ e ∈ r.1, e.version <= (t : Int) + 1
theorem putO_it {st : List Entry} (h : OkS st) (hl : st.length <= 20) {a : Nat} (ha : a < 12) {key value : ByteArray} (hk : keyOk key = true) (hv : value.size <= 120) {t : Nat} (ht : ∀ e ∈ st, e.version <= (t : Int)) (ht2 : t <= 1000000) :
  PutIt st a key value t (putO st a key value) := by
 have hc := h.check
 have hn : 0 <= (a : Int) /\ (a : Int) <= 11 := by omega
 have hver : ∀ {x : Entry}, x.version <= (t : Int) + 1 -> ∀ e ∈ withE st x, e.version <= (t : Int) + 1 := fun hx e he => by
  rcases (mem_withE h.ord _ e).1 he with rfl | ⟨he, _⟩
  · exact hx
  · have := ht e he; omega
 rcases hf : findE st key with _ | e
 · have hh : hasE st key = false := by
    rw [Bool.eq_false_iff]; intro e
    obtain ⟨hl, hk⟩ := (hasE_iff h.ord key).1 e
    rw [findE_some h.ord key hl hk] at hf; cases hf
   have hp := put_new (node := (a : Int)) (value := value) hc hn hk hv hh (by omega)
   have hg := getS_none hc hh
   have hr : putO st a key value = (withE st ⟨key, 1, a, value⟩, [key], 0) := by
    unfold putO
    rw [if_neg (by rw [hg]; intro e; cases e.1), if_neg (by rw [hp]; simp), hp]
   have hok : OkS (withE st ⟨key, 1, a, value⟩) := by
    have := putS_ok (a := (a : Int)) (key := key) (value := value) h (by rw [hp])
    rw [hp] at this; exact this
   rw [hr]
   refine ⟨rfl, hok, ⟨_, find_with_same h.ord ⟨key, 1, a, value⟩, rfl, rfl, fun o ho => by rw [hf] at ho; cases ho⟩, fun k hk' => find_with_other h.ord _ hk', hver (by show (1 : Int) <= _; omega)⟩
 · obtain ⟨hek, hem⟩ := findE_key hf
   have hev := ht e hem
   have hh := hasE_find hf
   have hgs : getS st key = (e, 0) := by
    obtain ⟨hl', hk'⟩ := (hasE_iff h.ord key).1 hh
    obtain ⟨_, hg⟩ := getS_some hc hh
    rw [hg]
    have := findE_some h.ord key hl' hk'
    rw [hf] at this
    injection this with this
    rw [<- this]
   by_cases hs : e.value = value /\ e.origin = a
   · have hr : putO st a key value = (st, [], 0) := by
      unfold putO
      rw [hgs, if_pos ⟨rfl, hs.1, hs.2⟩]
     rw [hr]
     refine ⟨rfl, h, ⟨e, hf, hs.1, hs.2, fun o ho => by rw [hf] at ho; injection ho with ho; rw [<- ho]; exact above_irrefl e⟩, fun _ _ => rfl, fun x hx => by have := ht x hx; omega⟩
   · have hp := put_old (node := (a : Int)) (value := value) hc hn hk hv hf (by omega)
     have hr : putO st a key value = (withE st ⟨key, e.version + 1, a, value⟩, [key], 0) := by
      unfold putO
      rw [hgs, if_neg (fun x => hs ⟨x.2.1, x.2.2⟩), if_neg (by rw [hp]; simp), hp]
     have hok : OkS (withE st ⟨key, e.version + 1, a, value⟩) := by
      have := putS_ok (a := (a : Int)) (key := key) (value := value) h (by rw [hp])
      rw [hp] at this; exact this
     rw [hr]
     refine ⟨rfl, hok, ⟨_, find_with_same h.ord ⟨key, e.version + 1, a, value⟩, rfl, rfl, fun o ho => ?_⟩, fun k hk' => find_with_other h.ord _ hk', hver (by show e.version + 1 <= _; omega)⟩
     rw [hf] at ho
     injection ho with ho
     subst ho
     unfold aboveE
     rw [if_pos (by show e.version ≠ e.version + 1; omega)]
     simp; omega
structure Tame (c : ActV) : Prop where
 kind : c.kind ≠ 8
 a0 : 0 <= c.a
 a1 : c.a < 5
 b1 : c.b < 5
structure Kn (x : Net) (t : Nat) : Prop where
 ok : NetOk x
 own : ∀ i, i < 12 -> ∀ e ∈ (x.nd i).st, ∃ n, ownKey e.key n /\ ∃ g, findE (x.nd n).st e.key = some g /\ aboveE e g = false
 ver : ∀ i, i < 12 -> ∀ e ∈ (x.nd i).st, e.version <= (t : Int)
theorem Kn.len {x : Net} {t : Nat} (h : Kn x t) {i : Nat} (hi : i < 12) : (x.nd i).st.length <= 10 :=
 own_len (h.ok.nd i hi).st (fun e he => by obtain ⟨n, h1, _⟩ := h.own i hi e he; exact ⟨n, h1⟩)
theorem Kn.mono {x : Net} {t u : Nat} (h : Kn x t) (hu : t <= u) : Kn x u := ⟨h.ok, h.own, fun i hi e he => by have := h.ver i hi e he; omega⟩
theorem Kn.congr {x y : Net} {t : Nat} (h : Kn x t) (hy : NetOk y) (hs : ∀ i, (y.nd i).st = (x.nd i).st) : Kn y t :=
 ⟨hy, fun i hi e he => by rw [hs] at he; obtain ⟨n, h1, g, h2, h3⟩ := h.own i hi e he; exact ⟨n, h1, g, by rw [hs]; exact h2, h3⟩, fun i hi e he => by rw [hs] at he; exact h.ver i hi e he⟩
theorem kn0 : Kn net0 0 := ⟨net0_ok, fun i _ e he => (by cases he), fun i _ e he => (by cases he)⟩
def Told (x : Net) (a : Nat) (l : List Entry) : Prop :=
 (∃ e, findE l (keyA a) = some e /\ e.value = tellA x a /\ e.origin = a) /\ (∃ e, findE l (keyP a) = some e /\ e.value = tellP x a /\ e.origin = a)
structure TellIt (x : Net) (a t : Nat) (l : List Entry) (ks : List ByteArray) : Prop where
 eq : tellS x a = (x.setN a { x.nd a with st := l }, ks, 0)
 ok : OkS l
 told : Told x a l
 other : ∀ k, k ≠ keyA a -> k ≠ keyP a -> findE l k = findE (x.nd a).st k
 own : ∀ k, (k = keyA a ∨ k = keyP a) -> ∀ o, findE (x.nd a).st k = some o -> ∃ g, findE l k = some g /\ aboveE o g = false
 ver : ∀ e ∈ l, e.version <= (t : Int) + 2
theorem tellA_size {x : Net} (h : NetOk x) (a : Nat) : (tellA x a).size <= 120 := by
 unfold tellA
 rw [bOf_size]
 have := adjT_short (x.nd a).dr (sidesTo_chk (fun b => h.co a b))
 omega
theorem tellP_size {x : Net} (h : NetOk x) {a : Nat} (ha : a < 12) : (tellP x a).size <= 120 := by
 unfold tellP
 rw [bOf_size]
 have := prefsT_short (h.nd a ha).pf
 omega
theorem tell_it {x : Net} {t : Nat} (h : Kn x t) {a : Nat} (ha : a < 5) (ht : t <= 900000) : ∃ l ks, TellIt x a t l ks := by
 have ha12 : a < 12 := by omega
 have hlen := h.len ha12
 have hst := (h.ok.nd a ha12).st
 have p1 := putO_it hst (by omega) ha12 (keys_ok a ha12).1 (tellA_size h.ok a) (h.ver a ha12) (by omega)
 obtain ⟨e1, f1, v1, o1, n1⟩ := p1.there
 have hk1 : ∀ e ∈ (putO (x.nd a).st a (keyA a) (tellA x a)).1, ∃ n, ownKey e.key n := by
  intro e he
  by_cases hk : e.key = keyA a
  · exact ⟨a, ha, .inl hk⟩
  · have hf := (find_iff p1.ok.ord e.key e).2 ⟨he, rfl⟩
    rw [p1.other _ hk] at hf
    obtain ⟨n, hn, _⟩ := h.own a ha12 e (findE_key hf).2
    exact ⟨n, hn⟩
 have hlen1 := own_len p1.ok hk1
 have p2 := putO_it p1.ok (by omega) ha12 (keys_ok a ha12).2 (tellP_size h.ok ha12) (t := t + 1) (fun e he => by have := p1.ver e he; omega) (by omega)
 obtain ⟨e2, f2, v2, o2, n2⟩ := p2.there
 have hAP : keyA a ≠ keyP a := keyA_ne_keyP a a
 refine ⟨(putO (putO (x.nd a).st a (keyA a) (tellA x a)).1 a (keyP a) (tellP x a)).1, (putO (x.nd a).st a (keyA a) (tellA x a)).2.1 ++ (putO (putO (x.nd a).st a (keyA a) (tellA x a)).1 a (keyP a) (tellP x a)).2.1, ⟨?_, p2.ok, ⟨⟨e1, ?_, v1, o1⟩, ⟨e2, f2, v2, o2⟩⟩, fun k h1 h2 => ?_, fun k hk o ho => ?_, fun e he => by have := p2.ver e he; omega⟩⟩
 · unfold tellS
   rw [if_neg (by rw [p1.code]; simp), if_neg (by rw [p2.code]; simp)]
 · rw [p2.other _ hAP]; exact f1
 · rw [p2.other _ h2, p1.other _ h1]
 · rcases hk with rfl | rfl
   · exact ⟨e1, by rw [p2.other _ hAP]; exact f1, n1 o ho⟩
   · exact ⟨e2, f2, n2 o (by rw [p1.other _ hAP.symm]; exact ho)⟩
theorem tell_kn {x : Net} {t : Nat} (h : Kn x t) {a : Nat} (ha : a < 5) (ht : t <= 900000) : Kn (tellS x a).1 (t + 2) := by
 obtain ⟨l, ks, p⟩ := tell_it h ha ht
 have ha12 : a < 12 := by omega
 have hok := tell_ok h.ok ha12
 rw [p.eq] at hok ⊢
 have hnd : ∀ i, ((x.setN a { x.nd a with st := l }).nd i).st = if i = a then l else (x.nd i).st := by
  intro i
  by_cases e : i = a
  · subst e; rw [setN_same, if_pos rfl]
  · rw [setN_other _ _ e, if_neg e]
 have up : ∀ e n, ownKey e.key n -> (∃ g, findE (x.nd n).st e.key = some g /\ aboveE e g = false) -> ∃ g, findE (if n = a then l else (x.nd n).st) e.key = some g /\ aboveE e g = false := by
  rintro e n hn ⟨g, f, hg⟩
  by_cases en : n = a
  · subst en
    rw [if_pos rfl]
    obtain ⟨g', f', hg'⟩ := p.own e.key hn.2 g f
    exact ⟨g', f', above_neg hg' hg⟩
  · rw [if_neg en]; exact ⟨g, f, hg⟩
 refine ⟨hok, fun i hi e he => ?_, fun i hi e he => ?_⟩
 · rw [hnd] at he
   by_cases ei : i = a
   · rw [if_pos ei] at he
     by_cases hk : e.key = keyA a ∨ e.key = keyP a
     · exact ⟨a, ⟨ha, hk⟩, e, by rw [hnd, if_pos rfl]; exact (find_iff p.ok.ord _ _).2 ⟨he, rfl⟩, above_irrefl e⟩
     · have hf := (find_iff p.ok.ord e.key e).2 ⟨he, rfl⟩
       rw [p.other _ (fun e => hk (.inl e)) (fun e => hk (.inr e))] at hf
       obtain ⟨n, hn, hx⟩ := h.own a ha12 e (findE_key hf).2
       exact ⟨n, hn, by rw [hnd]; exact up e n hn hx⟩
   · rw [if_neg ei] at he
     obtain ⟨n, hn, hx⟩ := h.own i hi e he
     exact ⟨n, hn, by rw [hnd]; exact up e n hn hx⟩
 · rw [hnd] at he
   by_cases ei : i = a
   · rw [if_pos ei] at he; have := p.ver e he; omega
   · rw [if_neg ei] at he; have := h.ver i hi e he; omega
theorem flip_ne (c : UInt8) : c ^^^ 1 ≠ c := fun h => by
 have h1 : c ^^^ (c ^^^ 1) = c ^^^ c := by rw [h]
 rw [<- UInt8.xor_assoc, UInt8.xor_self, UInt8.zero_xor] at h1
 cases h1
theorem wire_spoilt {l : List Entry} (h : OkS l) {n : Int} (hn : 0 <= n) : (decS (wireB l n)).2 ≠ 0 := by
 have hl := (encS_len l h).1
 have hi : n.toNat % (encS l).length < (encS l).length := Nat.mod_lt _ (by omega)
 unfold wireB
 rw [if_pos hn]
 refine decS_spoilt h _ hi _ ?_
 rw [zal, zac hi]
 exact flip_ne _
theorem wire_whole {l : List Entry} (h : OkS l) {n : Int} (hn : n < 0) : decS (wireB l n) = (l, 0) := by
 unfold wireB
 rw [if_neg (by omega)]
 exact decS_enc h
theorem send_cases {x : Net} (h : NetOk x) {a : Nat} (ha : a < 12) (b n : Int) :
  (sendS x a b n).1 = x /\ (sendS x a b n).2.1 = [] ∨
  (0 <= b /\ b < 12 /\ n < 0 /\ x.co a b.toNat ≠ 0 /\ sendS x a b n = (x.setN b.toNat { x.nd b.toNat with st := (mergeS aboveE (x.nd b.toNat).st (x.nd a).st).1 }, (mergeS aboveE (x.nd b.toNat).st (x.nd a).st).2.1, 0)) := by
 unfold sendS
 split
 · exact .inl ⟨rfl, rfl⟩
 · rename_i hb
   obtain ⟨b0, b1⟩ := (isN_iff b).1 (by simpa using hb)
   split
   · exact .inl ⟨rfl, rfl⟩
   · rename_i hc
     by_cases hn : 0 <= n
     · rw [if_pos (wire_spoilt (h.nd a ha).st hn)]
       exact .inl ⟨rfl, rfl⟩
     · have hw := wire_whole (h.nd a ha).st (n := n) (by omega)
       rw [hw]
       rw [if_neg (by simp)]
       exact .inr ⟨b0, b1, by omega, hc, rfl⟩
theorem merged_own {x : Net} {t : Nat} (h : Kn x t) {a b : Nat} (ha : a < 12) (hb : b < 12) {k : ByteArray} (hk : ownKey k b) : findE (mergeS aboveE (x.nd b).st (x.nd a).st).1 k = findE (x.nd b).st k := by
 have la := h.len ha
 have lb := h.len hb
 rw [merge_find (h.ok.nd b hb).st (h.ok.nd a ha).st (by omega)]
 rcases hf : findE (x.nd a).st k with _ | e
 · rcases findE (x.nd b).st k with _ | g <;> rfl
 · obtain ⟨k1, m1⟩ := findE_key hf
   obtain ⟨n, hn, g, f, hg⟩ := h.own a ha e m1
   rw [k1] at hn f
   have := ownKey_uniq hn hk
   subst this
   rw [f]
   simp [mx, hg]
theorem send_kn {x : Net} {t : Nat} (h : Kn x t) {a : Nat} (ha : a < 12) (b n : Int) : Kn (sendS x a b n).1 t := by
 have hok := send_ok h.ok a b n
 rcases send_cases h.ok ha b n with ⟨e, _⟩ | ⟨b0, b1, hn, hc, e⟩
 · rw [e]; exact h
 · rw [e] at hok ⊢
   obtain ⟨q, hq, hq12⟩ : ∃ q : Nat, q = b.toNat /\ q < 12 := ⟨_, rfl, by omega⟩
   rw [<- hq] at hok ⊢
   have la := h.len ha
   have lb := h.len hq12
   have hnd : ∀ i, ((x.setN q { x.nd q with st := (mergeS aboveE (x.nd q).st (x.nd a).st).1 }).nd i).st = if i = q then (mergeS aboveE (x.nd q).st (x.nd a).st).1 else (x.nd i).st := by
    intro i
    by_cases e : i = q
    · subst e; rw [setN_same, if_pos rfl]
    · rw [setN_other _ _ e, if_neg e]
   have up : ∀ e, (∃ n, ownKey e.key n /\ ∃ g, findE (x.nd n).st e.key = some g /\ aboveE e g = false) -> ∃ n, ownKey e.key n /\ ∃ g, findE ((x.setN q { x.nd q with st := (mergeS aboveE (x.nd q).st (x.nd a).st).1 }).nd n).st e.key = some g /\ aboveE e g = false := by
    rintro e ⟨n, hn, g, f, hg⟩
    refine ⟨n, hn, g, ?_, hg⟩
    rw [hnd]
    by_cases en : n = q
    · subst en; rw [if_pos rfl, merged_own h ha hq12 hn]; exact f
    · rw [if_neg en]; exact f
   refine ⟨hok, fun i hi e he => ?_, fun i hi e he => ?_⟩
   · rw [hnd] at he
     by_cases ei : i = q
     · rw [if_pos ei] at he
       rcases merge_mem (h.ok.nd q hq12).st (h.ok.nd a ha).st (by omega) he with he | he
       · exact up e (h.own q hq12 e he)
       · exact up e (h.own a ha e he)
     · rw [if_neg ei] at he
       exact up e (h.own i hi e he)
   · rw [hnd] at he
     by_cases ei : i = q
     · rw [if_pos ei] at he
       rcases merge_mem (h.ok.nd q hq12).st (h.ok.nd a ha).st (by omega) he with he | he
       · exact h.ver q hq12 e he
       · exact h.ver a ha e he
     · rw [if_neg ei] at he
       exact h.ver i hi e he
theorem st_link (x : Net) (a : Nat) (b c : Int) (i : Nat) : ((linkS x a b c).1.nd i).st = (x.nd i).st := by
 unfold linkS; split
 · rfl
 · split
   · rfl
   · split <;> rfl
theorem st_set (x : Net) (a : Nat) (y : Nd) (h : y.st = (x.nd a).st) (i : Nat) : ((x.setN a y).nd i).st = (x.nd i).st := by
 by_cases e : i = a
 · subst e; rw [setN_same, h]
 · rw [setN_other _ _ e]
theorem st_give (x : Net) (a : Nat) (p : Prefix) (i : Nat) : ((giveS x a p).1.nd i).st = (x.nd i).st := by
 unfold giveS; split
 · rfl
 · split
   · rfl
   · exact st_set _ _ _ (by rfl) i
theorem st_take (x : Net) (a : Nat) (p : Prefix) (i : Nat) : ((takeS x a p).1.nd i).st = (x.nd i).st := by
 unfold takeS; split
 · exact st_set _ _ _ (by rfl) i
 · rfl
theorem act_kn {x : Net} {t : Nat} (h : Kn x t) {c : ActV} (hc : Tame c) (ht : t <= 900000) : Kn (actS x c).1 (t + 2) := by
 have hok := act_ok h.ok c
 obtain ⟨h1, h2, h3, h4⟩ := hc
 have hle : t <= t + 2 := by omega
 rcases act_cases x c with e | e | ⟨a, k, ea, ha, ek, k1, k2, e⟩
 · rw [e]; exact h.mono hle
 · rw [e]; exact h.mono hle
 · rw [e] at hok ⊢
   have ha5 : a < 5 := by omega
   rcases k_cases k1 k2 with rfl | rfl | rfl | rfl | rfl | rfl | rfl | rfl | rfl | rfl
   · refine (h.congr hok (fun i => ?_)).mono hle
     rw [actK_1]; split
     · exact st_link _ _ _ _ i
     · rfl
   · exact (h.congr hok (st_link _ _ _ _)).mono hle
   · refine (h.congr hok (fun i => ?_)).mono hle
     rw [actK_3]; split
     · exact st_set _ _ _ (by rfl) i
     · rfl
   · exact (h.congr hok (st_give _ _ _)).mono hle
   · exact (h.congr hok (st_take _ _ _)).mono hle
   · exact tell_kn h ha5 ht
   · exact (send_kn h ha _ _).mono hle
   · exact absurd ek h1
   · exact (h.congr hok (st_set _ _ _ (by rfl))).mono hle
   · exact h.mono hle
theorem run_kn : ∀ (l : List ActV) {x : Net} {t : Nat}, Kn x t -> (∀ c ∈ l, Tame c) -> t + 2 * l.length <= 900000 -> Kn (runS x l).1 (t + 2 * l.length)
 | [], _, _, h, _, _ => h
 | c :: l, x, t, h, hc, ht => by
   rw [zaw] at ht
   have := run_kn l (act_kn h (hc c (by simp)) (by omega)) (fun d hd => hc d (by simp [hd])) (by omega)
   rw [zaw]
   exact this.mono (by omega)
end
end Go.Proofs.YtojojpjldkpmoaaGreatDoor
