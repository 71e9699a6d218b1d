/-
  
-/
import Derived.Test.YtbhbilenbbldnaaGreatDoorGTxD
import Derived.Test.YtbhbilenbbldnaaGreatDoorGNtB
import Derived.Test.YtbhbilenbbldnaaGreatDoorGWaD
set_option linter.unusedVariables false
set_option linter.unusedSimpArgs false
namespace Go.Proofs.YtbhbilenbbldnaaGreatDoor
open Go
theorem dec_len4 {n : Int} (h0 : 0 ≤ n) (h1 : n ≤ 1000) : (Lib.decDigits n.toNat).length ≤ 4 := dec_len 3 n.toNat (by show _ < 10000; omega)
theorem dec_len2 {n : Int} (h0 : 0 ≤ n) (h1 : n ≤ 11) : (Lib.decDigits n.toNat).length ≤ 2 := dec_len 1 n.toNat (by show _ < 100; omega)
theorem dec_len3 {n : Int} (h0 : 0 ≤ n) (h1 : n ≤ 255) : (Lib.decDigits n.toNat).length ≤ 3 := dec_len 2 n.toNat (by show _ < 1000; omega)
theorem adjT_short (d : Bool) {l : List Side} (h : chkSides l = 0) : (adjT d l).length ≤ 97 := by
 have h1 := sides_len h
 have h2 := join_len 7 (l.map sideT) (fun x hx => by
  obtain ⟨p, hp, rfl⟩ := List.mem_map.1 hx
  obtain ⟨i, hi, rfl⟩ := List.getElem_of_mem hp
  obtain ⟨a1, a2, a3, a4⟩ := sides_all h i hi
  have b1 := dec_len2 a1 a2
  have b2 := dec_len4 (n := l[i].cost) (by omega) a4
  unfold sideT pairT
  rw [List.length_append, List.length_cons]; omega)
 rw [List.length_map] at h2
 unfold adjT
 split
 · rw [List.length_cons]; omega
 · omega
theorem prefsT_short {l : List Prefix} (h : chkPrefs l = 0) : (prefsT l).length ≤ 48 := by
 have h1 := prefs_len h
 have h2 := join_len 7 (l.map prefT) (fun x hx => by
  obtain ⟨p, hp, rfl⟩ := List.mem_map.1 hx
  obtain ⟨i, hi, rfl⟩ := List.getElem_of_mem hp
  obtain ⟨a1, a2, a3, a4⟩ := prefs_all h i hi
  have b1 := dec_len3 a3 a4
  have b2 := dec_len2 (n := l[i].bits) a1 (by omega)
  unfold prefT pairT
  rw [List.length_append, List.length_cons]; omega)
 rw [List.length_map] at h2
 unfold prefsT; omega
end Go.Proofs.YtbhbilenbbldnaaGreatDoor

namespace Go.Proofs.YtbhbilenbbldnaaGreatDoor
open Go
def LeS (s t : List Entry) : Prop := ∀ e ∈ s, ∃ g, findE t e.key = some g ∧ aboveE e g = false
theorem LeS.refl {s : List Entry} (h : OkS s) : LeS s s := fun e he => ⟨e, (find_iff h.ord _ _).2 ⟨he, rfl⟩, above_irrefl e⟩
theorem LeS.trans {s t u : List Entry} (h1 : LeS s t) (h2 : LeS t u) : LeS s u := fun e he => by
 obtain ⟨g, f1, a1⟩ := h1 e he
 obtain ⟨k1, m1⟩ := findE_key f1
 obtain ⟨g2, f2, a2⟩ := h2 g m1
 rw [k1] at f2
 exact ⟨g2, f2, above_neg a2 a1⟩
def keys10 : List ByteArray := [keyA 0, keyA 1, keyA 2, keyA 3, keyA 4, keyP 0, keyP 1, keyP 2, keyP 3, keyP 4]
def ownKey (k : ByteArray) (n : Nat) : Prop := n < 5 ∧ (k = keyA n ∨ k = keyP n)
theorem ownKey_mem {k : ByteArray} {n : Nat} (h : ownKey k n) : k ∈ keys10 := by
 obtain ⟨hn, h⟩ := h
 have : n = 0 ∨ n = 1 ∨ n = 2 ∨ n = 3 ∨ n = 4 := by omega
 unfold keys10
 rcases this with rfl | rfl | rfl | rfl | rfl <;> rcases h with rfl | rfl <;> simp
theorem nodup_len {α : Type} [DecidableEq α] : ∀ {l m : List α}, l.Nodup → (∀ x ∈ l, x ∈ m) → l.length ≤ m.length
 | [], _, _, _ => Nat.zero_le _
 | a :: l, m, hd, hs => by
   obtain ⟨h1, h2⟩ := List.nodup_cons.1 hd
   have ha := hs a (by simp)
   have := nodup_len (m := m.erase a) h2 (fun x hx => (List.mem_erase_of_ne (fun e : x = a => h1 (by rw [← e]; exact hx))).2 (hs x (by simp [hx])))
   rw [List.length_erase_of_mem ha] at this
   have : 0 < m.length := List.length_pos_of_mem ha
   rw [List.length_cons]; omega
theorem own_len {s : List Entry} (h : OkS s) (hk : ∀ e ∈ s, ∃ n, ownKey e.key n) : s.length ≤ 10 := by
 have h1 : (s.map Entry.key).Nodup := by
  rw [List.nodup_iff_pairwise_ne, List.pairwise_map]
  exact h.ord.imp fun {a b} hab e => by unfold ltE at hab; rw [e, ltB_irrefl] at hab; cases hab
 have := nodup_len h1 (m := keys10) (fun k hk' => by
  obtain ⟨e, he, rfl⟩ := List.mem_map.1 hk'
  obtain ⟨n, hn⟩ := hk e he
  exact ownKey_mem hn)
 rw [List.length_map] at this
 exact this
theorem sidesTo_mem {f : Nat → Int} {s : Side} : ∀ {k : Nat}, s ∈ sidesTo f k ↔ ∃ i, i < k ∧ 0 < f i ∧ s = ⟨i, f i⟩
 | 0 => by simp [sidesTo]
 | k + 1 => by
   have ih := sidesTo_mem (f := f) (s := s) (k := k)
   unfold sidesTo
   split
   · rename_i hp
     rw [List.mem_append, ih, List.mem_singleton]
     constructor
     · rintro (⟨i, h1, h2, h3⟩ | h)
       · exact ⟨i, by omega, h2, h3⟩
       · exact ⟨k, by omega, hp, h⟩
     · rintro ⟨i, h1, h2, h3⟩
       by_cases e : i = k
       · subst e; exact .inr h3
       · exact .inl ⟨i, by omega, h2, h3⟩
   · rename_i hp
     rw [ih]
     constructor
     · rintro ⟨i, h1, h2, h3⟩; exact ⟨i, by omega, h2, h3⟩
     · rintro ⟨i, h1, h2, h3⟩
       by_cases e : i = k
       · subst e; exact absurd h2 hp
       · exact ⟨i, by omega, h2, h3⟩
theorem sidesTo_ord (f : Nat → Int) : ∀ k, (sidesTo f k).Pairwise (fun a b => sideOrd a b = true)
 | 0 => List.Pairwise.nil
 | k + 1 => by
   unfold sidesTo
   split
   · rw [List.pairwise_append]
     refine ⟨sidesTo_ord f k, List.pairwise_singleton _ _, fun a ha b hb => ?_⟩
     obtain ⟨i, h1, _, rfl⟩ := sidesTo_mem.1 ha
     rw [List.mem_singleton] at hb
     subst hb
     unfold sideOrd; simp; omega
   · exact sidesTo_ord f k
theorem sidesTo_chk {f : Nat → Int} (h : ∀ b, 0 ≤ f b ∧ f b ≤ 1000) : chkSides (sidesTo f 12) = 0 := by
 unfold chkSides
 refine seq_zero _ (fun s hs => ?_) (sidesTo_ord f 12) _ _
 obtain ⟨i, h1, h2, rfl⟩ := sidesTo_mem.1 hs
 have := h i
 unfold sideBad
 rw [if_pos (by refine ⟨?_, ?_, ?_, ?_⟩ <;> show _ ≤ _ <;> simp only <;> omega)]
end Go.Proofs.YtbhbilenbbldnaaGreatDoor

namespace Go.Proofs.YtbhbilenbbldnaaGreatDoor
open Go
structure Kn (x : Net) (t : Nat) : Prop where
 ok : NetOk x
 own : ∀ i, i < 12 → ∀ e ∈ (x.nd i).st, ∃ n, ownKey e.key n ∧ ∃ g, findE (x.nd n).st e.key = some g ∧ aboveE e g = false
 ver : ∀ i, i < 12 → ∀ e ∈ (x.nd i).st, e.version ≤ (t : Int)
theorem Kn.len {x : Net} {t : Nat} (h : Kn x t) {i : Nat} (hi : i < 12) : (x.nd i).st.length ≤ 10 :=
 own_len (h.ok.nd i hi).st (fun e he => by obtain ⟨n, h1, _⟩ := h.own i hi e he; exact ⟨n, h1⟩)
theorem Kn.mono {x : Net} {t u : Nat} (h : Kn x t) (hu : t ≤ u) : Kn x u := ⟨h.ok, h.own, fun i hi e he => by have := h.ver i hi e he; omega⟩
theorem Kn.congr {x y : Net} {t : Nat} (h : Kn x t) (hy : NetOk y) (hs : ∀ i, (y.nd i).st = (x.nd i).st) : Kn y t :=
 ⟨hy, fun i hi e he => by rw [hs] at he; obtain ⟨n, h1, g, h2, h3⟩ := h.own i hi e he; exact ⟨n, h1, g, by rw [hs]; exact h2, h3⟩, fun i hi e he => by rw [hs] at he; exact h.ver i hi e he⟩
def Told (x : Net) (a : Nat) (l : List Entry) : Prop :=
 (∃ e, findE l (keyA a) = some e ∧ e.value = tellA x a ∧ e.origin = a) ∧ (∃ e, findE l (keyP a) = some e ∧ e.value = tellP x a ∧ e.origin = a)
theorem tellA_size {x : Net} (h : NetOk x) (a : Nat) : (tellA x a).size ≤ 120 := by
 unfold tellA
 rw [bOf_size]
 have := adjT_short (x.nd a).dr (sidesTo_chk (fun b => h.co a b))
 omega
theorem tellP_size {x : Net} (h : NetOk x) {a : Nat} (ha : a < 12) : (tellP x a).size ≤ 120 := by
 unfold tellP
 rw [bOf_size]
 have := prefsT_short (h.nd a ha).pf
 omega
theorem flip_ne (c : UInt8) : c ^^^ 1 ≠ c := fun h => by
 have h1 : c ^^^ (c ^^^ 1) = c ^^^ c := by rw [h]
 rw [← UInt8.xor_assoc, UInt8.xor_self, UInt8.zero_xor] at h1
 cases h1
theorem wire_spoilt {l : List Entry} (h : OkS l) {n : Int} (hn : 0 ≤ n) : (decS (wireB l n)).2 ≠ 0 := by
 have hl := (encS_len l h).1
 have hi : n.toNat % (encS l).length < (encS l).length := Nat.mod_lt _ (by omega)
 unfold wireB
 rw [if_pos hn]
 refine decS_spoilt h _ hi _ ?_
 rw [List.getD_eq_getElem?_getD, List.getElem?_eq_getElem hi]
 exact flip_ne _
end Go.Proofs.YtbhbilenbbldnaaGreatDoor
