/-
  
-/
import Derived.Test.YtojojpjldkpmoaaGreatDoorRows
import Derived.WalkKit
import Derived.Deep.QuietTactic
import Derived.BigQuiet
import Derived.Lib.Hide
import Derived.Laws.Rows
import Derived.Outline
import Derived.Deep.DeepCutAuto
import Derived.Deep.CutBlock
import Derived.Lib.ConvBytes
set_option linter.unusedVariables false
set_option linter.unusedSimpArgs false
set_option maxHeartbeats 16000000
namespace Go.Proofs.YtojojpjldkpmoaaGreatDoor
open Go.RowKit
abbrev zaa := @Go.Lib.hid
abbrev zab := @Nat.le_refl
abbrev zac := @List.getElem?_eq_getElem
abbrev zad := @Go.RowKit.Below.refl
abbrev zae := @Go.World.cell?_alloc_at
abbrev zaf := @Int.natCast_nonneg
abbrev zag := @Go.World.cell?_setCell_other
abbrev zah := @List.length_append
abbrev zai := @Go.RowKit.Below.heap_setCell
abbrev zaj := @List.getElem_of_mem
abbrev zak := @Nat.zero_le
abbrev zal := @List.getD_eq_getElem?_getD
abbrev zam := @List.getElem?_cons_succ
abbrev zan := @Nat.lt_of_lt_of_le
abbrev zao := @List.getElem?_toArray
abbrev zap := @List.getElem?_cons_zero
abbrev zaq := @List.length_take
abbrev zar := @List.take_succ_eq_append_getElem
abbrev zas := @List.getElem_mem
abbrev zat := @List.eq_nil_of_length_eq_zero
abbrev zau := @Go.World.frozen?_setCell
abbrev zav := @Go.World.cell?_of_block
abbrev zaw := @List.length_cons
abbrev zax := @List.getElem?_eq_some_iff
abbrev zay := @Go.World.cell?_setCell_same'
abbrev zaz := @Nat.le_trans
abbrev zaA := @List.pairwise_cons
abbrev zaB := @List.mem_cons
abbrev zaC := @Array.size_modify
abbrev zaD := @Go.World.frozen?_alloc_at
abbrev zaE := @List.flatten_cons
abbrev zaF := @List.pairwise_iff_getElem
abbrev zaG := @List.take_of_length_le
abbrev zaH := @List.map_cons
abbrev zaI := @List.mem_append
abbrev zaJ := @Nat.eq_zero_or_pos
abbrev zaK := @Go.World.cell?_drew
abbrev zaL := @Int.toNat_natCast
abbrev zaM := @Nat.zero_add
abbrev zaN := @List.take_append_of_le_length
abbrev zaO := @Go.World.frozen?_of_block
abbrev zaP := @List.take_length
abbrev zaQ := @List.length_drop
abbrev zaR := @List.getElem?_append_right
abbrev zaS := @List.append_assoc
abbrev zaT := @Go.RowKit.Below.alloc
abbrev zaU := @Go.World.block_lt_of_cell?
abbrev zaV := @List.length_map
abbrev zaW := @List.size_toArray
abbrev zaX := @Go.World.grownBy.refl
abbrev zaY := @List.mem_filter
abbrev zaZ := @Int.eq_ofNat_of_zero_le
abbrev zba := @List.getElem?_append_left
abbrev zbb := @List.getElem?_take
abbrev zbc := @Go.RowKit.Below.drew
abbrev zbd := @List.take_succ_cons
abbrev zbe := @List.takeWhile_cons
abbrev zbf := @List.map_append
abbrev zbg := @Nat.le_of_lt
abbrev zbh := @List.mem_of_mem_take
abbrev zbi := @List.mem_of_mem_drop
abbrev zbj := @Go.RowKit.Below.heap_alloc
abbrev zbk := @List.map_toArray
abbrev zbl := @List.mem_singleton
abbrev zbm := @List.mem_map
abbrev zbn := @List.mem_range
abbrev zbo := @List.any_eq_true
abbrev zbp := @Go.World.size_alloc
abbrev zbq := @List.append_nil
abbrev zbr := @Go.ByteArray.toList_eq
abbrev zbs := @List.getElem_take
abbrev zbt := @List.getElem?_map
abbrev zbu := @Nat.lt_or_ge
abbrev zbv := @List.map_nil
abbrev zbw := @List.getElem?_set_self
abbrev zbx := @List.length_set
abbrev zby := @List.drop_succ_cons
abbrev zbz := @Go.Sem.run_pure
abbrev zbA := @Go.Sem.run_bind
abbrev zbB := @List.getElem?_replicate
abbrev zbC := @List.filter_append
abbrev zbD := @List.getElem?_set_ne
abbrev zbE := @Nat.add_zero
abbrev zbF := @List.length_nil
abbrev zbG := @List.getElem?_eq_none
abbrev zbH := @List.set_cons_succ
abbrev zbI := @List.getElem_drop
abbrev zbJ := @List.getElem?_range
abbrev zbK := @List.getElem_cons_succ
abbrev zbL := @Array.getElem?_eq_none
abbrev zbM := @Nat.mod_eq_of_lt
abbrev zbN := @Nat.lt_succ_self
abbrev zbO := @Nat.le_of_eq
abbrev zbP := @List.length_filter_le
abbrev zbQ := @List.getElem?_drop
abbrev zbR := @List.find?_eq_none
abbrev zbS := @Int.le_refl
abbrev zbT := @List.getElem?_set
abbrev zbU := @List.flatten_append
abbrev zbV := @Array.length_toList
abbrev zbW := @List.cons_append
abbrev zbX := @List.getElem_cons_zero
abbrev zbY := @List.drop_of_length_le
abbrev zbZ := @Nat.succ_mul
abbrev zca := @List.set_append_right
abbrev zcb := @List.range_succ
abbrev zcc := @List.foldl_append
theorem eb {b c : Bool} (h : b = c) : Ending.returned (.bool b) = .returned (.bool c) := by rw [h]
theorem ei {k : IntKind} {b c : Int} (h : b = c) : Ending.returned (.int k b) = .returned (.int k c) := by rw [h]
theorem bAt {B : Nat} {w w' : World} (h : Below B w w') {b : Nat} (hb : b < B) : ∀ o, w'.cell? ⟨b, o, none⟩ = w.cell? ⟨b, o, none⟩ :=
 fun o => h.cell (p := ⟨b, o, none⟩) hb
theorem bFz {B : Nat} {w w' : World} (h : Below B w w') {b : Nat} (hb : b < B) : ∀ o, w'.frozen? ⟨b, o, none⟩ = w.frozen? ⟨b, o, none⟩ :=
 fun o => h.frozen (p := ⟨b, o, none⟩) hb
theorem pastAlloc {wr w1 : World} {cs : Array Value} {t : TypeId} (h : Below (wr.alloc (.cells cs t)).heap.size (wr.alloc (.cells cs t)) w1) :
  Below wr.heap.size wr w1 /\ (∀ i, w1.cell? ⟨wr.heap.size, i, none⟩ = cs[i]?) /\ (∀ i, w1.frozen? ⟨wr.heap.size, i, none⟩ = false) /\ wr.heap.size < w1.heap.size := by
 have hz := h.size
 simp only [World.size_alloc] at hz
 refine ⟨((Below.refl _ _).alloc (Nat.le_refl _) _).trans (h.mono (by simp)), fun i => ?_, fun i => ?_, by omega⟩
 · rw [h.cell (p := ⟨wr.heap.size, i, none⟩) (by simp)]; exact World.cell?_alloc_at _ _ _ _ rfl
 · rw [h.frozen (p := ⟨wr.heap.size, i, none⟩) (by simp)]; exact World.frozen?_alloc_at _ _ _ _ rfl
theorem bDrewN {B : Nat} {w w' : World} (h : Below B w w') (n : Nat) : Below B w (w'.drewN n) := ⟨h.os, h.tape, h.output, h.size, h.block⟩
def CellsAt (w : World) (b off : Nat) (cs : List Value) : Prop := ∀ j u, cs[j]? = some u -> w.cell? ⟨b, off + j, none⟩ = some u
structure Rep (α : Type) where
 size : Nat
 holds : World -> (Nat -> Prop) -> List Value -> α -> Prop
 len : ∀ {w : World} {S : Nat -> Prop} {cs : List Value} {x : α}, holds w S cs x -> cs.length = size
 one : ∀ {w : World} {S : Nat -> Prop} {cs : List Value} {x : α}, holds w S cs x -> ∀ u ∈ cs, u.oneCell' = true
 keep : ∀ {w w' : World} {S S' : Nat -> Prop} {cs : List Value} {x : α}, holds w S cs x -> (∀ k, S k -> w'.heap[k]? = w.heap[k]?) -> (∀ k, S k -> S' k) -> holds w' S' cs x
def flatR {α : Type} (size : Nat) (enc : α -> List Value) (ok : α -> Prop) (h1 : ∀ x, (enc x).length = size) (h2 : ∀ x, ∀ u ∈ enc x, u.oneCell' = true) : Rep α :=
 { size := size, holds := fun _ _ cs x => cs = enc x /\ ok x, len := fun h => by rw [h.1, h1], one := fun h => by rw [h.1]; exact h2 _, keep := fun h _ _ => h }
def SlR {α : Type} (r : Rep α) (w : World) (S : Nat -> Prop) (v : Value) (xs : List α) : Prop :=
 ∃ A c, v = .slice A xs.length c /\ xs.length <= c /\ c <= maxLen /\
   ∀ (i : Nat) (x : α), xs[i]? = some x -> ∃ b off cs, A = some ⟨b, off, none⟩ /\ S b /\ b < w.heap.size /\ r.holds w S cs x /\ CellsAt w b (off + i * r.size) cs
def Sl {α : Type} (r : Rep α) (w : World) (v : Value) (xs : List α) : Prop := SlR r w (fun k => k < w.heap.size) v xs
theorem CellsAt.keep {w w' : World} {b off : Nat} {cs : List Value} (h : CellsAt w b off cs) (hk : w'.heap[b]? = w.heap[b]?) : CellsAt w' b off cs :=
 fun j u hu => (World.cell?_of_block (w := w) hk).trans (h j u hu)
theorem lt_of_same {w w' : World} {b : Nat} (hb : b < w.heap.size) (hk : w'.heap[b]? = w.heap[b]?) : b < w'.heap.size := by
 rcases Nat.lt_or_ge b w'.heap.size with h | h
 · exact h
 · rw [Array.getElem?_eq_none h, Array.getElem?_eq_getElem hb] at hk; cases hk
theorem SlR.keep {α : Type} {r : Rep α} {w w' : World} {S S' : Nat -> Prop} {v : Value} {xs : List α} (h : SlR r w S v xs) (hk : ∀ k, S k -> w'.heap[k]? = w.heap[k]?) (hB : ∀ k, S k -> S' k) : SlR r w' S' v xs := by
 obtain ⟨A, c, hv, h1, h2, h3⟩ := h
 refine ⟨A, c, hv, h1, h2, fun i x hx => ?_⟩
 obtain ⟨b, off, cs, hA, hS, hb, hh, hc⟩ := h3 i x hx
 exact ⟨b, off, cs, hA, hB _ hS, lt_of_same hb (hk b hS), r.keep hh hk hB, hc.keep (hk b hS)⟩
theorem Sl.below {α : Type} {r : Rep α} {w w' : World} {v : Value} {xs : List α} (h : Sl r w v xs) (hb : Below w.heap.size w w') : Sl r w' v xs :=
 SlR.keep h hb.block (fun k hk => Nat.lt_of_lt_of_le hk hb.size)
theorem Sl.nil {α : Type} (r : Rep α) (w : World) : Sl r w (.slice none 0 0) [] := ⟨none, 0, rfl, Nat.le_refl _, Nat.zero_le _, fun i x h => by simp at h⟩
theorem Sl.len_le {α : Type} {r : Rep α} {w : World} {v : Value} {xs : List α} (h : Sl r w v xs) : xs.length <= 9223372036854775807 := by
 obtain ⟨_, c, _, h1, h2, _⟩ := h
 unfold maxLen at h2; omega
theorem Sl.form {α : Type} {r : Rep α} {w : World} {v : Value} {xs : List α} (h : Sl r w v xs) : ∃ A c, v = .slice A xs.length c := by
 obtain ⟨A, c, hv, _⟩ := h; exact ⟨A, c, hv⟩
theorem Sl.at_ {α : Type} {r : Rep α} {w : World} {A : Option Addr} {c : Nat} {n : Nat} {xs : List α} (h : Sl r w (.slice A n c) xs) {k : Nat} (hk : k < xs.length) : ∃ b off, A = some ⟨b, off, none⟩ /\ b < w.heap.size := by
 obtain ⟨A', c', hv, _, _, h3⟩ := h
 injection hv with e1 e2 e3
 subst e1
 obtain ⟨b, off, cs, hA, hb, _⟩ := h3 k xs[k] (List.getElem?_eq_getElem hk)
 exact ⟨b, off, hA, hb⟩
theorem Sl.cell {α : Type} {r : Rep α} {w : World} {b off c n : Nat} {xs : List α} (h : Sl r w (.slice (some ⟨b, off, none⟩) n c) xs) {k : Nat} (hk : k < xs.length) : ∃ cs, r.holds w (fun k => k < w.heap.size) cs xs[k] /\ CellsAt w b (off + k * r.size) cs := by
 obtain ⟨A', c', hv, _, _, h3⟩ := h
 injection hv with e1 e2 e3
 subst e1
 obtain ⟨b', off', cs, hA, _, hb, hh, hc⟩ := h3 k xs[k] (List.getElem?_eq_getElem hk)
 injection hA with hA
 injection hA with h1 h2
 subst h1; subst h2
 exact ⟨cs, hh, hc⟩
def OwR {α : Type} (r : Rep α) (E : TypeId) (base : Nat) (w : World) (v : Value) (xs : List α) : Prop :=
 ∃ css : List (List Value), css.length = xs.length /\ (∀ (i : Nat) (cs : List Value) (x : α), css[i]? = some cs -> xs[i]? = some x -> r.holds w (fun k => k < w.heap.size /\ v.ownBlock ≠ some k) cs x) /\
   w.ownsRow base E r.size v xs.length css.flatten /\ base <= w.heap.size
theorem OwR.keep {α : Type} {r : Rep α} {E base : Nat} {w w' : World} {v : Value} {xs : List α} (h : OwR r E base w v xs) (hb : Below w.heap.size w w') : OwR r E base w' v xs := by
 obtain ⟨css, h1, h2, h3, h4⟩ := h
 refine ⟨css, h1, fun i cs x hc hx => r.keep (h2 i cs x hc hx) (fun k hk => hb.block k hk.1) (fun k hk => ⟨Nat.lt_of_lt_of_le hk.1 hb.size, hk.2⟩), ?_, Nat.le_trans h4 hb.size⟩
 exact h3.kept (row := none) ⟨hb.os, hb.tape, hb.output, hb.size, fun k hk _ => hb.block k hk⟩ (by cases v.ownBlock <;> simp)
theorem OwR.nil {α : Type} (r : Rep α) (E : TypeId) {base : Nat} {w : World} (hb : base <= w.heap.size) : OwR r E base w (.slice none 0 0) [] :=
 ⟨[], rfl, fun i cs x h => by simp at h, World.ownsRow_nil _ _ _ _, hb⟩
theorem flat_get {α : Type} {size : Nat} : ∀ {css : List (List α)}, (∀ cs ∈ css, cs.length = size) -> ∀ (i : Nat) (cs : List α), css[i]? = some cs -> ∀ j u, cs[j]? = some u -> css.flatten[i * size + j]? = some u
 | [], _, i, cs, h, _, _, _ => by simp at h
 | c0 :: css, hl, 0, cs, h, j, u, hu => by
   simp at h; subst h
   rw [List.flatten_cons, Nat.zero_mul, Nat.zero_add, List.getElem?_append_left (List.getElem?_eq_some_iff.1 hu).1]; exact hu
 | c0 :: css, hl, i + 1, cs, h, j, u, hu => by
   have h0 := hl c0 (by simp)
   rw [List.flatten_cons, List.getElem?_append_right (by rw [h0, Nat.succ_mul]; omega), h0]
   have := flat_get (css := css) (fun cs hc => hl cs (by simp [hc])) i cs (by simpa using h) j u hu
   rw [<- this]; congr 1; rw [Nat.succ_mul]; omega
theorem flat_len {α : Type} {size : Nat} : ∀ {css : List (List α)}, (∀ cs ∈ css, cs.length = size) -> css.flatten.length = css.length * size
 | [], _ => by simp
 | c0 :: css, hl => by
   rw [List.flatten_cons, List.length_append, hl c0 (by simp), flat_len (css := css) (fun cs hc => hl cs (by simp [hc])), List.length_cons, Nat.succ_mul]; omega
theorem OwR.lens {α : Type} {r : Rep α} {w : World} {S : Nat -> Prop} {xs : List α} {css : List (List Value)} (h1 : css.length = xs.length)
  (h2 : ∀ (i : Nat) (cs : List Value) (x : α), css[i]? = some cs -> xs[i]? = some x -> r.holds w S cs x) : (∀ cs ∈ css, cs.length = r.size) /\ (∀ u ∈ css.flatten, u.oneCell' = true) := by
 have key : ∀ cs ∈ css, ∃ x, r.holds w S cs x := by
  intro cs hc
  obtain ⟨i, hi, rfl⟩ := List.getElem_of_mem hc
  exact ⟨xs[i]'(by omega), h2 i _ _ (List.getElem?_eq_getElem hi) (List.getElem?_eq_getElem (by omega))⟩
 refine ⟨fun cs hc => ?_, fun u hu => ?_⟩
 · obtain ⟨x, hx⟩ := key cs hc; exact r.len hx
 · obtain ⟨cs, hc, hu'⟩ := List.mem_flatten.1 hu
   obtain ⟨x, hx⟩ := key cs hc; exact r.one hx u hu'
theorem OwR.sl {α : Type} {r : Rep α} {E base : Nat} {w : World} {v : Value} {xs : List α} (h : OwR r E base w v xs) (hs : 0 < r.size) : Sl r w v xs := by
 obtain ⟨css, h1, h2, h3, h4⟩ := h
 obtain ⟨hl, _⟩ := OwR.lens h1 h2
 have h3' := h3
 rcases h3.2 with ⟨rfl, h0⟩ | ⟨g, cap, cur, rfl, hg, hh, hnc, hcm, _, _⟩
 · have : xs = [] := List.eq_nil_of_length_eq_zero h0
   subst this; exact Sl.nil r w
 · refine ⟨some ⟨g, 0, none⟩, cap, rfl, hnc, hcm, fun i x hx => ?_⟩
   have hi : i < css.length := by rw [h1]; exact (List.getElem?_eq_some_iff.1 hx).1
   have hg' : g < w.heap.size := (h3'.lt g rfl).2
   refine ⟨g, 0, css[i], rfl, hg', hg', r.keep (h2 i _ _ (List.getElem?_eq_getElem hi) hx) (fun _ _ => rfl) (fun k hk => hk.1), fun j u hu => ?_⟩
   have h5 := h3'.cells (g := g) rfl (i * r.size + j) u (flat_get hl i _ (List.getElem?_eq_getElem hi) j u hu)
   have e : ((⟨g, 0, none⟩ : Addr).add (i * r.size + j)) = ⟨g, 0 + i * r.size + j, none⟩ := by
    unfold Addr.add; split
    · rename_i hz; simp [show i * r.size = 0 by omega, show j = 0 by omega]
    · simp [Nat.add_assoc]
   rw [<- e]; exact h5
theorem conv_bytes {P : Program} (w : World) (src dst e : TypeId) (s : ByteArray) {u : TypeDesc} (hs : P.underlying src = some u) (hd : P.underlying dst = some (.slice e)) (he : P.underlying e = some (.int .u8)) :
  ∃ cap w1, (convert src dst (.string s)).run P w = .ok (.slice (some ⟨w.heap.size, 0, none⟩) s.size cap) w1 /\ Below w.heap.size w w1 /\ w.heap.size < w1.heap.size /\
    (∀ k, (h : k < s.data.toList.length) -> w1.cell? ⟨w.heap.size, 0 + k, none⟩ = some (.int .u8 s.data.toList[k].toNat)) /\ (∀ k, k < s.size -> w1.frozen? ⟨w.heap.size, k, none⟩ = false) /\ s.size <= cap := by
 refine ⟨_, _, Lib.run_convert_string_bytes w src dst e s hs hd he, ⟨rfl, rfl, rfl, ?_, fun k hk => Lib.bytesWorld_at_old w e s k hk⟩, ?_, fun k hk => ?_, fun k hk => ?_, grownCap_ge _ _ _ _⟩
 · rw [Lib.bytesWorld_size]; omega
 · rw [Lib.bytesWorld_size]; omega
 · rw [Nat.zero_add, Lib.bytesWorld_cell w e s k (by simpa using hk)]
   simp only [List.getD, List.getElem?_eq_getElem hk, Option.getD_some]
 · simp only [World.frozen?, Lib.bytesWorld_at_new]
   have : s.size <= (Lib.bytesCells w e s).size := by simp [Lib.bytesCells]
   simp; omega
theorem size_toList (s : ByteArray) : s.data.toList.length = s.size := by simp
theorem empty_iff (s : ByteArray) : s.toList.isEmpty = decide (s.size = 0) := by
 rw [ByteArray.toList_eq, Bool.eq_iff_iff]
 simp [List.isEmpty_iff]
 constructor
 · intro h; have := congrArg Array.size h; simpa using this
 · intro h; rw [h]; rfl
def inR (n : Int) : Prop := -9223372036854775808 <= n /\ n <= 9223372036854775807
end Go.Proofs.YtojojpjldkpmoaaGreatDoor
