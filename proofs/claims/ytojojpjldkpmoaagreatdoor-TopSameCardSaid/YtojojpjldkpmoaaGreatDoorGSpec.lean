/-
  
-/
import Derived.Test.YtojojpjldkpmoaaGreatDoorGMem
set_option linter.unusedVariables false
set_option linter.unusedSimpArgs false
set_option maxHeartbeats 16000000
namespace Go.Proofs.YtojojpjldkpmoaaGreatDoor
open Go.RowKit
structure Entry where
 key : ByteArray
 version : Int
 origin : Int
 value : ByteArray
def ltB (a b : ByteArray) : Bool := Op.bytesLess a.data.toList b.data.toList
theorem bl_irrefl : ∀ a : List UInt8, Op.bytesLess a a = false
 | [] => rfl
 | a :: r => by simp [Op.bytesLess, bl_irrefl r]
theorem bl_asymm : ∀ a b : List UInt8, Op.bytesLess a b = true -> Op.bytesLess b a = false
 | [], [], h => by simp [Op.bytesLess] at h
 | [], _ :: _, _ => by simp [Op.bytesLess]
 | _ :: _, [], h => by simp [Op.bytesLess] at h
 | a :: r, b :: s, h => by
   simp only [Op.bytesLess, Bool.or_eq_true, decide_eq_true_eq, Bool.and_eq_true, beq_iff_eq, Bool.or_eq_false_iff, decide_eq_false_iff_not, Bool.and_eq_false_iff, beq_eq_false_iff_ne] at h ⊢
   rcases h with h | ⟨rfl, h⟩
   · refine ⟨by rw [UInt8.lt_iff_toNat_lt] at *; omega, .inl fun e => ?_⟩
     subst e; rw [UInt8.lt_iff_toNat_lt] at h; omega
   · exact ⟨by rw [UInt8.lt_iff_toNat_lt]; omega, .inr (bl_asymm r s h)⟩
theorem bl_total : ∀ a b : List UInt8, Op.bytesLess a b = false -> Op.bytesLess b a = false -> a = b
 | [], [], _, _ => rfl
 | [], _ :: _, h, _ => by simp [Op.bytesLess] at h
 | _ :: _, [], _, h => by simp [Op.bytesLess] at h
 | a :: r, b :: s, h, h' => by
   simp only [Op.bytesLess, Bool.or_eq_false_iff, decide_eq_false_iff_not, Bool.and_eq_false_iff, beq_eq_false_iff_ne] at h h'
   have e : a = b := by
    apply UInt8.toNat_inj.1
    have h1 := h.1; have h2 := h'.1
    rw [UInt8.lt_iff_toNat_lt] at h1 h2
    omega
   subst e
   rw [bl_total r s (h.2.resolve_left (by simp)) (h'.2.resolve_left (by simp))]
theorem bl_trans : ∀ a b c : List UInt8, Op.bytesLess a b = true -> Op.bytesLess b c = true -> Op.bytesLess a c = true
 | _, [], _, h, _ => by simp [Op.bytesLess] at h
 | _, _ :: _, [], _, h => by simp [Op.bytesLess] at h
 | [], _ :: _, _ :: _, _, _ => by simp [Op.bytesLess]
 | a :: r, b :: s, c :: t, h, h' => by
   simp only [Op.bytesLess, Bool.or_eq_true, decide_eq_true_eq, Bool.and_eq_true, beq_iff_eq, UInt8.lt_iff_toNat_lt] at h h' ⊢
   rcases h with h | ⟨rfl, h⟩ <;> rcases h' with h' | ⟨rfl, h'⟩
   · left; omega
   · left; exact h
   · left; exact h'
   · right; exact ⟨rfl, bl_trans r s t h h'⟩
theorem ltB_irrefl (a : ByteArray) : ltB a a = false := bl_irrefl _
theorem ltB_asymm {a b : ByteArray} (h : ltB a b = true) : ltB b a = false := bl_asymm _ _ h
theorem ltB_trans {a b c : ByteArray} (h : ltB a b = true) (h' : ltB b c = true) : ltB a c = true := bl_trans _ _ _ h h'
theorem ltB_total {a b : ByteArray} (h : ltB a b = false) (h' : ltB b a = false) : a = b := by
 have e := bl_total _ _ h h'
 exact ByteArray.ext (Array.toList_inj.1 e)
@[go_sem] theorem run_geq_str (P : Program) (w : World) (t : TypeId) (x y : ByteArray) : (binOp .geq t (.string x) (.string y)).run P w = .ok (.bool (!ltB x y)) w := by
  simp [binOp, Op.stringOp, zbr, ltB, pure, Sem.run]
theorem gt_eq (x y : ByteArray) : (!(ltB x y || x.data.toList == y.data.toList)) = ltB y x := by
 rcases e : ltB x y with _ | _
 · rcases e2 : ltB y x with _ | _
   · have := ltB_total e e2
     subst this; simp
   · have : (x.data.toList == y.data.toList) = false := by
      rw [beq_eq_false_iff_ne]; intro h
      have : x = y := ByteArray.ext (Array.toList_inj.1 h)
      subst this; rw [ltB_irrefl] at e2; cases e2
     simp [this]
 · simp [ltB_asymm e]
@[go_sem] theorem run_gtr_str (P : Program) (w : World) (t : TypeId) (x y : ByteArray) : (binOp .gtr t (.string x) (.string y)).run P w = .ok (.bool (ltB y x)) w := by
  rw [<- gt_eq]
  simp [binOp, Op.stringOp, zbr, ltB, pure, Sem.run]
@[go_sem] theorem run_leq_str (P : Program) (w : World) (t : TypeId) (x y : ByteArray) : (binOp .leq t (.string x) (.string y)).run P w = .ok (.bool (!ltB y x)) w := by
  rw [<- gt_eq]
  simp [binOp, Op.stringOp, zbr, ltB, pure, Sem.run]
@[go_sem] theorem run_lss_str (P : Program) (w : World) (t : TypeId) (x y : ByteArray) : (binOp .lss t (.string x) (.string y)).run P w = .ok (.bool (ltB x y)) w := by
  simp [binOp, Op.stringOp, zbr, ltB, pure, Sem.run]
def keyc (c : UInt8) : Bool := (decide (97 <= c.toNat) && decide (c.toNat <= 122)) || (decide (48 <= c.toNat) && decide (c.toNat <= 57)) || c.toNat == 58
def keyOk (s : ByteArray) : Bool := decide (1 <= s.size) && decide (s.size <= 8) && s.data.toList.all keyc
def entryOk (e : Entry) : Bool :=
 keyOk e.key && decide (1 <= e.version) && decide (e.version <= 1099511627776) && decide (0 <= e.origin) && decide (e.origin <= 11) && decide (e.value.size <= 120)
def chk (l : List Entry) : Nat -> Nat -> Int
 | 0, _ => 0
 | n + 1, k =>
   match l[k]? with
   | none => 0
   | some e => if entryOk e = false then 4 else
     if (match k with | 0 => false | j + 1 => match l[j]? with | some p => !ltB p.key e.key | none => false) = true then 7 else chk l n (k + 1)
def checkS (l : List Entry) : Int := if 60 < l.length then 1 else chk l l.length 0
theorem chk_end (l : List Entry) (k : Nat) (h : l.length <= k) (n : Nat) : chk l n k = 0 := by
 cases n with
 | zero => rfl
 | succ n => unfold chk; rw [zbG h]
theorem chk_bad (l : List Entry) (k : Nat) (hk : k < l.length) (h : entryOk l[k] = false) : chk l (l.length - k) k = 4 := by
 obtain ⟨n, hn⟩ : ∃ n, l.length - k = n + 1 := ⟨l.length - k - 1, by omega⟩
 rw [hn]; unfold chk; rw [zac hk]; simp [h]
theorem chk_first (l : List Entry) (hk : 0 < l.length) (h : entryOk l[0] = true) : chk l l.length 0 = chk l (l.length - 1) 1 := by
 obtain ⟨n, hn⟩ : ∃ n, l.length = n + 1 := ⟨l.length - 1, by omega⟩
 rw [show l.length - 1 = n by omega]
 rw [hn]
 conv => lhs; unfold chk
 rw [zac hk]; simp [h]
theorem chk_order (l : List Entry) (j : Nat) (hk : j + 1 < l.length) (h : entryOk l[j + 1] = true) (ho : ltB l[j].key l[j + 1].key = false) : chk l (l.length - (j + 1)) (j + 1) = 7 := by
 obtain ⟨n, hn⟩ : ∃ n, l.length - (j + 1) = n + 1 := ⟨l.length - (j + 1) - 1, by omega⟩
 have h1 : l[j]? = some l[j] := zac (by omega)
 rw [hn]; unfold chk; rw [zac hk]; simp [h, ho, h1]
theorem chk_next (l : List Entry) (j : Nat) (hk : j + 1 < l.length) (h : entryOk l[j + 1] = true) (ho : ltB l[j].key l[j + 1].key = true) : chk l (l.length - (j + 1)) (j + 1) = chk l (l.length - (j + 1 + 1)) (j + 1 + 1) := by
 obtain ⟨n, hn⟩ : ∃ n, l.length - (j + 1) = n + 1 := ⟨l.length - (j + 1) - 1, by omega⟩
 rw [hn, show l.length - (j + 1 + 1) = n by omega]
 conv => lhs; unfold chk
 have h1 : l[j]? = some l[j] := zac (by omega)
 rw [zac hk]; simp [h, ho, h1]
def Entry.cells (e : Entry) : List Value := [.string e.key, .int .i64 e.version, .int .i64 e.origin, .string e.value]
def Entry.val (e : Entry) : Value := .agg #[.string e.key, .int .i64 e.version, .int .i64 e.origin, .string e.value]
def Entry.wf (e : Entry) : Prop := e.key.size <= maxLen /\ inR e.version /\ inR e.origin /\ e.value.size <= maxLen
def entR : Rep Entry := flatR 4 Entry.cells Entry.wf (fun _ => rfl) (fun x u h => by simp [Entry.cells] at h; rcases h with rfl | rfl | rfl | rfl <;> rfl)
theorem Sl.ent {w : World} {b off c n : Nat} {xs : List Entry} (h : Sl entR w (.slice (some ⟨b, off, none⟩) n c) xs) {k : Nat} (hk : k < xs.length) :
  w.cell? ⟨b, off + k * 4, none⟩ = some (.string xs[k].key) /\ w.cell? ⟨b, off + k * 4 + 1, none⟩ = some (.int .i64 xs[k].version) /\
  w.cell? ⟨b, off + k * 4 + 2, none⟩ = some (.int .i64 xs[k].origin) /\ w.cell? ⟨b, off + k * 4 + 3, none⟩ = some (.string xs[k].value) /\ xs[k].wf := by
 obtain ⟨cs, ⟨rfl, hw⟩, hc⟩ := h.cell hk
 exact ⟨hc 0 _ rfl, hc 1 _ rfl, hc 2 _ rfl, hc 3 _ rfl, hw⟩
end Go.Proofs.YtojojpjldkpmoaaGreatDoor
