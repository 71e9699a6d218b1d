/-
  
-/
import Derived.Test.YtbhbilenbbldnaaGreatDoorGMem
set_option linter.unusedVariables false
set_option linter.unusedSimpArgs false
set_option maxHeartbeats 16000000
namespace Go.Proofs.YtbhbilenbbldnaaGreatDoor
section
open Go.RowKit
structure Entry where
 key : ByteArray
 version : Int
 origin : Int
 value : ByteArray
def ltB (a b : ByteArray) : Bool := Op.bytesLess a.data.toList b.data.toList
theorem bl_irrefl : ∀ a : List UInt8, Op.bytesLess a a = false
 | [] => rfl
 | a :: r => by simp [Op.bytesLess, bl_irrefl r]
theorem bl_asymm : ∀ a b : List UInt8, Op.bytesLess a b = true -> Op.bytesLess b a = false
 | [], [], h => by simp [Op.bytesLess] at h
 | [], _ :: _, _ => by simp [Op.bytesLess]
 | _ :: _, [], h => by simp [Op.bytesLess] at h
 | a :: r, b :: s, h => by
   simp only [Op.bytesLess, Bool.or_eq_true, decide_eq_true_eq, Bool.and_eq_true, beq_iff_eq, Bool.or_eq_false_iff, decide_eq_false_iff_not, Bool.and_eq_false_iff, beq_eq_false_iff_ne] at h ⊢
   rcases h with h | ⟨rfl, h⟩
   · refine ⟨by rw [UInt8.lt_iff_toNat_lt] at *; omega, .inl fun e => ?_⟩
     subst e; rw [UInt8.lt_iff_toNat_lt] at h; omega
   · exact ⟨by rw [UInt8.lt_iff_toNat_lt]; omega, .inr (bl_asymm r s h)⟩
theorem bl_total : ∀ a b : List UInt8, Op.bytesLess a b = false -> Op.bytesLess b a = false -> a = b
 | [], [], _, _ => rfl
 | [], _ :: _, h, _ => by simp [Op.bytesLess] at h
 | _ :: _, [], _, h => by simp [Op.bytesLess] at h
 | a :: r, b :: s, h, h' => by
   simp only [Op.bytesLess, Bool.or_eq_false_iff, decide_eq_false_iff_not, Bool.and_eq_false_iff, beq_eq_false_iff_ne] at h h'
   have e : a = b := by
    apply UInt8.toNat_inj.1
    have h1 := h.1; have h2 := h'.1
    rw [UInt8.lt_iff_toNat_lt] at h1 h2
    omega
   subst e
   rw [bl_total r s (h.2.resolve_left (by simp)) (h'.2.resolve_left (by simp))]
theorem bl_trans : ∀ a b c : List UInt8, Op.bytesLess a b = true -> Op.bytesLess b c = true -> Op.bytesLess a c = true
 | _, [], _, h, _ => by simp [Op.bytesLess] at h
 | _, _ :: _, [], _, h => by simp [Op.bytesLess] at h
 | [], _ :: _, _ :: _, _, _ => by simp [Op.bytesLess]
 | a :: r, b :: s, c :: t, h, h' => by
   simp only [Op.bytesLess, Bool.or_eq_true, decide_eq_true_eq, Bool.and_eq_true, beq_iff_eq, UInt8.lt_iff_toNat_lt] at h h' ⊢
   rcases h with h | ⟨rfl, h⟩ <;> rcases h' with h' | ⟨rfl, h'⟩
   · left; omega
   · left; exact h
   · left; exact h'
   · right; exact ⟨rfl, bl_trans r s t h h'⟩
theorem ltB_irrefl (a : ByteArray) : ltB a a = false := bl_irrefl _
theorem ltB_asymm {a b : ByteArray} (h : ltB a b = true) : ltB b a = false := bl_asymm _ _ h
theorem ltB_trans {a b c : ByteArray} (h : ltB a b = true) (h' : ltB b c = true) : ltB a c = true := bl_trans _ _ _ h h'
theorem ltB_total {a b : ByteArray} (h : ltB a b = false) (h' : ltB b a = false) : a = b := by
 have e := bl_total _ _ h h'
 exact ByteArray.ext (Array.toList_inj.1 e)
@[go_sem] theorem run_geq_str (P : Program) (w : World) (t : TypeId) (x y : ByteArray) : (binOp .geq t (.string x) (.string y)).run P w = .ok (.bool (!ltB x y)) w := by
  simp [binOp, Op.stringOp, zbs, ltB, pure, Sem.run]
theorem gt_eq (x y : ByteArray) : (!(ltB x y || x.data.toList == y.data.toList)) = ltB y x := by
 rcases e : ltB x y with _ | _
 · rcases e2 : ltB y x with _ | _
   · have := ltB_total e e2
     subst this; simp
   · have : (x.data.toList == y.data.toList) = false := by
      rw [beq_eq_false_iff_ne]; intro h
      have : x = y := ByteArray.ext (Array.toList_inj.1 h)
      subst this; rw [ltB_irrefl] at e2; cases e2
     simp [this]
 · simp [ltB_asymm e]
@[go_sem] theorem run_gtr_str (P : Program) (w : World) (t : TypeId) (x y : ByteArray) : (binOp .gtr t (.string x) (.string y)).run P w = .ok (.bool (ltB y x)) w := by
  rw [<- gt_eq]
  simp [binOp, Op.stringOp, zbs, ltB, pure, Sem.run]
@[go_sem] theorem run_leq_str (P : Program) (w : World) (t : TypeId) (x y : ByteArray) : (binOp .leq t (.string x) (.string y)).run P w = .ok (.bool (!ltB y x)) w := by
  rw [<- gt_eq]
  simp [binOp, Op.stringOp, zbs, ltB, pure, Sem.run]
@[go_sem] theorem run_lss_str (P : Program) (w : World) (t : TypeId) (x y : ByteArray) : (binOp .lss t (.string x) (.string y)).run P w = .ok (.bool (ltB x y)) w := by
  simp [binOp, Op.stringOp, zbs, ltB, pure, Sem.run]
def keyc (c : UInt8) : Bool := (decide (97 <= c.toNat) && decide (c.toNat <= 122)) || (decide (48 <= c.toNat) && decide (c.toNat <= 57)) || c.toNat == 58
def keyOk (s : ByteArray) : Bool := decide (1 <= s.size) && decide (s.size <= 8) && s.data.toList.all keyc
def entryOk (e : Entry) : Bool :=
 keyOk e.key && decide (1 <= e.version) && decide (e.version <= 1099511627776) && decide (0 <= e.origin) && decide (e.origin <= 11) && decide (e.value.size <= 120)
def chk (l : List Entry) : Nat -> Nat -> Int
 | 0, _ => 0
 | n + 1, k =>
   match l[k]? with
   | none => 0
   | some e => if entryOk e = false then 4 else
     if (match k with | 0 => false | j + 1 => match l[j]? with | some p => !ltB p.key e.key | none => false) = true then 7 else chk l n (k + 1)
def checkS (l : List Entry) : Int := if 60 < l.length then 1 else chk l l.length 0
theorem chk_end (l : List Entry) (k : Nat) (h : l.length <= k) (n : Nat) : chk l n k = 0 := by
 cases n with
 | zero => rfl
 | succ n => unfold chk; rw [zbJ h]
theorem chk_bad (l : List Entry) (k : Nat) (hk : k < l.length) (h : entryOk l[k] = false) : chk l (l.length - k) k = 4 := by
 obtain ⟨n, hn⟩ : ∃ n, l.length - k = n + 1 := ⟨l.length - k - 1, by omega⟩
 rw [hn]; unfold chk; rw [zac hk]; simp [h]
theorem chk_first (l : List Entry) (hk : 0 < l.length) (h : entryOk l[0] = true) : chk l l.length 0 = chk l (l.length - 1) 1 := by
 obtain ⟨n, hn⟩ : ∃ n, l.length = n + 1 := ⟨l.length - 1, by omega⟩
 rw [show l.length - 1 = n by omega]
 rw [hn]
 conv => lhs; unfold chk
 rw [zac hk]; simp [h]
theorem chk_order (l : List Entry) (j : Nat) (hk : j + 1 < l.length) (h : entryOk l[j + 1] = true) (ho : ltB l[j].key l[j + 1].key = false) : chk l (l.length - (j + 1)) (j + 1) = 7 := by
 obtain ⟨n, hn⟩ : ∃ n, l.length - (j + 1) = n + 1 := ⟨l.length - (j + 1) - 1, by omega⟩
 have h1 : l[j]? = some l[j] := zac (by omega)
 rw [hn]; unfold chk; rw [zac hk]; simp [h, ho, h1]
theorem chk_next (l : List Entry) (j : Nat) (hk : j + 1 < l.length) (h : entryOk l[j + 1] = true) (ho : ltB l[j].key l[j + 1].key = true) : chk l (l.length - (j + 1)) (j + 1) = chk l (l.length - (j + 1 + 1)) (j + 1 + 1) := by
 obtain ⟨n, hn⟩ : ∃ n, l.length - (j + 1) = n + 1 := ⟨l.length - (j + 1) - 1, by omega⟩
 rw [hn, show l.length - (j + 1 + 1) = n by omega]
 conv => lhs; unfold chk
 have h1 : l[j]? = some l[j] := zac (by omega)
 rw [zac hk]; simp [h, ho, h1]
def Entry.cells (e : Entry) : List Value := [.string e.key, .int .i64 e.version, .int .i64 e.origin, .string e.value]
def Entry.val (e : Entry) : Value := .agg #[.string e.key, .int .i64 e.version, .int .i64 e.origin, .string e.value]
def Entry.wf (e : Entry) : Prop := e.key.size <= maxLen /\ inR e.version /\ inR e.origin /\ e.value.size <= maxLen
def entR : Rep Entry := flatR 4 Entry.cells Entry.wf (fun _ => rfl) (fun x u h => by simp [Entry.cells] at h; rcases h with rfl | rfl | rfl | rfl <;> rfl)
theorem Sl.ent {w : World} {b off c n : Nat} {xs : List Entry} (h : Sl entR w (.slice (some ⟨b, off, none⟩) n c) xs) {k : Nat} (hk : k < xs.length) :
  w.cell? ⟨b, off + k * 4, none⟩ = some (.string xs[k].key) /\ w.cell? ⟨b, off + k * 4 + 1, none⟩ = some (.int .i64 xs[k].version) /\
  w.cell? ⟨b, off + k * 4 + 2, none⟩ = some (.int .i64 xs[k].origin) /\ w.cell? ⟨b, off + k * 4 + 3, none⟩ = some (.string xs[k].value) /\ xs[k].wf := by
 obtain ⟨cs, ⟨rfl, hw⟩, hc⟩ := h.cell hk
 exact ⟨hc 0 _ rfl, hc 1 _ rfl, hc 2 _ rfl, hc 3 _ rfl, hw⟩
theorem keyc_any (c : UInt8) (w : World) : Calls Tryz.prog 106 #[.int .u8 c.toNat] w fun e w' => e = .returned (.bool (!keyc c)) /\ w = w' := by
 go_enter Tryz.func106, Tryz.ntmps106
 go_wp2
 all_goals (go_ret; refine ⟨eb ?_, rfl⟩; unfold keyc; rw [Bool.eq_iff_iff]; simp; omega)
theorem idxKey_any (xs : List UInt8) (b off c : Nat) (w : World) (hc : ∀ k, (h : k < xs.length) -> w.cell? ⟨b, off + k, none⟩ = some (.int .u8 xs[k].toNat)) (hl : xs.length <= 9223372036854775806) :
  Calls Tryz.prog 139 #[.slice (some ⟨b, off, none⟩) xs.length c, .func (.func 106) #[] #[]] w fun e w' =>
   (∃ n : Int, e = .returned (.int .i64 n) /\ (decide (0 <= n) = !xs.all keyc)) /\ w = w' := by
 go_enter Tryz.func139, Tryz.ntmps139
 go_wp2_with fail
 go_loop [5, 8] (fun _ i => ∃ k : Nat, k <= xs.length /\ i = .int .i64 k /\ ∀ j, (h : j < xs.length) -> j < k -> keyc xs[j] = true) (fun _ i => xs.length - (intOf i).toNat)
 case atStart => exact ⟨0, zam _, rfl, fun j _ h => absurd h (by omega)⟩
 case round =>
  obtain ⟨k, hk, rfl, hall⟩ := hrel
  have HA := zaa hall
  clear hall
  by_cases hlt : k < xs.length
  · have hcell := hc k hlt
    have HC := zaa hc
    clear hc
    go_wp2_with (go_at_call 106; refine (keyc_any _ _).mono ?_; rintro e w' ⟨rfl, rfl⟩)
    · go_ret
      have hno : keyc xs[k] = false := by simpa using ‹(!keyc xs[k]) = true›
      refine ⟨⟨(k : Int), rfl, ?_⟩, rfl⟩
      have : xs.all keyc = false := List.all_eq_false.2 ⟨xs[k], zap hlt, by simp [hno]⟩
      simp [this]
    · have hyes : keyc xs[k] = true := by simpa using ‹(!keyc xs[k]) = false›
      go_round
      case rel =>
       refine ⟨k + 1, by omega, by go_num, fun j hj hjk => ?_⟩
       by_cases e : j = k
       · subst e; exact hyes
       · exact HA.out j hj (by omega)
      case measure => simp [intOf]; omega
  · go_wp2
    go_ret
    refine ⟨⟨-1, rfl, ?_⟩, rfl⟩
    have : xs.all keyc = true := by
     rw [List.all_eq_true]
     intro x hx
     obtain ⟨j, hj, rfl⟩ := zal hx
     exact HA.out j hj (by omega)
    simp [this]
theorem conKey_any (xs : List UInt8) (b off c : Nat) (w : World) (hc : ∀ k, (h : k < xs.length) -> w.cell? ⟨b, off + k, none⟩ = some (.int .u8 xs[k].toNat)) (hl : xs.length <= 9223372036854775806) :
  Calls Tryz.prog 105 #[.slice (some ⟨b, off, none⟩) xs.length c, .func (.func 106) #[] #[]] w fun e w' =>
   e = .returned (.bool (!xs.all keyc)) /\ w = w' := by
 have HC := zaa hc
 clear hc
 go_enter Tryz.func105, Tryz.ntmps105
 go_wp2_with (go_at_call 139; refine (idxKey_any xs b off c _ HC.out hl).mono ?_; rintro e w' ⟨⟨n, rfl, hn⟩, rfl⟩)
 go_ret
 exact ⟨rfl, rfl⟩
theorem key_any (s : ByteArray) (w : World) :
  Calls Tryz.prog 73 #[.string s] w fun e w' => e = .returned (.bool (keyOk s)) /\ Below w.heap.size w w' := by
 rcases zaK s.size with h0 | h0
 · have h1 : s.toList.isEmpty = true := by rw [empty_iff]; simp [h0]
   have H0 := zaa h0
   clear h0
   go_enter Tryz.func73, Tryz.ntmps73
   go_wp2_with fail
   go_ret
   exact ⟨eb (by simp [keyOk, H0.out]), zad _ _⟩
 · have h1 : s.toList.isEmpty = false := by rw [empty_iff]; exact decide_eq_false (by omega)
   by_cases h8 : (8 : Int) < (s.size : Int)
   · go_enter Tryz.func73, Tryz.ntmps73
     go_wp2_with fail
     go_ret
     exact ⟨eb (by simp [keyOk]; omega), zad _ _⟩
   · obtain ⟨cap, w1, hconv, hB, hz, hcell, _, _⟩ := conv_bytes (P := Tryz.prog) w 9 98 5 s Tryz.underlying9 Tryz.underlying98 Tryz.underlying5
     have HC := zaa hcell
     clear hcell
     have HB := zaa hB
     clear hB
     go_enter Tryz.func73, Tryz.ntmps73
     go_wp2_with fail
     have hsz := size_toList s
     have he := conKey_any s.data.toList w.heap.size 0 cap w1 HC.out (by rw [hsz]; omega)
     rw [hsz] at he
     refine he.mono ?_
     rintro e w' ⟨rfl, rfl⟩
     clear hsz he
     go_wp2_with fail
     go_ret
     exact ⟨eb (by simp [keyOk]; omega), HB.out⟩
theorem entry_any (e : Entry) (w : World) : Calls Tryz.prog 44 #[e.val] w fun r w' => r = .returned (.bool (entryOk e)) /\ Below w.heap.size w w' := by
 unfold Entry.val
 go_enter Tryz.func44, Tryz.ntmps44
 go_wp2_with fail
 refine (key_any _ _).mono ?_
 rintro r w1 ⟨rfl, hb1⟩
 obtain ⟨hA, hN, hF, hS⟩ := pastAlloc hb1
 have HA := zaa hA
 clear hA hb1 hF
 go_wp2_with fail
 all_goals (go_ret; refine ⟨eb ?_, HA.out⟩; unfold entryOk; rw [Bool.eq_iff_iff]; simp [*]; try omega)
theorem check_any (v : Value) (xs : List Entry) (w : World) (h : Sl entR w v xs) :
  Calls Tryz.prog 15 #[v] w fun e w' => e = .returned (.int .i64 (checkS xs)) /\ Below w.heap.size w w' := by
 have h0 := h
 obtain ⟨A, c, rfl, hlc, hcm, _⟩ := h0
 have hl : xs.length <= 9223372036854775807 := by unfold maxLen at hcm; omega
 have H := zaa h
 clear h hlc hcm
 by_cases h60 : 60 < xs.length
 · have h60' : (60 : Int) < (xs.length : Int) := by omega
   go_enter Tryz.func15, Tryz.ntmps15
   go_wp2_with fail
   go_ret
   exact ⟨ei (by simp [checkS, h60]), zad _ _⟩
 · have h60' : ¬ (60 : Int) < (xs.length : Int) := by omega
   go_enter Tryz.func15, Tryz.ntmps15
   go_wp2_with fail
   have hs0 : checkS xs = chk xs (xs.length - 0) 0 := by simp [checkS, h60]
   go_loopw [2, 3, 4, 10, 11, 12] (fun _ _ _ i _ _ wr => ∃ k : Nat, k <= xs.length /\ i = .int .i64 k /\ Below w.heap.size w wr /\ checkS xs = chk xs (xs.length - k) k) (fun _ _ _ i _ _ _ => xs.length - (intOf i).toNat)
   case atStart => exact ⟨0, zam _, rfl, zad _ _, hs0⟩
   case round =>
    obtain ⟨k, hk, rfl, hB, hs⟩ := hrel
    have HS := zaa hs
    clear hs hs0
    by_cases hlt : k < xs.length
    · obtain ⟨b, off, rfl, hb⟩ := H.out.at_ hlt
      obtain ⟨f1, f2, f3, f4, _⟩ := (H.out.below hB).ent hlt
      have hz := hB.size
      go_wp2_with fail
      refine (entry_any xs[k] _).mono ?_
      rintro r w1 ⟨rfl, hb1⟩
      obtain ⟨hA, hN, hF, hS⟩ := pastAlloc hb1
      have hB1 := hB.trans (hA.mono hz)
      have HB1 := zaa hB1
      clear hA hb1 hF f1 f2 f3 f4
      go_wp2_with fail
      · go_ret
        have hno : entryOk xs[k] = false := by simpa using ‹(!entryOk xs[k]) = true›
        exact ⟨ei (by rw [HS.out, chk_bad xs k hlt hno]), HB1.out⟩
      · have hyes : entryOk xs[k] = true := by simpa using ‹(!entryOk xs[k]) = false›
        rcases zaK k with h0 | h0
        · subst h0
          go_quiet (fail)
          go_wp2
          go_roundw
          case rel => exact ⟨1, by omega, by go_num, bDrewN HB1.out _, by rw [HS.out]; exact chk_first xs hlt hyes⟩
          case measure => simp [intOf]; omega
        · obtain ⟨m, rfl⟩ : ∃ m, k = m + 1 := ⟨k - 1, by omega⟩
          have hd : decide ((0 : Int) < (m : Int) + 1) = true := by rw [decide_eq_true_iff]; omega
          have hm : m < xs.length := by omega
          have q2 : (m : Int) < (xs.length : Int) := by omega
          obtain ⟨f1, _, _, _, _⟩ := (H.out.below HB1.out).ent hm
          go_quiet (fail)
          go_wp2
          · go_ret
            have ho : ltB xs[m].key xs[m + 1].key = false := by simpa using ‹(!ltB xs[m].key xs[m + 1].key) = true›
            exact ⟨ei (by rw [HS.out, chk_order xs m hlt hyes ho]), bDrewN HB1.out _⟩
          · have ho : ltB xs[m].key xs[m + 1].key = true := by simpa using ‹(!ltB xs[m].key xs[m + 1].key) = false›
            go_roundw
            case rel => exact ⟨m + 1 + 1, by omega, by go_num, bDrewN HB1.out _, by rw [HS.out]; exact chk_next xs m hlt hyes ho⟩
            case measure => simp [intOf]; omega
    · go_wp2
      go_ret
      exact ⟨ei (by rw [HS.out, chk_end xs k (by omega)]), hB⟩
end
end Go.Proofs.YtbhbilenbbldnaaGreatDoor
