/-
  
-/
import Derived.Test.YtbhbilenbbldnaaGreatDoorGStQ
import Derived.Test.YtbhbilenbbldnaaGreatDoorGKeB
import Derived.Test.YtbhbilenbbldnaaGreatDoorGDec
set_option linter.unusedVariables false
set_option linter.unusedSimpArgs false
namespace Go.Proofs.YtbhbilenbbldnaaGreatDoor
open Go.RowKit Go.Deep
theorem Sl.wfs {w : World} {v : Value} {xs : List Entry} (h : Sl entR w v xs) : ∀ e ∈ xs, e.wf := by
 intro e he
 obtain ⟨j, hj, rfl⟩ := List.getElem_of_mem he
 obtain ⟨A, c, rfl⟩ := h.form
 obtain ⟨b, off, rfl, _⟩ := h.at_ hj
 exact (h.ent hj).2.2.2.2
end Go.Proofs.YtbhbilenbbldnaaGreatDoor

namespace Go.Proofs.YtbhbilenbbldnaaGreatDoor
open Go.RowKit Go.Deep
def oneS (s : List Entry) (r : Raw) : List Entry := (mergeStep aboveE (s, []) (rawE r)).1
def stoS (l : List Raw) : List Entry := l.foldl oneS []
theorem stoS_succ (l : List Raw) (k : Nat) (h : k < l.length) : stoS (l.take (k + 1)) = oneS (stoS (l.take k)) l[k] := by
 unfold stoS
 rw [List.take_succ_eq_append_getElem h, List.foldl_append]; rfl
theorem oneS_ok {s : List Entry} (h : OkS s) (r : Raw) : OkS (oneS s r) := mergeStep_ok (p := (s, [])) h (rawE_ok r)
theorem foldl_one_ok : ∀ (l : List Raw) (s : List Entry), OkS s → OkS (l.foldl oneS s)
 | [], _, h => h
 | r :: l, _, h => foldl_one_ok l _ (oneS_ok h r)
theorem stoS_ok (l : List Raw) : OkS (stoS l) := foldl_one_ok l [] OkS.nil
theorem okS_one (r : Raw) : OkS [rawE r] := ⟨by simp, by intro e he; simp at he; subst he; exact rawE_ok r, List.pairwise_singleton _ _⟩
theorem merge_one {s : List Entry} (h : OkS s) (r : Raw) : mergeS aboveE s [rawE r] = (oneS s r, (mergeStep aboveE (s, []) (rawE r)).2, 0) := by
 rw [merge_ok h.check (okS_one r).check]
 rfl
def NewS (w : World) (ys : List Entry) (e : Ending) (w' : World) : Prop := ∃ v', e = .returned v' ∧ Sl entR w' v' ys ∧ Below w.heap.size w w'
set_option maxRecDepth 100000 in
set_option maxHeartbeats 2000000 in
theorem store_any (v : Value) (xs : List Raw) (most : Nat) (w : World) (h : Sl rawR w v xs) (hm : most ≤ 1000) :
  Calls Tryz.prog 45 #[v, .int .i64 (most : Nat)] w (NewS w (stoS (xs.take most))) := by
 have hlen := h.len_le
 obtain ⟨A, c, rfl⟩ := h.form
 have H := Go.Lib.hid h
 clear h
 go_enter Tryz.func45, Tryz.ntmps45
 go_wp2_with fail
 go_loopw [5, 6, 7, 8, 9] (fun s5 s6 _ _ _ wr => ∃ k : Nat, k ≤ xs.length ∧ k ≤ most ∧ s6 = .int .i64 k ∧ Sl entR wr s5 (stoS (xs.take k)) ∧ Below w.heap.size w wr) (fun _ s6 _ _ _ _ => xs.length - (intOf s6).toNat)
 case atStart => exact ⟨0, Nat.zero_le _, Nat.zero_le _, rfl, Sl.nil _ _, Below.refl _ _⟩
 case round =>
  obtain ⟨k, hk, hkm, rfl, hs, hB⟩ := hrel
  have HS := Go.Lib.hid hs
  have HB := Go.Lib.hid hB
  by_cases hgo : k < xs.length ∧ k < most
  · obtain ⟨hlt, hlm⟩ := hgo
    obtain ⟨b, off, rfl, hb⟩ := H.out.at_ hlt
    obtain ⟨f1, f2, f3, f4, n1, n2, n3, n4⟩ := (H.out.below hB).raw hlt
    have hsucc := stoS_succ xs k hlt
    have hok := stoS_ok (xs.take k)
    obtain ⟨y, hy⟩ : ∃ y, xs[k] = y := ⟨_, rfl⟩
    obtain ⟨s, hss⟩ : ∃ s, stoS (xs.take k) = s := ⟨_, rfl⟩
    rw [hy] at f1 f2 f3 f4 n1 n2 n3 n4 hsucc
    rw [hss] at hok hsucc hs
    have HSUC := Go.Lib.hid hsucc
    have HOK := Go.Lib.hid hok
    have HS2 := Go.Lib.hid hs
    have HEN := Go.Lib.hid (entryE_any y wr n1 n2 n3 n4)
    have r0 : (0 : Int) ≤ (k : Int) := Int.natCast_nonneg _
    have r1 : (k : Int) < (xs.length : Int) := by omega
    have r2 : (k : Int) < (most : Int) := by omega
    have hez := hB.size
    clear hs hB hy hss hsucc hok HS n1 n2 n3 n4
    go_wp2_with fail
    refine HEN.out.mono ?_
    rintro e w1 ⟨rfl, hb1⟩
    have hx := rawE_wf y
    have hmo := merge_one HOK.out y
    have hB1 := HB.out.trans (hb1.mono hez)
    have hS1 := HS2.out.below hb1
    obtain ⟨x, hxe⟩ : ∃ x, rawE y = x := ⟨_, rfl⟩
    rw [hxe] at hx hmo ⊢
    unfold Entry.val
    have hal : Below w1.heap.size w1 (w1.alloc (.cells #[.string x.key, .int .i64 x.version, .int .i64 x.origin, .string x.value] 40)) := (Below.refl _ _).alloc (Nat.le_refl _) _
    have HM := Go.Lib.hid (merge_any _ _ s [x] _ (hS1.below hal) (sl_ent (ins_val (w := w1) (x := x)) hx) (by intro e he; simp at he; subst he; exact hx) hS1.wfs)
    have HB1 := Go.Lib.hid (hB1.trans (hal.mono hB1.size))
    have HMO := Go.Lib.hid hmo
    clear hb1 hx hmo hB1 hS1 hxe hal f1 f2 f3 f4
    go_wp2_with fail
    refine HM.out.mono ?_
    rintro e w2 ⟨v2, u2, rfl, ht2, hb2⟩
    rw [HMO.out] at ht2 ⊢
    have HT2 := Go.Lib.hid (ht2.out.sl (by decide))
    have HB2 := Go.Lib.hid (HB1.out.trans (hb2.mono HB1.out.size))
    clear ht2 hb2
    go_wp2_with fail
    go_roundw
    case rel => exact ⟨k + 1, by omega, by omega, by go_num, by rw [HSUC.out]; exact HT2.out, HB2.out⟩
    case measure => simp [intOf]; omega
  · have hfin : xs.take k = xs.take most := by
     by_cases h1 : k = most
     · rw [h1]
     · rw [List.take_of_length_le (by omega), List.take_of_length_le (by omega)]
    rw [hfin] at hs
    have HS3 := Go.Lib.hid hs
    clear hs hB hfin HS
    by_cases hlt : k < xs.length
    · have r1 : (k : Int) < (xs.length : Int) := by omega
      have r2 : ¬ (k : Int) < (most : Int) := by omega
      clear hgo
      go_wp2_with fail
      go_ret
      exact ⟨_, rfl, HS3.out, HB.out⟩
    · have r1 : ¬ (k : Int) < (xs.length : Int) := by omega
      clear hgo
      go_wp2_with fail
      go_ret
      exact ⟨_, rfl, HS3.out, HB.out⟩
def tells : List Entry := stoS ([⟨1, 1, 1, 1⟩, ⟨2, 2, 2, 2⟩] : List Raw)
theorem tells_len : 0 < tells.length ∧ (mergeS aboveE [] tells).2.2 = 0 ∧ (mergeS aboveE [] tells).1.length = tells.length := by decide +kernel
set_option maxRecDepth 100000 in
set_option maxHeartbeats 1000000 in
theorem tells_any (w : World) : Calls Tryz.prog 17 #[] w fun e w' => e = .returned (.bool true) ∧ Below w.heap.size w w' := by
 have hal : Below w.heap.size w (w.alloc (.cells #[.int .i64 1, .int .i64 1, .int .i64 1, .int .i64 1, .int .i64 2, .int .i64 2, .int .i64 2, .int .i64 2] 81)) := (Below.refl _ _).alloc (Nat.le_refl _) _
 have hsl : Sl rawR (w.alloc (.cells #[.int .i64 1, .int .i64 1, .int .i64 1, .int .i64 1, .int .i64 2, .int .i64 2, .int .i64 2, .int .i64 2] 81)) (.slice (some ⟨w.heap.size, 0, none⟩) 2 2) ([⟨1, 1, 1, 1⟩, ⟨2, 2, 2, 2⟩] : List Raw) := by
  refine ⟨some ⟨w.heap.size, 0, none⟩, 2, rfl, Nat.le_refl _, by decide, fun i x hx => ?_⟩
  match i, hx with
  | 0, hx =>
    simp at hx; subst hx
    refine ⟨w.heap.size, 0, _, rfl, by simp, by simp, ⟨rfl, by refine ⟨?_, ?_, ?_, ?_⟩ <;> (show inR _; unfold inR; simp)⟩, fun j u hu => ?_⟩
    rw [World.cell?_alloc_at _ _ _ _ rfl]
    match j, hu with
    | 0, hu => simpa [rawR, flatR] using hu
    | 1, hu => simpa [rawR, flatR] using hu
    | 2, hu => simpa [rawR, flatR] using hu
    | 3, hu => simpa [rawR, flatR] using hu
    | j + 4, hu => simp at hu
  | 1, hx =>
    simp at hx; subst hx
    refine ⟨w.heap.size, 0, _, rfl, by simp, by simp, ⟨rfl, by refine ⟨?_, ?_, ?_, ?_⟩ <;> (show inR _; unfold inR; simp)⟩, fun j u hu => ?_⟩
    rw [World.cell?_alloc_at _ _ _ _ rfl]
    match j, hu with
    | 0, hu => simpa [rawR, flatR] using hu
    | 1, hu => simpa [rawR, flatR] using hu
    | 2, hu => simpa [rawR, flatR] using hu
    | 3, hu => simpa [rawR, flatR] using hu
    | j + 4, hu => simp at hu
  | i + 2, hx => simp at hx
 have HST := Go.Lib.hid (store_any _ _ 20 _ hsl (by omega))
 have HAL := Go.Lib.hid hal
 clear hsl hal
 go_enter Tryz.func17, Tryz.ntmps17
 go_wp2_with fail
 refine HST.out.mono ?_
 rintro e w1 ⟨v1, rfl, hs1, hb1⟩
 have hs1' : Sl entR w1 v1 tells := hs1
 have HS1 := Go.Lib.hid hs1'
 have HB1 := Go.Lib.hid (HAL.out.trans (hb1.mono HAL.out.size))
 have HM := Go.Lib.hid (merge_any (.slice none 0 0) v1 [] tells w1 (Sl.nil _ _) hs1' hs1'.wfs (by intro e he; simp at he))
 obtain ⟨A1, c1, rfl⟩ := hs1'.form
 clear hs1 hs1' hb1
 go_wp2_with fail
 refine HM.out.mono ?_
 rintro e w2 ⟨v2, u2, rfl, ht2, hb2⟩
 obtain ⟨l1, l2, l3⟩ := tells_len
 rw [l2]
 have hsm := ht2.out.sl (by decide)
 have hok : OkS (mergeS aboveE [] tells).1 := by
  have htk : OkS tells := stoS_ok _
  have h1 := merge_ok OkS.nil.check htk.check
  rw [h1]
  exact mTo_ok OkS.nil htk.ok _
 have HB2 := Go.Lib.hid (HB1.out.trans (hb2.mono HB1.out.size))
 have HEN := Go.Lib.hid (encode_any _ _ w2 hsm)
 obtain ⟨m, hmm⟩ : ∃ m, (mergeS aboveE [] tells).1 = m := ⟨_, rfl⟩
 rw [hmm] at hsm hok HEN l3
 obtain ⟨A2, c2, rfl⟩ := hsm.form
 have hck := hok.check
 have hel := (encS_len m hok).1
 have her : encR m = encS m := by unfold encR; rw [if_pos hck]
 unfold EncPost at HEN
 rw [hck, her] at HEN
 obtain ⟨nt, hnt⟩ : ∃ n, tells.length = n := ⟨_, rfl⟩
 obtain ⟨nm, hnm⟩ : ∃ n, m.length = n := ⟨_, rfl⟩
 obtain ⟨ne, hne⟩ : ∃ n, (encS m).length = n := ⟨_, rfl⟩
 rw [hnt] at l1 l3 ⊢
 rw [hnm] at l3 HEN ⊢
 rw [hne] at hel
 have HNE := Go.Lib.hid hne
 have e1 : ((nm : Int) == (nt : Int)) = true := by simp; omega
 have e2 : (0 : Int) < (nm : Int) := by omega
 have e3 : (0 : Int) < (ne : Int) := by omega
 clear ht2 hb2 hsm hok hmm hck her hnt hnm hne l2 l3 l1 hel
 go_wp2_with fail
 refine HEN.out.mono ?_
 rintro e w3 ⟨v3, rfl, ho3, hb3⟩
 obtain ⟨A3, c3, hv3⟩ := (ho3.sl (by decide)).form
 subst hv3
 have HB3 := Go.Lib.hid (HB2.out.trans (hb3.mono HB2.out.size))
 rw [HNE.out]
 clear ho3 hb3
 go_wp2_with fail
 go_ret
 exact ⟨eb (by simp <;> omega), HB3.out⟩
end Go.Proofs.YtbhbilenbbldnaaGreatDoor
