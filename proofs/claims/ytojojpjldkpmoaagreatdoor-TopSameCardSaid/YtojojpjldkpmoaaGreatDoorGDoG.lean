/-
  
-/
import Derived.Test.YtojojpjldkpmoaaGreatDoorGTxD
import Derived.Test.YtojojpjldkpmoaaGreatDoorGDoD
set_option linter.unusedVariables false
set_option linter.unusedSimpArgs false
set_option maxHeartbeats 16000000
namespace Go.Proofs.YtojojpjldkpmoaaGreatDoor
open Go Go.RowKit
def TPref (xs : List Prefix) (e : Ending) : Prop := e = .returned (.tuple #[.string (if chkPrefs xs = 0 then bOf (prefsT xs) else ⟨#[]⟩), .int .i64 (chkPrefs xs)])
theorem tp_good {xs : List Prefix} (h : chkPrefs xs = 0) : TPref xs (.returned (.tuple #[.string (bOf (prefsT xs)), .int .i64 0])) := by unfold TPref; rw [if_pos h, h]
theorem tp_bad {xs : List Prefix} (h : chkPrefs xs ≠ 0) : TPref xs (.returned (.tuple #[.string ⟨#[]⟩, .int .i64 (chkPrefs xs)])) := by unfold TPref; rw [if_neg h]
theorem join_any (v : Value) (l : List (List UInt8)) (w : World) (h : Sl strR w v (l.map bOf)) (hl : l.length <= 100) (hx : ∀ x ∈ l, x.length <= 20) :
  Calls Tryz.prog 92 #[v, .string ⟨#[44]⟩] w fun e w' => e = .returned (.string (bOf (Lib.join l [44]))) /\ Below w.heap.size w w' := by
 obtain ⟨A, c, hv, h1, h2, h3⟩ := h
 subst hv
 rcases zaJ l.length with h0 | h0
 · have : l = [] := zat h0
   subst this
   refine (Tryz.strings_Join_none A c ⟨#[44]⟩ w).mono ?_
   rintro e w' ⟨rfl, rfl⟩
   exact ⟨rfl, zad _ _⟩
 · obtain ⟨b, off, cs, e1, _, e3, _, _⟩ := h3 0 (bOf l[0]) (by rw [zbt, zac h0]; rfl)
   subst e1
   have hm : (l.map bOf).map (·.data.toList) = l := by rw [List.map_map]; conv => rhs; rw [<- List.map_id l]
                                                       apply List.map_congr_left; intro x _; exact bOf_list x
   have hj := join_len 20 l hx
   have hc := Tryz.strings_Join b off c (l.map bOf) ⟨#[44]⟩ w (fun j x hx => by
    obtain ⟨b', off', cs', e1', _, _, e4', e5'⟩ := h3 j x hx
    injection e1' with e1'
    injection e1' with e6 e7
    subst e6 e7
    obtain ⟨rfl, _⟩ := e4'
    have := e5' 0 _ rfl
    simpa [strR, flatR] using this) e3 (by rw [zaV]; omega) h1 (by rw [hm]; show (Lib.join l [44]).length <= _; omega)
   rw [hm] at hc
   exact hc
theorem after_app2 {w2 w4 : World} {u v2 : Value} {n : Nat} {o : Obj} (hn : n < w2.heap.size) (hg : GrowTo (w2.alloc o) u w4 v2) (hu : ∀ k, u.ownBlock = some k -> k < n) : ∀ i, w4.cell? ⟨n, i, none⟩ = w2.cell? ⟨n, i, none⟩ := by
 intro i
 apply zav
 show w4.heap[n]? = w2.heap[n]?
 rw [hg.grown.block n (by simp; omega) (fun e => by have := hu n e.symm; omega)]
 exact zbj _ _ _ hn
set_option maxRecDepth 50000 in
theorem showPrefs_any (v : Value) (xs : List Prefix) (w : World) (h : Sl prefR w v xs) (hE : EnvT w) :
  Calls Tryz.prog 57 #[v] w fun e w' => TPref xs e /\ Below w.heap.size w w' := by
 have hl := h.len_le
 obtain ⟨A, c, rfl⟩ := h.form
 have H := zaa h
 have HE := zaa hE
 have HCK := zaa (checkPrefs_any _ xs w h)
 clear h hE
 by_cases hc : chkPrefs xs = 0
 · have HC := zaa hc
   have hn6 := prefs_len hc
   have HALL := zaa (prefs_all hc)
   rw [hc] at HCK
   clear hc
   go_enter Tryz.func57, Tryz.ntmps57
   go_wp2_with (go_at_call 53; refine HCK.out.mono ?_; rintro e w1 ⟨rfl, hb1⟩; have HB1 := zaa hb1; clear hb1)
   have HV1 := zaa (H.out.below HB1.out)
   go_loopw [5, 15] (fun o i wr => ∃ k : Nat, k <= xs.length /\ i = .int .i64 k /\ OwR strR 9 w1.heap.size wr o (((xs.take k).map prefT).map bOf) /\ Below w1.heap.size w1 wr) (fun _ i _ => xs.length - (intOf i).toNat)
   case atStart => exact ⟨0, zak _, rfl, OwR.nil _ _ (zab _), zad _ _⟩
   case round =>
    obtain ⟨k, hk, rfl, ho, hB⟩ := hrel
    have HO := zaa ho
    have HB := zaa hB
    clear ho hB
    by_cases hlt : k < xs.length
    · obtain ⟨b, off, rfl, hb⟩ := HV1.out.at_ hlt
      obtain ⟨f1, f2, i1, i2⟩ := (HV1.out.below HB.out).pref hlt
      obtain ⟨a1, a2, a3, a4⟩ := HALL.out k hlt
      have HT := zaa (show prefT xs[k] = pairT 47 xs[k].addr xs[k].bits from rfl)
      have hsuc : ((xs.take (k + 1)).map prefT).map bOf = ((xs.take k).map prefT).map bOf ++ [bOf (prefT xs[k])] := by
       rw [zar hlt, zbf, zbf]; rfl
      rw [HT.out] at hsuc
      have HSUC := zaa hsuc
      have hn1 : (((xs.take k).map prefT).map bOf).length + 1 <= 1000000000000 := by rw [zaV, zaV, zaq]; omega
      have HN1 := zaa hn1
      have hpl := pair_len 47 xs[k].addr xs[k].bits a3 (by omega) a1 (by omega)
      have ea := itoa_pos a3
      have eb := itoa_pos a1
      have la := dec_len 4 xs[k].addr.toNat (by omega)
      have lb := dec_len 4 xs[k].bits.toNat (by omega)
      generalize xs[k].addr = p at *
      generalize xs[k].bits = q at *
      have hpc := pair_cat 47 p q
      have HIA := zaa (fun w h => itoa_any p w i1 h)
      have HIB := zaa (fun w h => itoa_any q w i2 h)
      rw [ea] at HIA
      rw [eb] at HIB
      have HPL := zaa hpl
      have za : (bOf (Lib.decDigits p.toNat)).size <= 5 := by rw [bOf_size]; exact la
      have zb : (bOf (Lib.decDigits q.toNat)).size <= 5 := by rw [bOf_size]; exact lb
      have r1 : ∀ w, (Op.stringOp .add (bOf (Lib.decDigits p.toNat)) ⟨#[47]⟩).run Tryz.prog w = .ok (.string (bOf (Lib.decDigits p.toNat) ++ ⟨#[47]⟩)) w := fun w => run_string_add_sum w _ _ (by show _ + 1 <= _; omega)
      have r2 : ∀ w, (Op.stringOp .add (bOf (Lib.decDigits p.toNat) ++ ⟨#[47]⟩) (bOf (Lib.decDigits q.toNat))).run Tryz.prog w = .ok (.string (bOf (pairT 47 p q))) w := fun w => by
       rw [run_string_add_sum w _ _ (by rw [ByteArray.size_append]; show _ + 1 + _ <= _; omega), hpc]
      have hz1 : w1.heap.size <= wr.heap.size := HB.out.size
      have hwf : (bOf (pairT 47 p q)).size <= maxLen := by rw [bOf_size]; unfold maxLen; omega
      have HWF := zaa hwf
      have HOWN := zaa (fun k (h : Value.ownBlock u5 = some k) => (HO.out.base_le k h).2)
      clear ea eb la lb hpc hpl hsuc hn1 a1 a2 a3 a4 i1 i2 hwf
      have hcl : ∀ w', Below (wr.heap.size + 1) (wr.alloc (.cells #[.int .i64 p, .int .i64 q] 32)) w' -> w'.cell? ⟨wr.heap.size, 0, none⟩ = some (.int .i64 p) /\ w'.cell? ⟨wr.heap.size, 1, none⟩ = some (.int .i64 q) /\ EnvT w' /\ Below w1.heap.size w1 w' /\ OwR strR 9 w1.heap.size w' u5 (((xs.take k).map prefT).map bOf) /\ wr.heap.size < w'.heap.size := by
       intro w' hb'
       have hq : Below wr.heap.size wr w' := ((zad _ _).alloc (zab _) _).trans (hb'.mono (by omega))
       refine ⟨?_, ?_, (HE.out.below HB1.out).below (HB.out.trans (hq.mono hz1)), HB.out.trans (hq.mono hz1), HO.out.keep hq, by have := hb'.size; simp at this; omega⟩
       · rw [hb'.cell (p := ⟨wr.heap.size, 0, none⟩) (by simp), zae _ _ _ _ rfl]; rfl
       · rw [hb'.cell (p := ⟨wr.heap.size, 1, none⟩) (by simp), zae _ _ _ _ rfl]; rfl
      have HCL := zaa hcl
      have HB0 := zaa (zad (wr.heap.size + 1) (wr.alloc (.cells #[.int .i64 p, .int .i64 q] 32))).drew
      clear hcl
      go_wp2_with fail
      go_region_held3 (fun w' => w'.cell? ⟨wr.heap.size, 0, none⟩ = some (.int .i64 p) /\ w'.cell? ⟨wr.heap.size, 1, none⟩ = some (.int .i64 q)) (first | go_keep | exact ⟨k1, k2⟩)
       (first
        | (go_at_call 59; refine (HIA.out _ (HCL.out _ (by first | exact HBB.out | exact HB0.out)).2.2.1).mono ?_; rintro e w2 ⟨rfl, hb2⟩; have HBB := zaa (Below.trans (by first | exact HBB.out | exact HB0.out) (hb2.mono (HCL.out _ (by first | exact HBB.out | exact HB0.out)).2.2.2.2.2)); clear hb2; obtain ⟨k1, k2, _⟩ := HCL.out _ HBB.out)
        | (go_at_call 59; refine (HIB.out _ (HCL.out _ (by first | exact HBB.out | exact HB0.out)).2.2.1).mono ?_; rintro e w2 ⟨rfl, hb2⟩; have HBB := zaa (Below.trans (by first | exact HBB.out | exact HB0.out) (hb2.mono (HCL.out _ (by first | exact HBB.out | exact HB0.out)).2.2.2.2.2)); clear hb2; obtain ⟨k1, k2, _⟩ := HCL.out _ HBB.out)
        | (refine step_gen (base := w1.heap.size) elt_strA (by rfl) (.tmp 19) (.tmp 28) (by rfl) (ow_alloc (HCL.out _ HBB.out).2.2.2.2.1 _) (one_flat (r := strR) (cs := [.string (bOf (pairT 47 p q))]) (x := bOf (pairT 47 p q)) rfl ⟨rfl, HWF.out⟩) (fun _ _ h => h) (by rfl) (by rfl) HN1.out (by decide) ?_; intro v2 w4 ho2 hg2; have HG2 := zaa hg2; have k1 := (after_app2 (HCL.out _ HBB.out).2.2.2.2.2 hg2 HOWN.out 0).trans (HCL.out _ HBB.out).1; have k2 := (after_app2 (HCL.out _ HBB.out).2.2.2.2.2 hg2 HOWN.out 1).trans (HCL.out _ HBB.out).2.1; clear hg2))
      all_goals
       have hb4 := (ow_alloc (HCL.out _ HBB.out).2.2.2.2.1 (.cells #[.string (bOf (pairT 47 p q))] 9)).below_grown ((HCL.out _ HBB.out).2.2.2.1.alloc (HCL.out _ HBB.out).2.2.2.1.size (.cells #[.string (bOf (pairT 47 p q))] 9)) HG2.out.grown
       have HB4 := zaa hb4
       have HO2 := zaa ho2
       clear hb4 ho2 k1 k2
       go_wp2_with fail
       go_roundw
       case rel => exact ⟨k + 1, by omega, by go_num, by rw [HSUC.out]; exact HO2.out, HB4.out⟩
       case measure => simp [intOf]; omega
    · have hte : xs.take k = xs := zaG (by omega)
      rw [hte] at HO
      have hj := fun w h => join_any u5 (xs.map prefT) w h (by rw [zaV]; omega) (fun x hx => by
       obtain ⟨p, hp, rfl⟩ := zbm.1 hx
       obtain ⟨i, hi, rfl⟩ := zaj hp
       obtain ⟨a1, a2, a3, a4⟩ := HALL.out i hi
       exact pair_len 47 _ _ a3 (by omega) a1 (by omega))
      have HJ := zaa hj
      clear hj hte
      go_wp2_with (go_at_call 92; refine (HJ.out _ (HO.out.sl (by decide))).mono ?_; rintro e w3 ⟨rfl, hb3⟩)
      go_ret2
      exact ⟨tp_good HC.out, HB1.out.trans ((HB.out.trans (hb3.mono HB.out.size)).mono HB1.out.size)⟩
 · have hcb : (chkPrefs xs == 0) = false := by rw [beq_eq_false_iff_ne]; exact hc
   have HC := zaa hc
   clear hc
   go_enter Tryz.func57, Tryz.ntmps57
   go_wp2_with (go_at_call 53; refine HCK.out.mono ?_; rintro e w1 ⟨rfl, hb1⟩)
   go_ret2
   exact ⟨tp_bad HC.out, hb1⟩
theorem add_run (S T : List UInt8) (h : S.length + T.length <= 9223372036854775807) (w : World) : (Op.stringOp .add (bOf S) (bOf T)).run Tryz.prog w = .ok (.string (bOf (S ++ T))) w := by
 rw [run_string_add_sum w _ _ (by rw [bOf_size, bOf_size]; exact h), bOf_app]
end Go.Proofs.YtojojpjldkpmoaaGreatDoor
