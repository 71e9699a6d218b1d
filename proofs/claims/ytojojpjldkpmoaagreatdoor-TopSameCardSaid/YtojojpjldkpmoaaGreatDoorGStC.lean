/-
  
-/
import Derived.Test.YtojojpjldkpmoaaGreatDoorGOwn
import Derived.Test.YtojojpjldkpmoaaGreatDoorGStB
import Derived.StillTailTactics
import Derived.Lib.Bytealg
import Derived.Lib.Small
import Derived.Laws.Externs
set_option linter.unusedVariables false
set_option linter.unusedSimpArgs false
set_option maxHeartbeats 16000000
namespace Go.Proofs.YtojojpjldkpmoaaGreatDoor
open Go.RowKit
def cmpI (x y : Int) : Int := if x < y then -1 else if y < x then 1 else 0
def cmpB (x y : ByteArray) : Int := if ltB x y = true then -1 else if ltB y x = true then 1 else 0
def orI (l : List Int) : Int := (l.find? (fun x => x != 0)).getD 0
def cmpE (a b : Entry) : Int := orI [cmpI a.version b.version, cmpI a.origin b.origin, cmpB a.value b.value]
def aboveE (a b : Entry) : Bool :=
 if a.version ≠ b.version then decide (b.version < a.version) else if a.origin ≠ b.origin then decide (b.origin < a.origin) else ltB b.value a.value
theorem cmpE_above (a b : Entry) : cmpE a b = if aboveE a b = true then 1 else if aboveE b a = true then -1 else 0 := by
 unfold cmpE aboveE orI cmpI cmpB
 by_cases h1 : a.version = b.version
 · by_cases h2 : a.origin = b.origin
   · simp [h1, h2]
     rcases e1 : ltB a.value b.value with _ | _
     · rcases e2 : ltB b.value a.value with _ | _ <;> simp
     · have e2 := ltB_asymm e1
       simp [e2]
   · rcases Int.lt_trichotomy a.origin b.origin with h | h | h
     · simp [h1, h, show ¬ b.origin < a.origin by omega, h2, Ne.symm h2]
     · exact absurd h h2
     · simp [h1, h, show ¬ a.origin < b.origin by omega, h2, Ne.symm h2]
 · rcases Int.lt_trichotomy a.version b.version with h | h | h
   · simp [h, show ¬ b.version < a.version by omega, h1, Ne.symm h1]
   · exact absurd h h1
   · simp [h, show ¬ a.version < b.version by omega, h1, Ne.symm h1]
theorem compareBytes_eq : ∀ a b : List UInt8, Lib.compareBytes a b = if Op.bytesLess a b = true then -1 else if Op.bytesLess b a = true then 1 else 0
 | [], [] => by simp [Lib.compareBytes, Op.bytesLess]
 | [], _ :: _ => by simp [Lib.compareBytes, Op.bytesLess]
 | _ :: _, [] => by simp [Lib.compareBytes, Op.bytesLess]
 | a :: ra, b :: rb => by
   simp only [Lib.compareBytes, Op.bytesLess, compareBytes_eq ra rb]
   by_cases h1 : a < b
   · simp [h1]
   · by_cases h2 : b < a
     · have : ¬ a = b := fun e => by subst e; exact h1 h2
       simp [h1, h2, this]
     · have e : a = b := by
        apply UInt8.toNat_inj.1
        rw [UInt8.lt_iff_toNat_lt] at h1 h2
        omega
       subst e
       simp [h1]
theorem isNaN_any (x : Int) (w : World) : Calls Tryz.prog 173 #[.int .i64 x] w fun e w' => e = .returned (.bool false) /\ w' = w := by
 go_enter Tryz.func173, Tryz.ntmps173
 go_wp2
 go_ret
 exact ⟨rfl, rfl⟩
theorem cmpInt_any (x y : Int) (w : World) : Calls Tryz.prog 142 #[.int .i64 x, .int .i64 y] w fun e w' => e = .returned (.int .i64 (cmpI x y)) /\ w' = w := by
 go_enter Tryz.func142, Tryz.ntmps142
 go_wp2_with (go_at_call 173; refine (isNaN_any _ _).mono ?_; rintro e w' ⟨rfl, rfl⟩)
 all_goals (go_ret; refine ⟨ei ?_, rfl⟩; unfold cmpI; (repeat' split) <;> first | rfl | (exfalso; omega))
theorem ext_cmp (a b : ByteArray) (w : World) : (callFunc 174 #[.string a, .string b]).run Tryz.prog w = .ok (.value (.int .i64 (Lib.compareBytes a.data.toList b.data.toList))) w := by
 rw [run_callFunc_extern Tryz.func174 (by kernel_rfl) (by kernel_rfl) (by kernel_rfl) (e := Extern.BytealgCompare.compare) (by kernel_rfl), Lib.run_compareString]
 rfl
theorem cmpStr0_any (a b : ByteArray) (w : World) : Calls Tryz.prog 144 #[.string a, .string b] w fun e w' => e = .returned (.int .i64 (cmpB a b)) /\ w' = w := by
 have h := ext_cmp a b
 go_enter Tryz.func144, Tryz.ntmps144
 go_wp2_with fail
 go_ret
 exact ⟨ei (compareBytes_eq _ _), rfl⟩
theorem cmpStr_any (a b : ByteArray) (w : World) : Calls Tryz.prog 106 #[.string a, .string b] w fun e w' => e = .returned (.int .i64 (cmpB a b)) /\ w' = w := by
 go_enter Tryz.func106, Tryz.ntmps106
 go_wp2_with (go_at_call 144; refine (cmpStr0_any _ _ _).mono ?_; rintro e w' ⟨rfl, rfl⟩)
 go_ret
 exact ⟨rfl, rfl⟩
theorem find_skip {l : List Int} {k : Nat} (hall : ∀ j, (h : j < l.length) -> j < k -> l[j] = 0) : orI l = orI (l.drop k) := by
 induction k generalizing l with
 | zero => rfl
 | succ k ih =>
   cases l with
   | nil => rfl
   | cons a r =>
     have h0 : a = 0 := hall 0 (by simp) (by omega)
     rw [zby, <- ih (l := r) (fun j hj hjk => by have := hall (j + 1) (by simpa using hj) (by omega); simpa using this)]
     simp [orI, h0]
theorem or_any (v : Value) (xs : List Int) (w : World) (h : Sl intR w v xs) :
  Calls Tryz.prog 141 #[v] w fun e w' => e = .returned (.int .i64 (orI xs)) /\ w' = w := by
 have hl := h.len_le
 obtain ⟨A, c, rfl⟩ := h.form
 have H := zaa h
 clear h
 go_enter Tryz.func141, Tryz.ntmps141
 go_wp2_with fail
 go_loop [5, 8] (fun _ i => ∃ k : Nat, k <= xs.length /\ i = .int .i64 k /\ ∀ j, (h : j < xs.length) -> j < k -> xs[j] = 0) (fun _ i => xs.length - (intOf i).toNat)
 case atStart => exact ⟨0, zak _, rfl, fun j _ h => absurd h (by omega)⟩
 case round =>
  obtain ⟨k, hk, rfl, hall⟩ := hrel
  have HA := zaa hall
  clear hall
  by_cases hlt : k < xs.length
  · obtain ⟨b, off, rfl, hb⟩ := H.out.at_ hlt
    obtain ⟨f1, _⟩ := H.out.int hlt
    by_cases hz : xs[k] = 0
    · have t1 : (xs[k] != 0) = false := by simp [hz]
      have HZ := zaa hz
      clear hz
      go_wp2_with fail
      go_round
      case rel =>
       refine ⟨k + 1, by omega, by go_num, fun j hj hjk => ?_⟩
       by_cases e : j = k
       · subst e; exact HZ.out
       · exact HA.out j hj (by omega)
      case measure => simp [intOf]; omega
    · have t1 : (xs[k] != 0) = true := by simp [hz]
      go_wp2_with fail
      go_ret
      refine ⟨ei ?_, rfl⟩
      rw [find_skip HA.out, List.drop_eq_getElem_cons hlt]
      unfold orI
      rw [List.find?_cons_of_pos (by simp [hz])]
      rfl
  · go_wp2_with fail
    go_ret
    refine ⟨ei ?_, rfl⟩
    rw [find_skip HA.out, zbY (by omega)]
    rfl
theorem pastAlloc2 {wr w1 : World} {cs ds : Array Value} {t u : TypeId} (h : Below ((wr.alloc (.cells cs t)).alloc (.cells ds u)).heap.size ((wr.alloc (.cells cs t)).alloc (.cells ds u)) w1) :
  Below wr.heap.size wr w1 /\ (∀ i, w1.cell? ⟨wr.heap.size, i, none⟩ = cs[i]?) /\ (∀ i, w1.cell? ⟨wr.heap.size + 1, i, none⟩ = ds[i]?) /\ wr.heap.size + 1 < w1.heap.size := by
 obtain ⟨h1, h2, _, h4⟩ := pastAlloc h
 rw [zbp] at h1 h2 h4
 obtain ⟨g1, g2, _, _⟩ := pastAlloc (wr := wr) (w1 := w1) (cs := cs) (t := t) (by rw [zbp]; exact h1)
 exact ⟨g1, g2, h2, h4⟩
theorem still_tail {P : Program} {id : Nat} {Q : Exit -> Act -> World -> Prop} {a : Act} {w : World} {l : List Oper} (n : Nat) (hm : P.follows .mixedOrders = true) (hB : Region.lexTailB .any l.toArray n = true)
  (h : ∀ wd, wd = w.drew -> wpStill P l.toArray wd (fun a' => wpList P l.toArray Q (l.drop n) a' wd) (l.take n) a) : (Code.region id l.toArray true).wp P Q a w :=
 wp_region_still_tail n hm hB (h _ rfl)
set_option maxRecDepth 100000 in
theorem compare_any (a b : Entry) (w : World) (ha : a.wf) (hb : b.wf) : Calls Tryz.prog 100 #[a.val, b.val] w fun e w' => e = .returned (.int .i64 (cmpE a b)) /\ Below w.heap.size w w' := by
 unfold Entry.val
 go_enter Tryz.func100, Tryz.ntmps100
 go_wp2_with fail
 refine still_tail 15 (by kernel_rfl) (by kernel_rfl) ?_
 intro wd hwd
 have c1 : ∀ i, wd.cell? ⟨w.heap.size, i, none⟩ = #[Value.string a.key, Value.int .i64 a.version, Value.int .i64 a.origin, Value.string a.value][i]? := by
  intro i; rw [hwd, zaK, World.cell?_alloc_lt _ _ _ (by simp), zae _ _ _ _ rfl]
 have c2 : ∀ i, wd.cell? ⟨w.heap.size + 1, i, none⟩ = #[Value.string b.key, Value.int .i64 b.version, Value.int .i64 b.origin, Value.string b.value][i]? := by
  intro i; rw [hwd, zaK, zae _ _ _ _ (by simp)]
 have hB : Below w.heap.size w wd := by
  rw [hwd]; exact (((zad _ _).alloc (zab _) _).alloc (by simp) _).drew
 have HB := zaa hB
 clear hwd hB
 simp only [zbd, List.take_zero, zby, List.drop_zero]
 iterate 4 still_step
 still_call (cmpInt_any _ _ _)
 iterate 4 still_step
 still_call (cmpInt_any _ _ _)
 iterate 4 still_step
 still_call (cmpStr_any _ _ _)
 refine wpStill_nil ?_
 go_wp2_with fail
 have hl : OwR intR 3 w.heap.size (wd.alloc (.cells (([cmpI a.version b.version, cmpI a.origin b.origin, cmpB a.value b.value]).map (Value.int .i64)).toArray 3)) (.slice (some ⟨wd.heap.size, 0, none⟩) 3 3) [cmpI a.version b.version, cmpI a.origin b.origin, cmpB a.value b.value] :=
  OwR.lit1 rfl (fun x hx S => ⟨rfl, by
   simp at hx
   have h1 : ∀ x y, inR (cmpI x y) := by intro x y; unfold cmpI inR; repeat' split
                                         all_goals omega
   have h2 : ∀ x y, inR (cmpB x y) := by intro x y; unfold cmpB inR; repeat' split
                                         all_goals omega
   rcases hx with rfl | rfl | rfl
   · exact h1 _ _
   · exact h1 _ _
   · exact h2 _ _⟩) HB.out.size (by simp; decide)
 refine (or_any _ _ _ (hl.sl (by decide))).mono ?_
 rintro e w1 ⟨rfl, rfl⟩
 clear hl
 go_wp2_with fail
 go_ret
 exact ⟨rfl, HB.out.alloc HB.out.size _⟩
end Go.Proofs.YtojojpjldkpmoaaGreatDoor
