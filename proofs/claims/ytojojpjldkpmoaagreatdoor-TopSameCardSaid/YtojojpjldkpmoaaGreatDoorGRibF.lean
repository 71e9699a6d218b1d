/-
  
-/
import Derived.Test.YtojojpjldkpmoaaGreatDoorGRibB
import Derived.Test.YtojojpjldkpmoaaGreatDoorGRibC
import Derived.WalkSpells
import Derived.Lib.SliceRun
set_option linter.unusedVariables false
set_option linter.unusedSimpArgs false
set_option maxHeartbeats 16000000
namespace Go.Proofs.YtojojpjldkpmoaaGreatDoor
section
open Go.RowKit Go.Sort
end
section
open Go.RowKit Go.Sort
theorem cloneI_any (v : Value) (xs : List Int) (w : World) (h : Sl intR w v xs) (hl : xs.length <= 1000000) :
  Calls Tryz.prog 112 #[v] w fun e w' => ∃ v', e = .returned v' /\ OwR intR 3 w.heap.size w' v' xs /\ Below w.heap.size w w' := by
 have q1 := fun (wx : World) (a : Option Addr) (n c : Nat) => Lib.run_eql_slice_nil (P := Tryz.prog) wx 54 3 a n c 0 0 Tryz.underlying54
 obtain ⟨A, c, rfl⟩ := h.form
 have H := zaa h
 clear h
 rcases A with _ | ad
 · have hx : xs = [] := by
    rcases zaJ xs.length with h0 | h0
    · exact zat h0
    · obtain ⟨_, _, h, _⟩ := H.out.at_ h0; cases h
   subst hx
   go_enter Tryz.func112, Tryz.ntmps112
   go_wp2_with fail
   go_ret
   exact ⟨_, rfl, OwR.nil _ _ (zab _), zad _ _⟩
 · have hB0 : Below w.heap.size w (w.alloc (.cells #[] 3)) := (zad _ _).alloc (zab _) _
   have hown : OwR intR 3 w.heap.size (w.alloc (.cells #[] 3)) (.slice (some ⟨w.heap.size, 0, none⟩) 0 0) [] := ⟨[], rfl, fun i cs x h => by simp at h, World.ownsRow_made w #[] 0 (zab _) (zak _) (by simp), by simp⟩
   have H1 := zaa (H.out.below hB0)
   have HB0 := zaa hB0
   have HO := zaa hown
   clear hB0 hown
   go_enter Tryz.func112, Tryz.ntmps112
   go_wp2_with (at_builtin; refine wpList_own_append (base := w.heap.size) rfl _ _ rfl elt_int HO.out H1.out rfl rfl (fun _ _ h => h) (by simp; unfold maxLen; omega) (by simp; omega) ?_; intro v1 w1 ho1 hg1 hb1)
   go_ret
   exact ⟨v1, rfl, ho1, HO.out.below_grown HB0.out hg1⟩
theorem andNot_all : ((List.range 256).all fun a => (List.range 9).all fun n => bits .andNot .i64 (a : Int) ((255 : Int) / 2 ^ n) == (a : Int) - (a : Int) % ((256 / 2 ^ n : Nat) : Int)) = true := by kernel_rfl
theorem andNot_span (a b : Int) (h1 : 0 <= b) (h2 : b <= 8) (h3 : 0 <= a) (h4 : a <= 255) : bits .andNot .i64 a (255 / 2 ^ b.toNat) = a - a % spanN b := by
 obtain ⟨n, rfl⟩ := zaZ h1
 obtain ⟨m, rfl⟩ := zaZ h3
 have h := andNot_all
 rw [List.all_eq_true] at h
 have h' := h m (zbn.2 (by omega))
 rw [List.all_eq_true] at h'
 have h'' := h' n (zbn.2 (by omega))
 rw [zaL]
 unfold spanN
 rw [zaL]
 exact eq_of_beq h''
def zeroR : Route := ⟨⟨0, 0⟩, false, 0, []⟩
def matchR (addr : Int) (r : Route) : Bool := addr - addr % spanN r.pre.bits == r.pre.addr
def betterR (xs : List Route) (k : Nat) : Option Nat -> Bool
 | none => true
 | some j => decide ((xs.getD j zeroR).pre.bits < (xs.getD k zeroR).pre.bits)
def bestTo (xs : List Route) (addr : Int) : Nat -> Option Nat
 | 0 => none
 | k + 1 => if matchR addr (xs.getD k zeroR) && betterR xs k (bestTo xs addr k) then some k else bestTo xs addr k
theorem best_none (xs : List Route) (addr : Int) : ∀ k, bestTo xs addr k = none -> ∀ i, i < k -> matchR addr (xs.getD i zeroR) = false := by
 intro k
 induction k with
 | zero => intro _ i hi; omega
 | succ k ih =>
   intro h i hi
   unfold bestTo at h
   split at h
   · cases h
   · rename_i hc
     have h0 := ih h
     by_cases e : i = k
     · subst e
       rw [h] at hc
       simpa [betterR] using hc
     · exact h0 i (by omega)
theorem best_some (xs : List Route) (addr : Int) : ∀ k j, bestTo xs addr k = some j -> j < k /\ matchR addr (xs.getD j zeroR) = true /\
  ∀ i, i < k -> matchR addr (xs.getD i zeroR) = true -> (xs.getD i zeroR).pre.bits < (xs.getD j zeroR).pre.bits ∨ ((xs.getD i zeroR).pre.bits = (xs.getD j zeroR).pre.bits /\ j <= i) := by
 intro k
 induction k with
 | zero => intro j h; cases h
 | succ k ih =>
   intro j h
   unfold bestTo at h
   split at h
   · rename_i hc
     injection h with h
     subst h
     rw [Bool.and_eq_true] at hc
     refine ⟨by omega, hc.1, fun i hi hm => ?_⟩
     by_cases e : i = k
     · subst e; right; exact ⟨rfl, zab _⟩
     · rcases hb : bestTo xs addr k with _ | b
       · have := best_none xs addr k hb i (by omega)
         rw [hm] at this; cases this
       · have h2 := hc.2
         rw [hb] at h2
         simp only [betterR, decide_eq_true_eq] at h2
         obtain ⟨_, _, h3⟩ := ih b hb
         rcases h3 i (by omega) hm with h4 | ⟨h4, _⟩ <;> left <;> omega
   · rename_i hc
     obtain ⟨h1, h2, h3⟩ := ih j h
     refine ⟨by omega, h2, fun i hi hm => ?_⟩
     by_cases e : i = k
     · subst e
       rw [h, hm] at hc
       simp [betterR] at hc
       by_cases e2 : (xs.getD i zeroR).pre.bits = (xs.getD j zeroR).pre.bits
       · right; exact ⟨e2, by omega⟩
       · left
         simp only [zal] at e2 ⊢
         omega
     · exact h3 i (by omega) hm
def lookS (xs : List Route) (addr : Int) : Route × Int :=
 if chkRoutes xs ≠ 0 then (zeroR, chkRoutes xs) else if addr < 0 ∨ 255 < addr then (zeroR, 2) else
 match bestTo xs addr xs.length with
 | none => (zeroR, 6)
 | some j => (xs.getD j zeroR, 0)
theorem look_bad {xs : List Route} {addr : Int} (h : chkRoutes xs ≠ 0) : lookS xs addr = (zeroR, chkRoutes xs) := by unfold lookS; rw [if_pos h]
theorem look_range {xs : List Route} {addr : Int} (h : chkRoutes xs = 0) (h2 : addr < 0 ∨ 255 < addr) : lookS xs addr = (zeroR, 2) := by unfold lookS; rw [if_neg (by simp [h]), if_pos h2]
theorem look_none {xs : List Route} {addr : Int} (h : chkRoutes xs = 0) (h2 : 0 <= addr /\ addr <= 255) (h3 : bestTo xs addr xs.length = none) : lookS xs addr = (zeroR, 6) := by
 unfold lookS; rw [if_neg (by simp [h]), if_neg (by omega), h3]
theorem look_some {xs : List Route} {addr : Int} (h : chkRoutes xs = 0) (h2 : 0 <= addr /\ addr <= 255) {j : Nat} (h3 : bestTo xs addr xs.length = some j) (hj : j < xs.length) : lookS xs addr = (xs[j], 0) := by
 unfold lookS; rw [if_neg (by simp [h]), if_neg (by omega), h3]
 simp [List.getD, hj]
theorem seq_ok {α : Type} {bad : α -> Int} {ord : α -> α -> Bool} (l : List α) : ∀ n k, l.length <= n + k -> seqChk bad ord l n k = 0 -> ∀ j, k <= j -> (h : j < l.length) -> bad l[j] = 0 /\ ∀ m, (hm : m + 1 = j) -> (h0 : bad l[j] = 0) -> k < j -> ord l[m] l[j] = true := by
 intro n
 induction n with
 | zero => intro k hk _ j hj h; omega
 | succ n ih =>
   intro k hk h0 j hj h
   have hkl : k < l.length := by omega
   unfold seqChk at h0
   rw [zac hkl] at h0
   simp only at h0
   by_cases hb : bad l[k] ≠ 0
   · rw [if_pos hb] at h0; exact absurd h0 hb
   · rw [if_neg hb] at h0
     have hb' : bad l[k] = 0 := by simpa using hb
     have h7 : ∀ (b : Bool) (z : Int), (if b = true then 7 else z) = 0 -> b = false /\ z = 0 := fun b z h => by cases b <;> simp at h ⊢; exact h
     obtain ⟨ho, h1⟩ := h7 _ _ h0
     by_cases e : k = j
     · subst e
       exact ⟨hb', fun m hm _ hlt => by omega⟩
     · obtain ⟨i1, i2⟩ := ih (k + 1) (by omega) h1 j (by omega) h
       refine ⟨i1, fun m hm hz _ => ?_⟩
       by_cases e2 : k + 1 = j
       · subst e2
         have : m = k := by omega
         subst this
         obtain ⟨n', hn'⟩ : ∃ n', n = n' + 1 := ⟨n - 1, by omega⟩
         rw [hn'] at h1
         unfold seqChk at h1
         rw [zac h] at h1
         simp only at h1
         rw [if_neg (by simpa using hz)] at h1
         obtain ⟨ho2, _⟩ := h7 _ _ h1
         have e3 : l[m]? = some l[m] := zac hkl
         rw [e3] at ho2
         simpa using ho2
       · exact i2 m hm hz (by omega)
theorem routes_ok {xs : List Route} (h : chkRoutes xs = 0) : xs.length <= 200 /\ ∀ j, (hj : j < xs.length) -> routeBad xs[j] = 0 := by
 unfold chkRoutes at h
 split at h
 · cases h
 · exact ⟨by omega, fun j hj => (seq_ok xs _ 0 (by omega) h j (by omega) hj).1⟩
theorem prefBad_ok {p : Prefix} (h : prefBad p = 0) : 0 <= p.bits /\ p.bits <= 8 /\ 0 <= p.addr /\ p.addr <= 255 := by
 unfold prefBad at h
 split at h
 · assumption
 · cases h
theorem hops_le {l : List Int} (h : hopsOk l = true) : l.length <= 12 /\ ∀ i, (hi : i < l.length) -> (i : Int) <= l[i] /\ l[i] <= 11 := by
 have key : ∀ n k, l.length <= n + k -> hopsAt l n k = true -> ∀ j, k <= j -> (hj : j < l.length) -> 0 <= l[j] /\ l[j] <= 11 /\ ∀ m, (hm : m + 1 = j) -> l[m] < l[j] := by
  intro n
  induction n with
  | zero => intro k hk _ j hj h; omega
  | succ n ih =>
    intro k hk h0 j hj hjl
    have hkl : k < l.length := by omega
    unfold hopsAt at h0
    rw [zac hkl] at h0
    simp only [Bool.and_eq_true, decide_eq_true_eq] at h0
    obtain ⟨⟨⟨a, b⟩, c⟩, d⟩ := h0
    by_cases e : k = j
    · subst e
      refine ⟨a, b, fun m hm => ?_⟩
      subst hm
      have e3 : l[m]? = some l[m] := zac (by omega)
      simpa [e3] using c
    · exact ih (k + 1) (by omega) d j (by omega) hjl
 have k2 := key _ 0 (by omega) h
 have k3 : ∀ i, (hi : i < l.length) -> (i : Int) <= l[i] := by
  intro i
  induction i with
  | zero => intro hi; exact (k2 0 (by omega) hi).1
  | succ i ih =>
    intro hi
    have h1 := ih (by omega)
    have h2 := (k2 (i + 1) (by omega) hi).2.2 i rfl
    omega
 refine ⟨?_, fun i hi => ⟨k3 i hi, (k2 i (by omega) hi).2.1⟩⟩
 rcases zbu l.length 13 with h13 | h13
 · omega
 · have h1 := k3 12 (by omega)
   have h2 := (k2 12 (by omega) (by omega)).2.1
   omega
theorem routeBad_iff {r : Route} (h : routeBad r = 0) : prefBad r.pre = 0 /\ r.hops.length <= 12 := by
 unfold routeBad at h
 split at h
 · rename_i hc
   rw [Bool.and_eq_true] at hc
   refine ⟨?_, (hops_le hc.2).1⟩
   have := hc.1
   unfold routeForm at this
   simp only [Bool.and_eq_true, decide_eq_true_eq] at this
   exact this.1.1.1
 · cases h
end
end Go.Proofs.YtojojpjldkpmoaaGreatDoor
