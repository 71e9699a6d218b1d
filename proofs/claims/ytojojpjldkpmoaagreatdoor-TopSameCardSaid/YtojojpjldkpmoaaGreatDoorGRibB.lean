/-
  
-/
import Derived.Test.YtojojpjldkpmoaaGreatDoorGGrB
import Derived.Test.YtojojpjldkpmoaaGreatDoorGOwn
import Derived.Lib.QuietBelow
import Derived.Test.YtojojpjldkpmoaaGreatDoorGStC
set_option linter.unusedVariables false
set_option linter.unusedSimpArgs false
set_option maxHeartbeats 16000000
namespace Go.Proofs.YtojojpjldkpmoaaGreatDoor
section
open Go.RowKit Go.Sort
structure Route where
 pre : Prefix
 here : Bool
 cost : Int
 hops : List Int
def hopsAt (l : List Int) : Nat -> Nat -> Bool
 | 0, _ => true
 | n + 1, k => match l[k]? with
   | none => true
   | some e => decide (0 <= e) && decide (e <= 11) && (match k with | 0 => true | j + 1 => match l[j]? with | some p => decide (p < e) | none => true) && hopsAt l n (k + 1)
def hopsOk (l : List Int) : Bool := hopsAt l (l.length - 0) 0
def routeForm (r : Route) : Bool :=
 decide (prefBad r.pre = 0) && decide (0 <= r.cost) && decide (r.cost <= 1048576) && (if r.here then decide (r.cost = 0) && r.hops.isEmpty else !r.hops.isEmpty)
def routeBad (r : Route) : Int := if routeForm r && hopsOk r.hops then 0 else 4
def routeOrd (p q : Route) : Bool := prefOrd p.pre q.pre
def chkRoutes (l : List Route) : Int := if 200 < l.length then 1 else seqChk routeBad routeOrd l (l.length - 0) 0
def Route.cells (r : Route) (v : Value) : List Value := [.int .i64 r.pre.addr, .int .i64 r.pre.bits, .bool r.here, .int .i64 r.cost, v]
def Route.wf (r : Route) : Prop := inR r.pre.addr /\ inR r.pre.bits /\ inR r.cost
def routeR : Rep Route :=
 { size := 5, holds := fun w S cs r => ∃ v, cs = r.cells v /\ SlR intR w S v r.hops /\ r.wf
   len := fun ⟨v, h, _⟩ => by rw [h]; rfl
   one := fun ⟨v, h, ⟨A, c, hv, _⟩, _⟩ u hu => by
    rw [h, hv] at hu
    simp [Route.cells] at hu
    rcases hu with rfl | rfl | rfl | rfl | rfl <;> rfl
   keep := fun ⟨v, h1, h2, h3⟩ k1 k2 => ⟨v, h1, h2.keep k1 k2, h3⟩ }
theorem Sl.route {w : World} {b off c n : Nat} {xs : List Route} (h : Sl routeR w (.slice (some ⟨b, off, none⟩) n c) xs) {k : Nat} (hk : k < xs.length) :
  ∃ v, w.cell? ⟨b, off + k * 5, none⟩ = some (.int .i64 xs[k].pre.addr) /\ w.cell? ⟨b, off + k * 5 + 1, none⟩ = some (.int .i64 xs[k].pre.bits) /\ w.cell? ⟨b, off + k * 5 + 2, none⟩ = some (.bool xs[k].here) /\
    w.cell? ⟨b, off + k * 5 + 3, none⟩ = some (.int .i64 xs[k].cost) /\ w.cell? ⟨b, off + k * 5 + 4, none⟩ = some v /\ Sl intR w v xs[k].hops /\ xs[k].wf := by
 obtain ⟨cs, ⟨v, rfl, hs, hw⟩, hc⟩ := h.cell hk
 exact ⟨v, hc 0 _ rfl, hc 1 _ rfl, hc 2 _ rfl, hc 3 _ rfl, hc 4 _ rfl, hs, hw⟩
def cmpP (a b : Prefix) : Int := if a.addr ≠ b.addr then wrap64 (a.addr - b.addr) else wrap64 (a.bits - b.bits)
theorem ribCompare_any (a b : Prefix) (w : World) :
  Calls Tryz.prog 122 #[.agg #[.int .i64 a.addr, .int .i64 a.bits], .agg #[.int .i64 b.addr, .int .i64 b.bits]] w fun e w' => e = .returned (.int .i64 (cmpP a b)) /\ Below w.heap.size w w' := by
 have hB : Below w.heap.size w ((w.alloc (.cells #[.int .i64 a.addr, .int .i64 a.bits] 32)).alloc (.cells #[.int .i64 b.addr, .int .i64 b.bits] 32)) := ((zad _ _).alloc (zab _) _).alloc (by simp) _
 have HB := zaa hB
 clear hB
 go_enter Tryz.func122, Tryz.ntmps122
 go_wp2
 · go_ret
   exact ⟨ei (by unfold cmpP; rw [if_pos (by simpa using ‹(a.addr != b.addr) = true›)]), HB.out⟩
 · go_ret
   exact ⟨ei (by unfold cmpP; rw [if_neg (by simpa using ‹(a.addr != b.addr) = false›)]), HB.out⟩
theorem chkPrefs_one (p : Prefix) : chkPrefs [p] = prefBad p := by
 unfold chkPrefs
 rw [if_neg (by simp)]
 show seqChk prefBad prefOrd [p] 1 0 = prefBad p
 unfold seqChk
 by_cases h : prefBad p = 0
 · simp [h, seqChk]
 · simp [h]
theorem hops_end (l : List Int) (k : Nat) (h : l.length <= k) (n : Nat) : hopsAt l n k = true := by
 cases n with
 | zero => rfl
 | succ n => unfold hopsAt; rw [zbG h]
theorem hops_bad (l : List Int) (k : Nat) (hk : k < l.length) (h : l[k] < 0 ∨ 11 < l[k]) : hopsAt l (l.length - k) k = false := by
 obtain ⟨n, hn⟩ : ∃ n, l.length - k = n + 1 := ⟨l.length - k - 1, by omega⟩
 rw [hn]; unfold hopsAt; rw [zac hk]; simp only [Bool.and_eq_false_iff, decide_eq_false_iff_not]; omega
theorem hops_first (l : List Int) (hk : 0 < l.length) (h : (0 : Int) <= l[0] /\ l[0] <= (11 : Int)) : hopsAt l (l.length - 0) 0 = hopsAt l (l.length - 1) 1 := by
 obtain ⟨n, hn⟩ : ∃ n, l.length = n + 1 := ⟨l.length - 1, by omega⟩
 rw [show l.length - 1 = n by omega, show l.length - 0 = n + 1 by omega]
 conv => lhs; unfold hopsAt
 rw [zac hk]; simp [h]
theorem hops_order (l : List Int) (j : Nat) (hk : j + 1 < l.length) (ho : l[j + 1] <= l[j]) : hopsAt l (l.length - (j + 1)) (j + 1) = false := by
 obtain ⟨n, hn⟩ : ∃ n, l.length - (j + 1) = n + 1 := ⟨l.length - (j + 1) - 1, by omega⟩
 have h1 : l[j]? = some l[j] := zac (by omega)
 rw [hn]; unfold hopsAt; rw [zac hk]
 simp only [h1, Bool.and_eq_false_iff, decide_eq_false_iff_not]; left; right; omega
theorem hops_next (l : List Int) (j : Nat) (hk : j + 1 < l.length) (h : 0 <= l[j + 1] /\ l[j + 1] <= 11) (ho : l[j] < l[j + 1]) : hopsAt l (l.length - (j + 1)) (j + 1) = hopsAt l (l.length - (j + 1 + 1)) (j + 1 + 1) := by
 obtain ⟨n, hn⟩ : ∃ n, l.length - (j + 1) = n + 1 := ⟨l.length - (j + 1) - 1, by omega⟩
 rw [hn, show l.length - (j + 1 + 1) = n by omega]
 conv => lhs; unfold hopsAt
 have h1 : l[j]? = some l[j] := zac (by omega)
 rw [zac hk]; simp [h, ho, h1]
theorem routeForm_cases (r : Route) : (routeForm r = true /\ prefBad r.pre = 0 /\ 0 <= r.cost /\ r.cost <= 1048576 /\ ((r.here = true /\ r.cost = 0 /\ r.hops.length = 0) ∨ (r.here = false /\ 0 < r.hops.length))) ∨
  (routeForm r = false /\ (prefBad r.pre ≠ 0 ∨ (prefBad r.pre = 0 /\ (r.cost < 0 ∨ 1048576 < r.cost)) ∨ (prefBad r.pre = 0 /\ 0 <= r.cost /\ r.cost <= 1048576 /\ ((r.here = true /\ r.cost ≠ 0) ∨ (r.here = true /\ r.cost = 0 /\ 0 < r.hops.length) ∨ (r.here = false /\ r.hops.length = 0))))) := by
 unfold routeForm
 by_cases h1 : prefBad r.pre = 0
 · by_cases h2 : 0 <= r.cost /\ r.cost <= 1048576
   · obtain ⟨h2, h3⟩ := h2
     rcases hh : r.here with _ | _
     · rcases hl : r.hops with _ | ⟨a, l⟩ <;> simp [h1, h2, h3]
     · by_cases hc : r.cost = 0
       · rcases hl : r.hops with _ | ⟨a, l⟩ <;> simp [h1, hc]
       · simp [h1, h2, h3, hc]
   · right
     refine ⟨?_, .inr (.inl ⟨h1, by omega⟩)⟩
     rw [Bool.eq_false_iff]; simp; omega
 · right
   exact ⟨by simp [h1], .inl h1⟩
theorem sl_one {w : World} (p : Prefix) (hw : inR p.addr /\ inR p.bits) : Sl prefR (w.alloc (.cells #[.int .i64 p.addr, .int .i64 p.bits] 32)) (.slice (some ⟨w.heap.size, 0, none⟩) 1 1) [p] := by
 have h : SlR prefR (w.alloc (.cells [Value.int .i64 p.addr, Value.int .i64 p.bits].toArray 32)) (fun k => k < w.heap.size + 1) (.slice (some ⟨w.heap.size, 0, none⟩) 1 1) [p] := SlR.one_new ⟨rfl, hw⟩
 have e : (w.alloc (.cells #[.int .i64 p.addr, .int .i64 p.bits] 32)).heap.size = w.heap.size + 1 := by simp
 unfold Sl
 rw [e]
 exact h
end
end Go.Proofs.YtojojpjldkpmoaaGreatDoor
