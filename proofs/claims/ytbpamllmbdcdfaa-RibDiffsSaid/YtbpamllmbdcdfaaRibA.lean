/-
  Walks of the rib layer, part A: compare, behind, Check, TableFault.
-/
import Derived.Test.YtbpamllmbdcdfaaGrB
import Derived.Test.YtbpamllmbdcdfaaOwn
import Derived.Lib.QuietBelow
namespace Go.Proofs.Ytbpamllmbdcdfaa
open Go.RowKit Go.Sort

structure Route where
  pre : Prefix
  here : Bool
  cost : Int
  hops : List Int
def hopOrd (p s : Int) : Bool := decide (p < s)
def hopBad (h : Int) : Int := if 0 ≤ h ∧ h ≤ 11 then 0 else 4
/-- 0: the hops are nodes in their order -/
def hopsAt (l : List Int) : Nat → Nat → Bool
  | 0, _ => true
  | n + 1, k => match l[k]? with
    | none => true
    | some e => decide (0 ≤ e) && decide (e ≤ 11) && (match k with | 0 => true | j + 1 => match l[j]? with | some p => decide (p < e) | none => true) && hopsAt l n (k + 1)
def hopsOk (l : List Int) : Bool := hopsAt l (l.length - 0) 0
def routeForm (r : Route) : Bool :=
  decide (prefBad r.pre = 0) && decide (0 ≤ r.cost) && decide (r.cost ≤ 1048576) && (if r.here then decide (r.cost = 0) && r.hops.isEmpty else !r.hops.isEmpty)
def routeBad (r : Route) : Int := if routeForm r && hopsOk r.hops then 0 else 4
def routeOrd (p q : Route) : Bool := prefOrd p.pre q.pre
def chkRoutes (l : List Route) : Int := if 200 < l.length then 1 else seqChk routeBad routeOrd l (l.length - 0) 0

def Route.cells (r : Route) (v : Value) : List Value := [.int .i64 r.pre.addr, .int .i64 r.pre.bits, .bool r.here, .int .i64 r.cost, v]
def Route.wf (r : Route) : Prop := inR r.pre.addr ∧ inR r.pre.bits ∧ inR r.cost
def routeR : Rep Route :=
  { size := 5, holds := fun w S cs r => ∃ v, cs = r.cells v ∧ SlR intR w S v r.hops ∧ r.wf
    len := fun ⟨v, h, _⟩ => by rw [h]; rfl
    one := fun ⟨v, h, ⟨A, c, hv, _⟩, _⟩ u hu => by
      rw [h, hv] at hu
      simp [Route.cells] at hu
      rcases hu with rfl | rfl | rfl | rfl | rfl <;> rfl
    keep := fun ⟨v, h1, h2, h3⟩ k1 k2 => ⟨v, h1, h2.keep k1 k2, h3⟩ }
theorem Sl.route {w : World} {b off c n : Nat} {xs : List Route} (h : Sl routeR w (.slice (some ⟨b, off, none⟩) n c) xs) {k : Nat} (hk : k < xs.length) :
    ∃ v, w.cell? ⟨b, off + k * 5, none⟩ = some (.int .i64 xs[k].pre.addr) ∧ w.cell? ⟨b, off + k * 5 + 1, none⟩ = some (.int .i64 xs[k].pre.bits) ∧ w.cell? ⟨b, off + k * 5 + 2, none⟩ = some (.bool xs[k].here) ∧
      w.cell? ⟨b, off + k * 5 + 3, none⟩ = some (.int .i64 xs[k].cost) ∧ w.cell? ⟨b, off + k * 5 + 4, none⟩ = some v ∧ Sl intR w v xs[k].hops ∧ xs[k].wf := by
  obtain ⟨cs, ⟨v, rfl, hs, hw⟩, hc⟩ := h.cell hk
  exact ⟨v, hc 0 _ rfl, hc 1 _ rfl, hc 2 _ rfl, hc 3 _ rfl, hc 4 _ rfl, hs, hw⟩

/-- what compare answers of prefixes -/
def cmpP (a b : Prefix) : Int := if a.addr ≠ b.addr then wrap64 (a.addr - b.addr) else wrap64 (a.bits - b.bits)

set_option maxHeartbeats 400000 in
theorem ribCompare_any (a b : Prefix) (w : World) :
    Calls Try.prog 75 #[.agg #[.int .i64 a.addr, .int .i64 a.bits], .agg #[.int .i64 b.addr, .int .i64 b.bits]] w fun e w' => e = .returned (.int .i64 (cmpP a b)) ∧ Below w.heap.size w w' := by
  have hB : Below w.heap.size w ((w.alloc (.cells #[.int .i64 a.addr, .int .i64 a.bits] 52)).alloc (.cells #[.int .i64 b.addr, .int .i64 b.bits] 52)) := ((Below.refl _ _).alloc (Nat.le_refl _) _).alloc (by simp) _
  have HB := Go.Lib.hid hB
  clear hB
  go_enter Try.func75, Try.ntmps75
  go_wp2
  · go_ret
    exact ⟨ei (by unfold cmpP; rw [if_pos (by simpa using ‹(a.addr != b.addr) = true›)]), HB.out⟩
  · go_ret
    exact ⟨ei (by unfold cmpP; rw [if_neg (by simpa using ‹(a.addr != b.addr) = false›)]), HB.out⟩
end Go.Proofs.Ytbpamllmbdcdfaa
