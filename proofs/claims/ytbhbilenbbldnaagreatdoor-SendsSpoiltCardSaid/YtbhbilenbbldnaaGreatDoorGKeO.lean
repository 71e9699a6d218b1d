/-
  
-/
import Derived.Test.YtbhbilenbbldnaaGreatDoorGStM
set_option linter.unusedVariables false
set_option linter.unusedSimpArgs false
namespace Go.Proofs.YtbhbilenbbldnaaGreatDoor
open Go.RowKit Go.Deep
structure Raw where
 kind : Int
 a : Int
 b : Int
 c : Int
def rawR : Rep Raw := flatR 4 (fun s => [.int .i64 s.kind, .int .i64 s.a, .int .i64 s.b, .int .i64 s.c]) (fun s => inR s.kind ∧ inR s.a ∧ inR s.b ∧ inR s.c) (fun _ => rfl) (fun x u h => by simp at h; rcases h with rfl | rfl | rfl | rfl <;> rfl)
theorem Sl.raw {w : World} {b off c n : Nat} {xs : List Raw} (h : Sl rawR w (.slice (some ⟨b, off, none⟩) n c) xs) {k : Nat} (hk : k < xs.length) :
  w.cell? ⟨b, off + k * 4, none⟩ = some (.int .i64 xs[k].kind) ∧ w.cell? ⟨b, off + k * 4 + 1, none⟩ = some (.int .i64 xs[k].a) ∧ w.cell? ⟨b, off + k * 4 + 2, none⟩ = some (.int .i64 xs[k].b) ∧ w.cell? ⟨b, off + k * 4 + 3, none⟩ = some (.int .i64 xs[k].c) ∧
   inR xs[k].kind ∧ inR xs[k].a ∧ inR xs[k].b ∧ inR xs[k].c := by
 obtain ⟨cs, ⟨rfl, hw⟩, hc⟩ := h.cell hk
 exact ⟨hc 0 _ rfl, hc 1 _ rfl, hc 2 _ rfl, hc 3 _ rfl, hw⟩
def pickN (n : Int) (many : Nat) : Nat := ((if n < 0 then -(n + 1) else n) % (many : Int)).toNat
theorem pickN_lt (n : Int) (many : Nat) (h : 0 < many) : pickN n many < many := by
 unfold pickN
 have h1 : (0 : Int) < (many : Int) := by omega
 have h2 := Int.emod_lt_of_pos (if n < 0 then -(n + 1) else n) h1
 have h3 := Int.emod_nonneg (if n < 0 then -(n + 1) else n) (show (many : Int) ≠ 0 by omega)
 omega
theorem pickN_val (n : Int) (many : Nat) (h : 0 < many) : ((pickN n many : Nat) : Int) = (if n < 0 then -(n + 1) else n) % (many : Int) := by
 unfold pickN
 have h3 := Int.emod_nonneg (if n < 0 then -(n + 1) else n) (show (many : Int) ≠ 0 by omega)
 omega
set_option maxHeartbeats 400000 in
theorem picked_any (n : Int) (many : Nat) (w : World) (hn : inR n) (h0 : 0 < many) (h1 : many ≤ 1000000) :
  Calls Tryz.prog 14 #[.int .i64 n, .int .i64 (many : Nat)] w fun e w' => e = .returned (.int .i64 (pickN n many : Nat)) ∧ w = w' := by
 obtain ⟨hn1, hn2⟩ := hn
 have hv := pickN_val n many h0
 have hm0 : ¬ ((many : Int) = 0) := by omega
 have hm1 : (0 : Int) < (many : Int) := by omega
 by_cases hneg : n < 0
 · rw [if_pos hneg] at hv
   have HV := Go.Lib.hid hv
   have hx : (0 : Int) ≤ -(n + 1) := by omega
   have HE := Go.Lib.hid (show (-(n + 1)).tmod (many : Int) = -(n + 1) % (many : Int) from Int.tmod_eq_emod_of_nonneg hx)
   have HL := Go.Lib.hid (Int.emod_lt_of_pos (-(n + 1)) hm1)
   have HG := Go.Lib.hid (Int.emod_nonneg (-(n + 1)) (show (many : Int) ≠ 0 by omega))
   clear hv
   go_enter Tryz.func14, Tryz.ntmps14
   go_wp2_with fail
   go_ret
   exact ⟨ei (by rw [HV.out, ← HE.out, Int.neg_tmod]), rfl⟩
 · rw [if_neg hneg] at hv
   have HV := Go.Lib.hid hv
   clear hv
   go_enter Tryz.func14, Tryz.ntmps14
   go_wp2_with fail
   go_ret
   exact ⟨ei HV.out.symm, rfl⟩
theorem picked_q (n : Int) (many : Nat) (w : World) (hn : inR n) (h0 : 0 < many) (h1 : many ≤ 1000000) :
 Calls Tryz.prog 14 #[.int .i64 n, .int .i64 (many : Nat)] w fun e w' => e = .returned (.int .i64 (pickN n many : Nat)) ∧ w' = w := (picked_any n many w hn h0 h1).mono fun _ _ h => ⟨h.1, h.2.symm⟩
def keyL : List ByteArray := [⟨#[97, 58, 49]⟩, ⟨#[97, 58, 50]⟩, ⟨#[112, 58, 49]⟩, ⟨#[120]⟩, ⟨#[121, 58, 122]⟩, ⟨#[107, 57]⟩]
def valL : List ByteArray := [⟨#[]⟩, ⟨#[118]⟩, ⟨#[119]⟩, ⟨#[49, 61, 53]⟩, ⟨#[49, 50, 56, 47, 49]⟩]
def keyN (k : Nat) : ByteArray := keyL.getD k ⟨#[]⟩
def valN (k : Nat) : ByteArray := valL.getD k ⟨#[]⟩
def rawE (r : Raw) : Entry := ⟨keyN (pickN r.kind 6), 1 + (pickN r.a 4 : Nat), (pickN r.b 3 : Nat), valN (pickN r.c 5)⟩
theorem rawE_ok (r : Raw) : entryOk (rawE r) = true := by
 have h1 := pickN_lt r.kind 6 (by omega)
 have h2 := pickN_lt r.a 4 (by omega)
 have h3 := pickN_lt r.b 3 (by omega)
 have h4 := pickN_lt r.c 5 (by omega)
 have k1 : ∀ k, k < 6 → keyOk (keyN k) = true := by decide
 have k2 : ∀ k, k < 5 → (valN k).size ≤ 120 := by decide
 unfold entryOk rawE
 simp only [k1 _ h1, Bool.true_and, Bool.and_eq_true, decide_eq_true_eq]
 have := k2 _ h4
 omega
theorem rawE_wf (r : Raw) : (rawE r).wf := by
 have h2 := pickN_lt r.a 4 (by omega)
 have h3 := pickN_lt r.b 3 (by omega)
 obtain ⟨k1, k2, _, _, _, _, k7⟩ := entryOk_bounds (rawE_ok r)
 refine ⟨by unfold maxLen; omega, ?_, ?_, by unfold maxLen; omega⟩
 · show inR (1 + (pickN r.a 4 : Nat)); unfold inR; omega
 · show inR (pickN r.b 3 : Nat); unfold inR; omega
end Go.Proofs.YtbhbilenbbldnaaGreatDoor

namespace Go.Proofs.YtbhbilenbbldnaaGreatDoor
open Go.RowKit Go.ChangeShapes Go.WideShapes Go.ChangeAt
theorem opens_raw : Opens Tryz.prog rawR 81 :=
 ⟨by kernel_rfl, fun H enc W fuel cs x h => by
  obtain ⟨hlen, hf⟩ := trod_fields Tryz.underlying81 h
  obtain ⟨a0, h0⟩ := hf _ intR 0 _ rfl (opens_int Tryz.underlying3 (by kernel_rfl))
  obtain ⟨a1, h1⟩ := hf _ intR 1 _ rfl (opens_int Tryz.underlying3 (by kernel_rfl))
  obtain ⟨a2, h2⟩ := hf _ intR 2 _ rfl (opens_int Tryz.underlying3 (by kernel_rfl))
  obtain ⟨a3, h3⟩ := hf _ intR 3 _ rfl (opens_int Tryz.underlying3 (by kernel_rfl))
  have hl : cs.length = 4 := by rw [hlen]; kernel_rfl
  match cs, hl with
  | [c0, c1, c2, c3], _ =>
    obtain ⟨e0, w0⟩ := h0
    obtain ⟨e1, w1⟩ := h1
    obtain ⟨e2, w2⟩ := h2
    obtain ⟨e3, w3⟩ := h3
    simp [intR, flatR] at e0 e1 e2 e3
    subst e0 e1 e2 e3
    exact ⟨⟨a0, a1, a2, a3⟩, rfl, w0, w1, w2, w3⟩⟩
theorem opens_raws : Opens Tryz.prog (slR rawR) 22 := opens_slice Tryz.underlying22 (by kernel_rfl) (by decide) opens_raw
end Go.Proofs.YtbhbilenbbldnaaGreatDoor
