/-
  
-/
import Derived.Test.YtbhbilenbbldnaaGreatDoorGStM
import Derived.Test.YtbhbilenbbldnaaGreatDoorGRibF
import Derived.Test.YtbhbilenbbldnaaGreatDoorGDoA
set_option linter.unusedVariables false
set_option linter.unusedSimpArgs false
set_option maxHeartbeats 16000000
namespace Go.Proofs.YtbhbilenbbldnaaGreatDoor
section
open Go.RowKit Go.Deep
structure Raw where
 kind : Int
 a : Int
 b : Int
 c : Int
def rawR : Rep Raw := flatR 4 (fun s => [.int .i64 s.kind, .int .i64 s.a, .int .i64 s.b, .int .i64 s.c]) (fun s => inR s.kind /\ inR s.a /\ inR s.b /\ inR s.c) (fun _ => rfl) (fun x u h => by simp at h; rcases h with rfl | rfl | rfl | rfl <;> rfl)
theorem Sl.raw {w : World} {b off c n : Nat} {xs : List Raw} (h : Sl rawR w (.slice (some ⟨b, off, none⟩) n c) xs) {k : Nat} (hk : k < xs.length) :
  w.cell? ⟨b, off + k * 4, none⟩ = some (.int .i64 xs[k].kind) /\ w.cell? ⟨b, off + k * 4 + 1, none⟩ = some (.int .i64 xs[k].a) /\ w.cell? ⟨b, off + k * 4 + 2, none⟩ = some (.int .i64 xs[k].b) /\ w.cell? ⟨b, off + k * 4 + 3, none⟩ = some (.int .i64 xs[k].c) /\
   inR xs[k].kind /\ inR xs[k].a /\ inR xs[k].b /\ inR xs[k].c := by
 obtain ⟨cs, ⟨rfl, hw⟩, hc⟩ := h.cell hk
 exact ⟨hc 0 _ rfl, hc 1 _ rfl, hc 2 _ rfl, hc 3 _ rfl, hw⟩
def pickN (n : Int) (many : Nat) : Nat := ((if n < 0 then -(n + 1) else n) % (many : Int)).toNat
theorem pickN_lt (n : Int) (many : Nat) (h : 0 < many) : pickN n many < many := by
 unfold pickN
 have h1 : (0 : Int) < (many : Int) := by omega
 have h2 := Int.emod_lt_of_pos (if n < 0 then -(n + 1) else n) h1
 have h3 := Int.emod_nonneg (if n < 0 then -(n + 1) else n) (show (many : Int) ≠ 0 by omega)
 omega
theorem pickN_val (n : Int) (many : Nat) (h : 0 < many) : ((pickN n many : Nat) : Int) = (if n < 0 then -(n + 1) else n) % (many : Int) := by
 unfold pickN
 have h3 := Int.emod_nonneg (if n < 0 then -(n + 1) else n) (show (many : Int) ≠ 0 by omega)
 omega
theorem picked_any (n : Int) (many : Nat) (w : World) (hn : inR n) (h0 : 0 < many) (h1 : many <= 1000000) :
  Calls Tryz.prog 14 #[.int .i64 n, .int .i64 (many : Nat)] w fun e w' => e = .returned (.int .i64 (pickN n many : Nat)) /\ w = w' := by
 obtain ⟨hn1, hn2⟩ := hn
 have hv := pickN_val n many h0
 have hm0 : ¬ ((many : Int) = 0) := by omega
 have hm1 : (0 : Int) < (many : Int) := by omega
 by_cases hneg : n < 0
 · rw [if_pos hneg] at hv
   have HV := zaa hv
   have hx : (0 : Int) <= -(n + 1) := by omega
   have HE := zaa (show (-(n + 1)).tmod (many : Int) = -(n + 1) % (many : Int) from Int.tmod_eq_emod_of_nonneg hx)
   have HL := zaa (Int.emod_lt_of_pos (-(n + 1)) hm1)
   have HG := zaa (Int.emod_nonneg (-(n + 1)) (show (many : Int) ≠ 0 by omega))
   clear hv
   go_enter Tryz.func14, Tryz.ntmps14
   go_wp2_with fail
   go_ret
   exact ⟨ei (by rw [HV.out, <- HE.out, Int.neg_tmod]), rfl⟩
 · rw [if_neg hneg] at hv
   have HV := zaa hv
   clear hv
   go_enter Tryz.func14, Tryz.ntmps14
   go_wp2_with fail
   go_ret
   exact ⟨ei HV.out.symm, rfl⟩
theorem picked_q (n : Int) (many : Nat) (w : World) (hn : inR n) (h0 : 0 < many) (h1 : many <= 1000000) :
 Calls Tryz.prog 14 #[.int .i64 n, .int .i64 (many : Nat)] w fun e w' => e = .returned (.int .i64 (pickN n many : Nat)) /\ w' = w := (picked_any n many w hn h0 h1).mono fun _ _ h => ⟨h.1, h.2.symm⟩
def keyL : List ByteArray := [⟨#[97, 58, 49]⟩, ⟨#[97, 58, 50]⟩, ⟨#[112, 58, 49]⟩, ⟨#[120]⟩, ⟨#[121, 58, 122]⟩, ⟨#[107, 57]⟩]
def valL : List ByteArray := [⟨#[]⟩, ⟨#[118]⟩, ⟨#[119]⟩, ⟨#[49, 61, 53]⟩, ⟨#[49, 50, 56, 47, 49]⟩]
def keyN (k : Nat) : ByteArray := keyL.getD k ⟨#[]⟩
def valN (k : Nat) : ByteArray := valL.getD k ⟨#[]⟩
def rawE (r : Raw) : Entry := ⟨keyN (pickN r.kind 6), 1 + (pickN r.a 4 : Nat), (pickN r.b 3 : Nat), valN (pickN r.c 5)⟩
theorem rawE_ok (r : Raw) : entryOk (rawE r) = true := by
 have h1 := pickN_lt r.kind 6 (by omega)
 have h2 := pickN_lt r.a 4 (by omega)
 have h3 := pickN_lt r.b 3 (by omega)
 have h4 := pickN_lt r.c 5 (by omega)
 have k1 : ∀ k, k < 6 -> keyOk (keyN k) = true := by decide
 have k2 : ∀ k, k < 5 -> (valN k).size <= 120 := by decide
 unfold entryOk rawE
 simp only [k1 _ h1, Bool.true_and, Bool.and_eq_true, decide_eq_true_eq]
 have := k2 _ h4
 omega
theorem rawE_wf (r : Raw) : (rawE r).wf := by
 have h2 := pickN_lt r.a 4 (by omega)
 have h3 := pickN_lt r.b 3 (by omega)
 obtain ⟨k1, k2, _, _, _, _, k7⟩ := entryOk_bounds (rawE_ok r)
 refine ⟨by unfold maxLen; omega, ?_, ?_, by unfold maxLen; omega⟩
 · show inR (1 + (pickN r.a 4 : Nat)); unfold inR; omega
 · show inR (pickN r.b 3 : Nat); unfold inR; omega
end
section
open Go Go.RowKit Go.Deep
def bitsL : List Int := [0, 1, 2, 3, 4, 8, 8, 5]
theorem bitsL_in : ∀ q, q < 8 -> 0 <= bitsL.getD q 0 /\ bitsL.getD q 0 <= 8 := by decide
def rawP (n : Int) : Prefix := ⟨(pickN (n.tdiv 8) 256 : Nat) - ((pickN (n.tdiv 8) 256 : Nat) : Int) % spanN (bitsL.getD (pickN n 8) 0), bitsL.getD (pickN n 8) 0⟩
theorem rawP_in (n : Int) : inR (rawP n).addr /\ inR (rawP n).bits := by
 have h1 := pickN_lt n 8 (by omega)
 have h2 := pickN_lt (n.tdiv 8) 256 (by omega)
 have h3 := bitsL_in _ h1
 constructor
 · show inR ((pickN (n.tdiv 8) 256 : Nat) - ((pickN (n.tdiv 8) 256 : Nat) : Int) % spanN (bitsL.getD (pickN n 8) 0))
   have h0 : (0 : Int) <= (pickN (n.tdiv 8) 256 : Nat) := zae _
   have h4 : 0 <= spanN (bitsL.getD (pickN n 8) 0) := by unfold spanN; exact zae _
   have h5 := Int.emod_nonneg ((pickN (n.tdiv 8) 256 : Nat) : Int) (b := spanN (bitsL.getD (pickN n 8) 0))
   have h6 : ((pickN (n.tdiv 8) 256 : Nat) : Int) % spanN (bitsL.getD (pickN n 8) 0) <= ((pickN (n.tdiv 8) 256 : Nat) : Int) := by
    unfold spanN
    show ((pickN (n.tdiv 8) 256 % (256 / 2 ^ (bitsL.getD (pickN n 8) 0).toNat) : Nat) : Int) <= _
    have := Nat.mod_le (pickN (n.tdiv 8) 256) (256 / 2 ^ (bitsL.getD (pickN n 8) 0).toNat)
    omega
   by_cases e : spanN (bitsL.getD (pickN n 8) 0) = 0
   · rw [e, Int.emod_zero]; unfold inR; omega
   · have := h5 e
     unfold inR; omega
 · show inR (bitsL.getD (pickN n 8) 0)
   unfold inR; omega
set_option maxRecDepth 50000 in
theorem prefixK_any (n : Int) (w : World) (hn : inR n) :
  Calls Tryz.prog 40 #[.int .i64 n] w fun e w' => e = .returned (.agg #[.int .i64 (rawP n).addr, .int .i64 (rawP n).bits]) /\ Below w.heap.size w w' := by
 have hq := pickN_lt n 8 (by omega)
 have hd : inR (n.tdiv 8) := by
  obtain ⟨h1, h2⟩ := hn
  unfold inR
  have e1 : n.tdiv 8 = if 0 <= n then n / 8 else -((-n) / 8) := by
   split
   · exact Int.tdiv_eq_ediv_of_nonneg (by omega)
   · have : n = -(-n) := by omega
     rw [this, Int.neg_tdiv, Int.tdiv_eq_ediv_of_nonneg (by omega)]
     simp
  rw [e1]
  split <;> omega
 have ha := pickN_lt (n.tdiv 8) 256 (by omega)
 have P1 := zaa (fun w => picked_any n 8 w hn (by omega) (by omega))
 have P2 := zaa (fun w => picked_any (n.tdiv 8) 256 w hd (by omega) (by omega))
 have hb := bitsL_in _ hq
 have hand := andNot_span (pickN (n.tdiv 8) 256 : Nat) (bitsL.getD (pickN n 8) 0) hb.1 hb.2 (zae _) (by omega)
 have HR := zaa (show rawP n = ⟨(pickN (n.tdiv 8) 256 : Nat) - ((pickN (n.tdiv 8) 256 : Nat) : Int) % spanN (bitsL.getD (pickN n 8) 0), bitsL.getD (pickN n 8) 0⟩ from rfl)
 have hwd : wrap64 (n.tdiv 8) = n.tdiv 8 := by unfold inR at hd; unfold wrap64; omega
 have HWD := zaa hwd
 have hcell : ∀ W : World, ∀ B, B = W.heap.size -> (W.alloc (.cells #[.int .i64 0, .int .i64 1, .int .i64 2, .int .i64 3, .int .i64 4, .int .i64 8, .int .i64 8, .int .i64 5] 3)).cell? ⟨B, pickN n 8, none⟩ = some (.int .i64 (bitsL.getD (pickN n 8) 0)) := by
  intro W B hB
  rw [zaf _ _ _ _ hB]
  generalize pickN n 8 = q at hq ⊢
  have : q = 0 ∨ q = 1 ∨ q = 2 ∨ q = 3 ∨ q = 4 ∨ q = 5 ∨ q = 6 ∨ q = 7 := by omega
  rcases this with rfl | rfl | rfl | rfl | rfl | rfl | rfl | rfl <;> rfl
 have HC := zaa hcell
 obtain ⟨R, hR⟩ : ∃ R, R = rawP n := ⟨_, rfl⟩
 rw [<- hR] at HR
 rw [<- hR]
 have hb1 := hb.1
 have hb2 := hb.2
 clear hcell hb hR hd hn hwd
 generalize bitsL.getD (pickN n 8) 0 = b at *
 generalize pickN n 8 = q at *
 generalize pickN (n.tdiv 8) 256 = a at *
 have hqi : (q : Int) < 8 := by omega
 have hq0 : (0 : Int) <= (q : Int) := zae q
 have hbn : ¬ b < 0 := by omega
 have c1 := HC.out (w.alloc (.cells #[.int .i64 0, .int .i64 0] 32)) _ rfl
 simp only [zbq] at c1
 have HAL := zaa (((zad w.heap.size w).alloc (zab _) (.cells #[.int .i64 0, .int .i64 0] 32)).alloc (by simp) (.cells #[.int .i64 0, .int .i64 1, .int .i64 2, .int .i64 3, .int .i64 4, .int .i64 8, .int .i64 8, .int .i64 5] 3))
 clear ha hq
 go_enter Tryz.func40, Tryz.ntmps40
 go_wp2_with fail
 refine (P1.out _).mono ?_
 rintro e w' ⟨rfl, rfl⟩
 go_wp2_with fail
 rw [HWD.out]
 refine (P2.out _).mono ?_
 rintro e w' ⟨rfl, rfl⟩
 go_wp2_with fail
 refine bodyPost_ret (v := .agg #[.int .i64 (a - a % spanN b), .int .i64 b]) (by simp [results, Tryz.results40, go_sem, *]) rfl ⟨by rw [HR.out], ((zad w.heap.size w).alloc (zab _) _).alloc (by simp) _⟩
end
end Go.Proofs.YtbhbilenbbldnaaGreatDoor
