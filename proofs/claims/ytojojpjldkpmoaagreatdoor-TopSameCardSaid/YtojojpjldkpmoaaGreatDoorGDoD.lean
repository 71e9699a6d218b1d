/-
  
-/
import Derived.Test.YtojojpjldkpmoaaGreatDoorGOwn
import Derived.Laws.IdiomStrings
import Derived.Laws.BytesArg
import Derived.Test.YtojojpjldkpmoaaGreatDoorGByt
import Derived.Test.YtojojpjldkpmoaaGreatDoorGGrB
import Derived.Test.YtojojpjldkpmoaaGreatDoorGDoA
import Derived.Lib.QuietBelow
set_option linter.unusedVariables false
set_option linter.unusedSimpArgs false
set_option maxHeartbeats 16000000
namespace Go.Proofs.YtojojpjldkpmoaaGreatDoor
section
open Go.RowKit Go.ChangeShapes Go.WideShapes Go.ChangeAt
theorem conv_str {w : World} {v : Value} {xs : List UInt8} (h : Sl byteR w v xs) : (convert 106 9 v).run Tryz.prog w = .ok (.string ⟨xs.toArray⟩) w := by
 obtain ⟨A, c, rfl⟩ := h.form
 rcases A with _ | ad
 · have hx : xs = [] := by
    rcases zaJ xs.length with h0 | h0
    · exact zat h0
    · obtain ⟨_, _, h, _⟩ := h.at_ h0; cases h
   subst hx
   exact run_convert_bytes_nil w 106 5 Tryz.underlying106 Tryz.underlying5 0 c _ Tryz.underlying9
 · refine run_convert_bytes_back w 106 9 5 ad c xs Tryz.underlying106 Tryz.underlying5 Tryz.underlying9 fun j hj => ?_
   obtain ⟨b, off, hA, _⟩ := h.at_ hj
   injection hA with hA
   subst hA
   obtain ⟨cs, ⟨rfl, _⟩, hc⟩ := h.cell hj
   have h1 := hc 0 _ rfl
   have e : ((⟨b, off, none⟩ : Addr).add j) = ⟨b, off + j * byteR.size + 0, none⟩ := by
    unfold Addr.add
    split
    · rename_i hz; simp [hz]
    · simp [byteR, flatR]
   rw [e]; exact h1
end
section
open Go.RowKit Go.Deep
theorem app_gen {α : Type} {r : Rep α} {T E : TypeId} {bytes : Nat} (el : Elt Tryz.prog T E r.size bytes) {w : World} {base ty : Nat} {v vx : Value} {xs ys : List α} {S : Nat -> Prop} (hown : OwR r E base w v xs) (hsrc : SlR r w S vx ys)
  (hS : ∀ (cs : List Value) (y : α), r.holds w S cs y -> r.holds w (fun k => k < w.heap.size /\ v.ownBlock ≠ some k) cs y) (hn : xs.length + ys.length <= 1000000000000) (hb : bytes <= 100) :
  ∃ v' w', (Builtin.append_ #[T, T] ty #[v, vx]).run Tryz.prog w = .ok v' w' /\ OwR r E base w' v' (xs ++ ys) /\ GrowTo w v w' v' := by
 have hm : (xs.length + ys.length) * bytes <= 1000000000000 * 100 := Nat.mul_le_mul hn hb
 obtain ⟨v', w', r1, r2, r3, r4⟩ := run_own_append (ty := ty) el hown hsrc hS (by unfold maxLen; omega) (by omega)
 refine ⟨v', w', r1, r2, r3, fun k hk => ?_⟩
 rcases r4 with e | e
 · exact .inl (e ▸ hk)
 · rw [e] at hk; injection hk with hk; exact .inr (zbO hk)
theorem wpList_gen {α : Type} {r : Rep α} {T E : TypeId} {bytes : Nat} (el : Elt Tryz.prog T E r.size bytes) {ops : Array Oper} {rest : List Oper} {o : Oper} {a : Act} {Q : Exit -> Act -> World -> Prop} {w : World} {base : Nat} (hgd : o.guard = none) (s x : Operand)
  (ho : o.op = .call { callee := .builtin .append, args := #[s, x], argTypes := #[T, T] }) {v vx : Value} {xs ys : List α} {S : Nat -> Prop}
  (hown : OwR r E base w v xs) (hsrc : SlR r w S vx ys) (hS : ∀ (cs : List Value) (y : α), r.holds w S cs y -> r.holds w (fun k => k < w.heap.size /\ v.ownBlock ≠ some k) cs y) (hs : a.eval s = v) (hx : a.eval x = vx) (hn : xs.length + ys.length <= 1000000000000) (hb : bytes <= 100)
  (h : ∀ v' w', OwR r E base w' v' (xs ++ ys) -> GrowTo w v w' v' -> wpList Tryz.prog ops Q rest (a.put o.dst v') w') : wpList Tryz.prog ops Q (o :: rest) a w :=
 wpList_plain hgd fun _ hK => by
  obtain ⟨v', w', hrun, h2, h3⟩ := app_gen (ty := o.type) el hown hsrc hS hn hb
  unfold Oper.wp execOp
  simp only [ho, resolve, invoke, builtin, zbA, zbz, Result.andThen_ok, zbk, zaH, zbv, hs, hx, hrun]
  exact hK _ _ (h v' w' h2 h3)
theorem step_gen {α : Type} {r : Rep α} {T E : TypeId} {bytes : Nat} (el : Elt Tryz.prog T E r.size bytes) {ops : Array Oper} {o : Oper} {a : Act} {K : Act -> World -> Prop} {Q : Exit -> Act -> World -> Prop} {E' : Prop} {w : World} {base : Nat} (hgd : o.guard = none) (s x : Operand)
  (ho : o.op = .call { callee := .builtin .append, args := #[s, x], argTypes := #[T, T] }) {v vx : Value} {xs ys : List α} {S : Nat -> Prop}
  (hown : OwR r E base w v xs) (hsrc : SlR r w S vx ys) (hS : ∀ (cs : List Value) (y : α), r.holds w S cs y -> r.holds w (fun k => k < w.heap.size /\ v.ownBlock ≠ some k) cs y) (hs : a.eval s = v) (hx : a.eval x = vx) (hn : xs.length + ys.length <= 1000000000000) (hb : bytes <= 100)
  (h : ∀ v' w', OwR r E base w' v' (xs ++ ys) -> GrowTo w v w' v' -> K (a.put o.dst v') w') : if Region.wanted o (yielded ops a.tmps) = true then Oper.wp Tryz.prog o a w K Q else E' := by
 have hw : Region.wanted o (yielded ops a.tmps) = true := by simp [Region.wanted, hgd]
 rw [if_pos hw]
 obtain ⟨v', w', hrun, h2, h3⟩ := app_gen (ty := o.type) el hown hsrc hS hn hb
 unfold Oper.wp execOp
 simp only [ho, resolve, invoke, builtin, zbA, zbz, Result.andThen_ok, zbk, zaH, zbv, hs, hx, hrun]
 exact h v' w' h2 h3
theorem ow_alloc {α : Type} {r : Rep α} {E base : Nat} {w : World} {v : Value} {xs : List α} (h : OwR r E base w v xs) (o : Obj) : OwR r E base (w.alloc o) v xs := h.keep ((zad w.heap.size w).alloc (zab _) o)
theorem Sl.strA {w : World} {b off c n : Nat} {xs : List ByteArray} (h : Sl strR w (.slice (some ⟨b, off, none⟩) n c) xs) {k : Nat} (hk : k < xs.length) : w.cell? ⟨b, off + k, none⟩ = some (.string xs[k]) := by
 obtain ⟨cs, ⟨rfl, hw⟩, hc⟩ := h.cell hk
 have := hc 0 _ rfl
 simpa [strR, flatR] using this
theorem elt_strA : Elt Tryz.prog 55 9 1 16 := ⟨Tryz.underlying55, by
 have h : (Tryz.prog.info? 9).map (fun i => (i.zero, i.size, i.bytes)) = some (some (.string ⟨#[]⟩), 1, 16) := by kernel_rfl
 obtain ⟨i, h1, h2, h3, h4⟩ := info_parts h
 exact ⟨i, _, h1, h2, h3, h4, rfl⟩, by decide⟩
theorem elt_sideA : Elt Tryz.prog 95 99 2 16 := ⟨Tryz.underlying95, by
 have h : (Tryz.prog.info? 99).map (fun i => (i.zero, i.size, i.bytes)) = some (some (.agg #[.int .i64 0, .int .i64 0]), 2, 16) := by kernel_rfl
 obtain ⟨i, h1, h2, h3, h4⟩ := info_parts h
 exact ⟨i, _, h1, h2, h3, h4, rfl⟩, by decide⟩
theorem elt_prefA : Elt Tryz.prog 46 32 2 16 := ⟨Tryz.underlying46, by
 have h : (Tryz.prog.info? 32).map (fun i => (i.zero, i.size, i.bytes)) = some (some (.agg #[.int .i64 0, .int .i64 0]), 2, 16) := by kernel_rfl
 obtain ⟨i, h1, h2, h3, h4⟩ := info_parts h
 exact ⟨i, _, h1, h2, h3, h4, rfl⟩, by decide⟩
theorem one_flat {α : Type} {r : Rep α} {w : World} {B : Nat} {cs : List Value} {x : α} {E : TypeId} (hB : B = w.heap.size) (hh : r.holds w (fun k => k < w.heap.size) cs x) :
  SlR r (w.alloc (.cells cs.toArray E)) (fun k => k < w.heap.size + 1) (.slice (some ⟨B, 0, none⟩) 1 1) [x] := by
 subst hB; exact SlR.one_new hh
end
section
open Go Go.RowKit
theorem bOf_app (l m : List UInt8) : bOf l ++ bOf m = bOf (l ++ m) := Go.ByteArray.mk_append_mk l m
def Pair2 (b : UInt8) (s : List UInt8) (e : Ending) : Prop := ∃ x y ok, e = .returned (.tuple #[.int .i64 x, .int .i64 y, .bool ok]) /\ (pairD b s = if ok = true then some (x, y) else none) /\ inR x /\ inR y
theorem num_inR (s : List UInt8) : inR (numD 100000 s) := by have := num_le 100000 (by omega) s; unfold inR; omega
theorem two_pair (s : ByteArray) (b : UInt8) (w : World) (hs : s.size < 4294967281) (hE : Env w) :
  Calls Tryz.prog 180 #[.string s, .string ⟨#[b]⟩, .int .i64 100000] w fun e w' => Pair2 b s.data.toList e /\ Below w.heap.size w w' :=
 (two_any s b 100000 w hs (by unfold inR; omega) hE).mono fun e w' ⟨he, hb⟩ => ⟨⟨_, _, _, he, by
  unfold pairD
  simp only [Bool.and_eq_true, decide_eq_true_eq], num_inR _, num_inR _⟩, hb⟩
def prefOf (x : Int × Int) : Prefix := ⟨x.1, x.2⟩
def sideOf2 (x : Int × Int) : Side := ⟨x.1, x.2⟩
def SlF {α : Type} (r : Rep α) (b : Nat) (w : World) (v : Value) (xs : List α) : Prop := SlR r w (fun k => k < w.heap.size /\ b <= k) v xs
theorem SlF.sl {α : Type} {r : Rep α} {b : Nat} {w : World} {v : Value} {xs : List α} (h : SlF r b w v xs) : Sl r w v xs := SlR.keep h (fun _ _ => rfl) (fun _ hk => hk.1)
theorem SlF.nil {α : Type} (r : Rep α) (b : Nat) (w : World) : SlF r b w (.slice none 0 0) [] := ⟨none, 0, rfl, zab _, zak _, fun i x h => by simp at h⟩
theorem SlF.below {α : Type} {r : Rep α} {b : Nat} {w w' : World} {v : Value} {xs : List α} (h : SlF r b w v xs) (hb : Below w.heap.size w w') : SlF r b w' v xs := SlR.keep h (fun k hk => hb.block k hk.1) (fun k hk => ⟨zan hk.1 hb.size, hk.2⟩)
theorem SlF.mono {α : Type} {r : Rep α} {b b' : Nat} {w : World} {v : Value} {xs : List α} (h : SlF r b w v xs) (hb : b' <= b) : SlF r b' w v xs := SlR.keep h (fun _ _ => rfl) (fun _ hk => ⟨hk.1, zaz hb hk.2⟩)
theorem OwR.slG {α : Type} {r : Rep α} {E base : Nat} {w : World} {v : Value} {xs : List α} (h : OwR r E base w v xs) (hs : 0 < r.size) (hf : ∀ S S' cs x, r.holds w S cs x -> r.holds w S' cs x) : SlF r base w v xs := by
 obtain ⟨A, c, rfl, h1, h2, h3⟩ := h.sl hs
 refine ⟨A, c, rfl, h1, h2, fun i x hx => ?_⟩
 obtain ⟨b, off, cs, rfl, hS, hb, hh, hc⟩ := h3 i x hx
 exact ⟨b, off, cs, rfl, ⟨hb, (h.base_le b rfl).1⟩, hb, hf _ _ _ _ hh, hc⟩
def RPrefF (s : List UInt8) (w : World) (e : Ending) (w' : World) : Prop := ∃ v, e = .returned (.tuple #[v, .int .i64 (readPrefs s).2]) /\ SlF prefR w.heap.size w' v (readPrefs s).1 /\ Below w.heap.size w w'
theorem rpf_fin {s : List UInt8} {w w' : World} {v : Value} {l : List Prefix} {n : Int} (h : readPrefs s = (l, n)) (hs : SlF prefR w.heap.size w' v l) (hb : Below w.heap.size w w') : RPrefF s w (.returned (.tuple #[v, .int .i64 n])) w' := ⟨v, by rw [h], by rw [h]; exact hs, hb⟩
theorem rp_none {s : List UInt8} (h : pairsD 47 (partsC s) = none) : readPrefs s = ([], 4) := by unfold readPrefs; rw [h]
theorem rp_bad {s : List UInt8} {l : List (Int × Int)} (h : pairsD 47 (partsC s) = some l) (hc : chkPrefs (l.map prefOf) ≠ 0) : readPrefs s = ([], chkPrefs (l.map prefOf)) := by unfold readPrefs; rw [h]; exact if_neg hc
theorem rp_good {s : List UInt8} {l : List (Int × Int)} (h : pairsD 47 (partsC s) = some l) (hc : chkPrefs (l.map prefOf) = 0) : readPrefs s = (l.map prefOf, 0) := by unfold readPrefs; rw [h]; exact if_pos hc
theorem pairs_take {b : UInt8} {l : List (List UInt8)} {k : Nat} {acc : List (Int × Int)} {p : List UInt8} {x : Int × Int} (h : pairsD b (l.take k) = some acc) (hp : l[k]? = some p) (hx : pairD b p = some x) : pairsD b (l.take (k + 1)) = some (acc ++ [x]) := by
 rw [List.take_add_one, hp]
 show pairsD b (l.take k ++ [p]) = _
 rw [pairsD_snoc, h]; simp only [hx]
set_option maxRecDepth 50000 in
theorem readPrefs_fr (s : ByteArray) (w : World) (hl : s.size < 4294967281) (hE : Env w) :
  Calls Tryz.prog 149 #[.string s] w fun e w' => RPrefF s.data.toList w e w' := by
 have HSZ := zaa (size_toList s)
 have hpl := partsC_len s.data.toList
 rw [HSZ.out] at hpl
 have HPL := zaa hpl
 have HE := zaa hE
 clear hE hpl
 go_enter Tryz.func149, Tryz.ntmps149
 obtain ⟨PS, hPS⟩ : ∃ PS, PS = partsC s.data.toList := ⟨_, rfl⟩
 have HPS := zaa hPS
 have hpn : PS.length <= s.size + 1 := by rw [hPS]; exact HPL.out.1
 clear hPS
 go_wp2_with (go_at_call 179; refine (parts_any s _ hl HE.out).mono ?_; rintro e w1 ⟨⟨v, rfl, hv⟩, hb1⟩; rw [<- HPS.out] at hv; have HB1 := zaa hb1; have HE1 := zaa (HE.out.below hb1); clear hb1; obtain ⟨A, c, rfl⟩ := hv.form; have HV := zaa hv; clear hv)
 go_loopw [4, 14] (fun o i wr => ∃ (k : Nat) (acc : List (Int × Int)), k <= PS.length /\ i = .int .i64 k /\ OwR prefR 32 w1.heap.size wr o (acc.map prefOf) /\ Below w1.heap.size w1 wr /\ pairsD 47 (PS.take k) = some acc) (fun _ i _ => PS.length - (intOf i).toNat)
 case atStart => exact ⟨0, [], zak _, rfl, OwR.nil _ _ (zab _), zad _ _, rfl⟩
 case round =>
  obtain ⟨k, acc, hk, rfl, ho, hB, hp⟩ := hrel
  have HO := zaa ho
  have HB := zaa hB
  have HP := zaa hp
  have hal := pairsD_len 47 hp
  rw [zaq] at hal
  clear ho hB hp
  by_cases hlt : k < PS.length
  · have hltm : k < (PS.map bOf).length := by rw [zaV]; exact hlt
    obtain ⟨bk, off, rfl, hbk⟩ := HV.out.at_ hltm
    have hcell := (HV.out.below HB.out).strA hltm
    rw [List.getElem_map] at hcell
    have hsz := HPL.out.2 PS[k] (by rw [<- HPS.out]; exact zas hlt)
    have hsm : (bOf PS[k]).size < 4294967281 := by rw [bOf_size]; omega
    have htwo := fun w hE => two_pair (bOf PS[k]) 47 w hsm hE
    rw [bOf_list] at htwo
    have HT := zaa htwo
    have HK := zaa (zac hlt)
    have HN := zaa (show (acc.map prefOf).length + 1 <= 1000000000000 by rw [zaV]; omega)
    have hlti : (k : Int) < (PS.length : Int) := by omega
    clear htwo hsz hsm hal
    go_wp2_with (first
     | (at_builtin; refine wpList_gen (base := w1.heap.size) elt_prefA rfl (.tmp 26) (.tmp 30) rfl ((HO.out.keep hb3).keep ((zad _ _).alloc (zab _) _)) (one_flat (r := prefR) (cs := [.int .i64 x, .int .i64 y]) (x := prefOf (x, y)) rfl ⟨rfl, hx, hy⟩) (fun _ _ h => h) rfl rfl HN.out (by decide) ?_; intro v2 w4 ho2 hg2)
     | (go_at_call 180; refine (HT.out _ (HE1.out.below HB.out)).mono ?_; rintro e w3 ⟨⟨x, y, ok, rfl, hpd, hx, hy⟩, hb3⟩; have HPD := zaa hpd; clear hpd))
    · have hok : ok = false := by have h := ‹(!ok) = true›; simpa using h
      have hpd := HPD.out
      rw [hok] at hpd
      have B3 := HB.out.trans (hb3.mono HB.out.size)
      go_ret2
      have hnone := pairsD_fail 47 HK.out hpd
      rw [HPS.out] at hnone
      exact rpf_fin (rp_none hnone) (SlF.nil _ _ _) (HB1.out.trans (B3.mono HB1.out.size))
    · have hok : ok = true := by have h := ‹(!ok) = false›; simpa using h
      have B3 := HB.out.trans (hb3.mono HB.out.size)
      have B4 := (ow_alloc (HO.out.keep hb3) (.cells #[.int .i64 x, .int .i64 y] 32)).below_grown (B3.alloc B3.size (.cells #[.int .i64 x, .int .i64 y] 32)) hg2.grown
      have hpd := HPD.out
      rw [hok] at hpd
      go_roundw
      case rel => exact ⟨k + 1, acc ++ [(x, y)], by omega, by go_num, by rw [zbf]; exact ho2, B4, pairs_take HP.out HK.out hpd⟩
      case measure => simp [intOf]; omega
  · have hke : k = PS.length := by omega
    subst hke
    rw [zaP] at HP
    rw [HPS.out] at HP
    have hnlt : ¬ (PS.length : Int) < (PS.length : Int) := by omega
    have hal' : acc.length <= 4294967290 := by omega
    have hbad := fun h => rp_bad (s := s.data.toList) HP.out h
    have hgood := fun h => rp_good (s := s.data.toList) HP.out h
    generalize acc.map prefOf = L at HO hbad hgood
    have HCK := zaa (fun w v h => checkPrefs_any v L w h)
    have HBAD := zaa hbad
    have HGOOD := zaa hgood
    have hsl := (HO.out.slG (by decide) (fun _ _ _ _ h => h)).mono HB1.out.size
    obtain ⟨A2, c2, rfl⟩ := hsl.sl.form
    have HSL := zaa hsl
    clear hsl hal hk hlt hbad hgood
    by_cases hc : chkPrefs L = 0
    · have HR := zaa (HGOOD.out hc)
      rw [hc] at HCK
      clear hc
      go_wp2_with (go_at_call 53; refine (HCK.out _ _ HSL.out.sl).mono ?_; rintro e w3 ⟨rfl, hb3⟩)
      go_ret2
      exact rpf_fin HR.out (HSL.out.below hb3) (HB1.out.trans ((HB.out.trans (hb3.mono HB.out.size)).mono HB1.out.size))
    · have HR := zaa (HBAD.out hc)
      have hcb : (chkPrefs L == 0) = false := by rw [beq_eq_false_iff_ne]; exact hc
      clear hc
      go_wp2_with (go_at_call 53; refine (HCK.out _ _ HSL.out.sl).mono ?_; rintro e w3 ⟨rfl, hb3⟩)
      go_ret2
      exact rpf_fin HR.out (SlF.nil _ _ _) (HB1.out.trans ((HB.out.trans (hb3.mono HB.out.size)).mono HB1.out.size))
end
end Go.Proofs.YtojojpjldkpmoaaGreatDoor
