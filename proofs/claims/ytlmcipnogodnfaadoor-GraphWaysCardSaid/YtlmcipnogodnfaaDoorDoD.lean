/-
  Reading the text of prefixes: ReadPrefixes and PrefixesOf, walked.
-/
import Derived.Test.YtlmcipnogodnfaaDoorDoC
namespace Go.Proofs.YtlmcipnogodnfaaDoor
open Go Go.RowKit

def prefOf (x : Int × Int) : Prefix := ⟨x.1, x.2⟩
def sideOf2 (x : Int × Int) : Side := ⟨x.1, x.2⟩
def RPref (s : List UInt8) (w : World) (e : Ending) (w' : World) : Prop := ∃ v, e = .returned (.tuple #[v, .int .i64 (readPrefs s).2]) ∧ Sl prefR w' v (readPrefs s).1 ∧ Below w.heap.size w w'
theorem rp_fin {s : List UInt8} {w w' : World} {v : Value} {l : List Prefix} {n : Int} (h : readPrefs s = (l, n)) (hs : Sl prefR w' v l) (hb : Below w.heap.size w w') : RPref s w (.returned (.tuple #[v, .int .i64 n])) w' := ⟨v, by rw [h], by rw [h]; exact hs, hb⟩
/-- .. the list lies in blocks from b on -/
def SlF {α : Type} (r : Rep α) (b : Nat) (w : World) (v : Value) (xs : List α) : Prop := SlR r w (fun k => k < w.heap.size ∧ b ≤ k) v xs
theorem SlF.sl {α : Type} {r : Rep α} {b : Nat} {w : World} {v : Value} {xs : List α} (h : SlF r b w v xs) : Sl r w v xs := SlR.keep h (fun _ _ => rfl) (fun _ hk => hk.1)
theorem SlF.nil {α : Type} (r : Rep α) (b : Nat) (w : World) : SlF r b w (.slice none 0 0) [] := ⟨none, 0, rfl, Nat.le_refl _, Nat.zero_le _, fun i x h => by simp at h⟩
theorem SlF.below {α : Type} {r : Rep α} {b : Nat} {w w' : World} {v : Value} {xs : List α} (h : SlF r b w v xs) (hb : Below w.heap.size w w') : SlF r b w' v xs := SlR.keep h (fun k hk => hb.block k hk.1) (fun k hk => ⟨Nat.lt_of_lt_of_le hk.1 hb.size, hk.2⟩)
theorem SlF.mono {α : Type} {r : Rep α} {b b' : Nat} {w : World} {v : Value} {xs : List α} (h : SlF r b w v xs) (hb : b' ≤ b) : SlF r b' w v xs := SlR.keep h (fun _ _ => rfl) (fun _ hk => ⟨hk.1, Nat.le_trans hb hk.2⟩)
theorem OwR.slG {α : Type} {r : Rep α} {E base : Nat} {w : World} {v : Value} {xs : List α} (h : OwR r E base w v xs) (hs : 0 < r.size) (hf : ∀ S S' cs x, r.holds w S cs x → r.holds w S' cs x) : SlF r base w v xs := by
  obtain ⟨A, c, rfl, h1, h2, h3⟩ := h.sl hs
  refine ⟨A, c, rfl, h1, h2, fun i x hx => ?_⟩
  obtain ⟨b, off, cs, rfl, hS, hb, hh, hc⟩ := h3 i x hx
  exact ⟨b, off, cs, rfl, ⟨hb, (h.base_le b rfl).1⟩, hb, hf _ _ _ _ hh, hc⟩
def RPrefF (s : List UInt8) (w : World) (e : Ending) (w' : World) : Prop := ∃ v, e = .returned (.tuple #[v, .int .i64 (readPrefs s).2]) ∧ SlF prefR w.heap.size w' v (readPrefs s).1 ∧ Below w.heap.size w w'
theorem rpf_fin {s : List UInt8} {w w' : World} {v : Value} {l : List Prefix} {n : Int} (h : readPrefs s = (l, n)) (hs : SlF prefR w.heap.size w' v l) (hb : Below w.heap.size w w') : RPrefF s w (.returned (.tuple #[v, .int .i64 n])) w' := ⟨v, by rw [h], by rw [h]; exact hs, hb⟩
theorem rpf_any {s : List UInt8} {w : World} {e : Ending} {w' : World} (h : RPrefF s w e w') : RPref s w e w' := by
  obtain ⟨v, h1, h2, h3⟩ := h
  exact ⟨v, h1, h2.sl, h3⟩
theorem rp_none {s : List UInt8} (h : pairsD 47 (partsC s) = none) : readPrefs s = ([], 4) := by unfold readPrefs; rw [h]
theorem rp_bad {s : List UInt8} {l : List (Int × Int)} (h : pairsD 47 (partsC s) = some l) (hc : chkPrefs (l.map prefOf) ≠ 0) : readPrefs s = ([], chkPrefs (l.map prefOf)) := by unfold readPrefs; rw [h]; exact if_neg hc
theorem rp_good {s : List UInt8} {l : List (Int × Int)} (h : pairsD 47 (partsC s) = some l) (hc : chkPrefs (l.map prefOf) = 0) : readPrefs s = (l.map prefOf, 0) := by unfold readPrefs; rw [h]; exact if_pos hc
theorem pairs_take {b : UInt8} {l : List (List UInt8)} {k : Nat} {acc : List (Int × Int)} {p : List UInt8} {x : Int × Int} (h : pairsD b (l.take k) = some acc) (hp : l[k]? = some p) (hx : pairD b p = some x) : pairsD b (l.take (k + 1)) = some (acc ++ [x]) := by
  rw [List.take_add_one, hp]
  show pairsD b (l.take k ++ [p]) = _
  rw [pairsD_snoc, h]; simp only [hx]


set_option maxRecDepth 50000 in
set_option maxHeartbeats 2000000 in
theorem readPrefs_fr (s : ByteArray) (w : World) (hl : s.size < 4294967281) (hE : Env w) :
    Calls Tryd.prog 14 #[.string s] w fun e w' => RPrefF s.data.toList w e w' := by
  have HSZ := Go.Lib.hid (size_toList s)
  have hpl := partsC_len s.data.toList
  rw [HSZ.out] at hpl
  have HPL := Go.Lib.hid hpl
  have HE := Go.Lib.hid hE
  clear hE hpl
  go_enter Tryd.func14, Tryd.ntmps14
  obtain ⟨PS, hPS⟩ : ∃ PS, PS = partsC s.data.toList := ⟨_, rfl⟩
  have HPS := Go.Lib.hid hPS
  have hpn : PS.length ≤ s.size + 1 := by rw [hPS]; exact HPL.out.1
  clear hPS
  go_wp2_with (go_at_call 33; refine (parts_any s _ hl HE.out).mono ?_; rintro e w1 ⟨⟨v, rfl, hv⟩, hb1⟩; rw [← HPS.out] at hv; have HB1 := Go.Lib.hid hb1; have HE1 := Go.Lib.hid (HE.out.below hb1); clear hb1; obtain ⟨A, c, rfl⟩ := hv.form; have HV := Go.Lib.hid hv; clear hv)
  go_loopw [4, 14] (fun o i wr => ∃ (k : Nat) (acc : List (Int × Int)), k ≤ PS.length ∧ i = .int .i64 k ∧ OwR prefR 49 w1.heap.size wr o (acc.map prefOf) ∧ Below w1.heap.size w1 wr ∧ pairsD 47 (PS.take k) = some acc) (fun _ i _ => PS.length - (intOf i).toNat)
  case atStart => exact ⟨0, [], Nat.zero_le _, rfl, OwR.nil _ _ (Nat.le_refl _), Below.refl _ _, rfl⟩
  case round =>
    obtain ⟨k, acc, hk, rfl, ho, hB, hp⟩ := hrel
    have HO := Go.Lib.hid ho
    have HB := Go.Lib.hid hB
    have HP := Go.Lib.hid hp
    have hal := pairsD_len 47 hp
    rw [List.length_take] at hal
    clear ho hB hp
    by_cases hlt : k < PS.length
    · have hltm : k < (PS.map bOf).length := by rw [List.length_map]; exact hlt
      obtain ⟨bk, off, rfl, hbk⟩ := HV.out.at_ hltm
      have hcell := (HV.out.below HB.out).strA hltm
      rw [List.getElem_map] at hcell
      have hsz := HPL.out.2 PS[k] (by rw [← HPS.out]; exact List.getElem_mem hlt)
      have hsm : (bOf PS[k]).size < 4294967281 := by rw [bOf_size]; omega
      have htwo := fun w hE => two_pair (bOf PS[k]) 47 w hsm hE
      rw [bOf_list] at htwo
      have HT := Go.Lib.hid htwo
      have HK := Go.Lib.hid (List.getElem?_eq_getElem hlt)
      have HN := Go.Lib.hid (show (acc.map prefOf).length + 1 ≤ 1000000000000 by rw [List.length_map]; omega)
      have hlti : (k : Int) < (PS.length : Int) := by omega
      clear htwo hsz hsm hal
      go_wp2_with (first
        | (at_builtin; refine wpList_gen (base := w1.heap.size) elt_prefA rfl (.tmp 26) (.tmp 30) rfl ((HO.out.keep hb3).keep ((Below.refl _ _).alloc (Nat.le_refl _) _)) (one_flat (r := prefR) (cs := [.int .i64 x, .int .i64 y]) (x := prefOf (x, y)) rfl ⟨rfl, hx, hy⟩) (fun _ _ h => h) rfl rfl HN.out (by decide) ?_; intro v2 w4 ho2 hg2)
        | (go_at_call 34; refine (HT.out _ (HE1.out.below HB.out)).mono ?_; rintro e w3 ⟨⟨x, y, ok, rfl, hpd, hx, hy⟩, hb3⟩; have HPD := Go.Lib.hid hpd; clear hpd))
      · have hok : ok = false := by have h := ‹(!ok) = true›; simpa using h
        have hpd := HPD.out
        rw [hok] at hpd
        have B3 := HB.out.trans (hb3.mono HB.out.size)
        go_ret2
        have hnone := pairsD_fail 47 HK.out hpd
        rw [HPS.out] at hnone
        exact rpf_fin (rp_none hnone) (SlF.nil _ _ _) (HB1.out.trans (B3.mono HB1.out.size))
      · have hok : ok = true := by have h := ‹(!ok) = false›; simpa using h
        have B3 := HB.out.trans (hb3.mono HB.out.size)
        have B4 := (ow_alloc (HO.out.keep hb3) (.cells #[.int .i64 x, .int .i64 y] 49)).below_grown (B3.alloc B3.size (.cells #[.int .i64 x, .int .i64 y] 49)) hg2.grown
        have hpd := HPD.out
        rw [hok] at hpd
        go_roundw
        case rel => exact ⟨k + 1, acc ++ [(x, y)], by omega, by go_num, by rw [List.map_append]; exact ho2, B4, pairs_take HP.out HK.out hpd⟩
        case measure => simp [intOf]; omega
    · have hke : k = PS.length := by omega
      subst hke
      rw [List.take_length] at HP
      rw [HPS.out] at HP
      have hnlt : ¬ (PS.length : Int) < (PS.length : Int) := by omega
      have hal' : acc.length ≤ 4294967290 := by omega
      have hbad := fun h => rp_bad (s := s.data.toList) HP.out h
      have hgood := fun h => rp_good (s := s.data.toList) HP.out h
      generalize acc.map prefOf = L at HO hbad hgood
      have HCK := Go.Lib.hid (fun w v h => checkPrefs_any v L w h)
      have HBAD := Go.Lib.hid hbad
      have HGOOD := Go.Lib.hid hgood
      have hsl := (HO.out.slG (by decide) (fun _ _ _ _ h => h)).mono HB1.out.size
      obtain ⟨A2, c2, rfl⟩ := hsl.sl.form
      have HSL := Go.Lib.hid hsl
      clear hsl hal hk hlt hbad hgood
      by_cases hc : chkPrefs L = 0
      · have HR := Go.Lib.hid (HGOOD.out hc)
        rw [hc] at HCK
        clear hc
        go_wp2_with (go_at_call 31; refine (HCK.out _ _ HSL.out.sl).mono ?_; rintro e w3 ⟨rfl, hb3⟩)
        go_ret2
        exact rpf_fin HR.out (HSL.out.below hb3) (HB1.out.trans ((HB.out.trans (hb3.mono HB.out.size)).mono HB1.out.size))
      · have HR := Go.Lib.hid (HBAD.out hc)
        have hcb : (chkPrefs L == 0) = false := by rw [beq_eq_false_iff_ne]; exact hc
        clear hc
        go_wp2_with (go_at_call 31; refine (HCK.out _ _ HSL.out.sl).mono ?_; rintro e w3 ⟨rfl, hb3⟩)
        go_ret2
        exact rpf_fin HR.out (SlF.nil _ _ _) (HB1.out.trans ((HB.out.trans (hb3.mono HB.out.size)).mono HB1.out.size))

theorem readPrefs_any (s : ByteArray) (w : World) (hl : s.size < 4294967281) (hE : Env w) :
    Calls Tryd.prog 14 #[.string s] w fun e w' => RPref s.data.toList w e w' := (readPrefs_fr s w hl hE).mono fun _ _ h => rpf_any h

theorem pairOf_pair (s : ByteArray) (b : UInt8) (c : Int) (hc : c = b.toNat) (w : World) (hs : s.size < 4294967281) (_ : Env w) :
    Calls Tryd.prog 36 #[.string s, .int .u8 c] w fun e w' => Pair2 b s.data.toList e ∧ Below w.heap.size w w' := by
  subst hc
  exact (pairOf_any s b w (by omega)).mono fun e w' ⟨he, hw⟩ => ⟨he, by subst hw; exact Below.refl _ _⟩

set_option maxRecDepth 50000 in
set_option maxHeartbeats 2000000 in
theorem prefsOf_fr (s : ByteArray) (w : World) (hl : s.size < 4294967281) (hE : Env w) :
    Calls Tryd.prog 15 #[.string s] w fun e w' => RPrefF s.data.toList w e w' := by
  have HSZ := Go.Lib.hid (size_toList s)
  have hpl := partsC_len s.data.toList
  rw [HSZ.out] at hpl
  have HPL := Go.Lib.hid hpl
  have HE := Go.Lib.hid hE
  clear hE hpl
  go_enter Tryd.func15, Tryd.ntmps15
  obtain ⟨PS, hPS⟩ : ∃ PS, PS = partsC s.data.toList := ⟨_, rfl⟩
  have HPS := Go.Lib.hid hPS
  have hpn : PS.length ≤ s.size + 1 := by rw [hPS]; exact HPL.out.1
  clear hPS
  go_wp2_with (go_at_call 35; refine (cuts_any s _ (by omega)).mono ?_; rintro e w1 ⟨⟨v, rfl, hv⟩, hb1⟩; rw [← HPS.out] at hv; have HB1 := Go.Lib.hid hb1; have HE1 := Go.Lib.hid (HE.out.below hb1); clear hb1; obtain ⟨A, c, rfl⟩ := hv.form; have HV := Go.Lib.hid hv; clear hv)
  go_loopw [4, 6] (fun o i wr => ∃ (k : Nat) (acc : List (Int × Int)), k ≤ PS.length ∧ i = .int .i64 k ∧ OwR prefR 49 w1.heap.size wr o (acc.map prefOf) ∧ Below w1.heap.size w1 wr ∧ pairsD 47 (PS.take k) = some acc) (fun _ i _ => PS.length - (intOf i).toNat)
  case atStart => exact ⟨0, [], Nat.zero_le _, rfl, OwR.nil _ _ (Nat.le_refl _), Below.refl _ _, rfl⟩
  case round =>
    obtain ⟨k, acc, hk, rfl, ho, hB, hp⟩ := hrel
    have HO := Go.Lib.hid ho
    have HB := Go.Lib.hid hB
    have HP := Go.Lib.hid hp
    have hal := pairsD_len 47 hp
    rw [List.length_take] at hal
    clear ho hB hp
    by_cases hlt : k < PS.length
    · have hltm : k < (PS.map bOf).length := by rw [List.length_map]; exact hlt
      obtain ⟨bk, off, rfl, hbk⟩ := HV.out.at_ hltm
      have hcell := (HV.out.below HB.out).strA hltm
      rw [List.getElem_map] at hcell
      have hsz := HPL.out.2 PS[k] (by rw [← HPS.out]; exact List.getElem_mem hlt)
      have hsm : (bOf PS[k]).size < 4294967281 := by rw [bOf_size]; omega
      have htwo := fun w hE => pairOf_pair (bOf PS[k]) 47 47 rfl w hsm hE
      rw [bOf_list] at htwo
      have HT := Go.Lib.hid htwo
      have HK := Go.Lib.hid (List.getElem?_eq_getElem hlt)
      have HN := Go.Lib.hid (show (acc.map prefOf).length + 1 ≤ 1000000000000 by rw [List.length_map]; omega)
      have hlti : (k : Int) < (PS.length : Int) := by omega
      clear htwo hsz hsm hal
      go_wp2_with (first
        | (at_builtin; refine wpList_gen (base := w1.heap.size) elt_prefA rfl (.tmp 30) (.tmp 34) rfl ((HO.out.keep hb3).keep ((Below.refl _ _).alloc (Nat.le_refl _) _)) (one_flat (r := prefR) (cs := [.int .i64 x, .int .i64 y]) (x := prefOf (x, y)) rfl ⟨rfl, hx, hy⟩) (fun _ _ h => h) rfl rfl HN.out (by decide) ?_; intro v2 w4 ho2 hg2)
        | (go_at_call 36; refine (HT.out _ (HE1.out.below HB.out)).mono ?_; rintro e w3 ⟨⟨x, y, ok, rfl, hpd, hx, hy⟩, hb3⟩; have HPD := Go.Lib.hid hpd; clear hpd))
      · have hok : ok = false := by have h := ‹(!ok) = true›; simpa using h
        have hpd := HPD.out
        rw [hok] at hpd
        have B3 := HB.out.trans (hb3.mono HB.out.size)
        go_ret2
        have hnone := pairsD_fail 47 HK.out hpd
        rw [HPS.out] at hnone
        exact rpf_fin (rp_none hnone) (SlF.nil _ _ _) (HB1.out.trans (B3.mono HB1.out.size))
      · have hok : ok = true := by have h := ‹(!ok) = false›; simpa using h
        have B3 := HB.out.trans (hb3.mono HB.out.size)
        have B4 := (ow_alloc (HO.out.keep hb3) (.cells #[.int .i64 x, .int .i64 y] 49)).below_grown (B3.alloc B3.size (.cells #[.int .i64 x, .int .i64 y] 49)) hg2.grown
        have hpd := HPD.out
        rw [hok] at hpd
        go_roundw
        case rel => exact ⟨k + 1, acc ++ [(x, y)], by omega, by go_num, by rw [List.map_append]; exact ho2, B4, pairs_take HP.out HK.out hpd⟩
        case measure => simp [intOf]; omega
    · have hke : k = PS.length := by omega
      subst hke
      rw [List.take_length] at HP
      rw [HPS.out] at HP
      have hnlt : ¬ (PS.length : Int) < (PS.length : Int) := by omega
      have hal' : acc.length ≤ 4294967290 := by omega
      have hbad := fun h => rp_bad (s := s.data.toList) HP.out h
      have hgood := fun h => rp_good (s := s.data.toList) HP.out h
      generalize acc.map prefOf = L at HO hbad hgood
      have HCK := Go.Lib.hid (fun w v h => prefsFault_any v L w h)
      have HBAD := Go.Lib.hid hbad
      have HGOOD := Go.Lib.hid hgood
      have hsl := (HO.out.slG (by decide) (fun _ _ _ _ h => h)).mono HB1.out.size
      obtain ⟨A2, c2, rfl⟩ := hsl.sl.form
      have HSL := Go.Lib.hid hsl
      clear hsl hal hk hlt hbad hgood
      by_cases hc : chkPrefs L = 0
      · have HR := Go.Lib.hid (HGOOD.out hc)
        rw [hc] at HCK
        clear hc
        go_wp2_with (go_at_call 32; refine (HCK.out _ _ HSL.out.sl).mono ?_; rintro e w3 ⟨rfl, hb3⟩)
        go_ret2
        exact rpf_fin HR.out (HSL.out.below hb3) (HB1.out.trans ((HB.out.trans (hb3.mono HB.out.size)).mono HB1.out.size))
      · have HR := Go.Lib.hid (HBAD.out hc)
        have hcb : (chkPrefs L == 0) = false := by rw [beq_eq_false_iff_ne]; exact hc
        clear hc
        go_wp2_with (go_at_call 32; refine (HCK.out _ _ HSL.out.sl).mono ?_; rintro e w3 ⟨rfl, hb3⟩)
        go_ret2
        exact rpf_fin HR.out (SlF.nil _ _ _) (HB1.out.trans ((HB.out.trans (hb3.mono HB.out.size)).mono HB1.out.size))
theorem prefsOf_any (s : ByteArray) (w : World) (hl : s.size < 4294967281) (hE : Env w) :
    Calls Tryd.prog 15 #[.string s] w fun e w' => RPref s.data.toList w e w' := (prefsOf_fr s w hl hE).mono fun _ _ h => rpf_any h
end Go.Proofs.YtlmcipnogodnfaaDoor
