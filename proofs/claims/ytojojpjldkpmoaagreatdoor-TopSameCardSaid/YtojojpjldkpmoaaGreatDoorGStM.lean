/-
  
-/
import Derived.Test.YtojojpjldkpmoaaGreatDoorGStQ
set_option linter.unusedVariables false
set_option linter.unusedSimpArgs false
set_option maxHeartbeats 16000000
namespace Go.Proofs.YtojojpjldkpmoaaGreatDoor
section
open Go.RowKit Go.Deep
theorem elt_str : Elt Tryz.prog 55 9 1 16 := ⟨Tryz.underlying55, by
 have h : (Tryz.prog.info? 9).map (fun i => (i.zero, i.size, i.bytes)) = some (some (.string ⟨#[]⟩), 1, 16) := by kernel_rfl
 obtain ⟨i, h1, h2, h3, h4⟩ := info_parts h
 exact ⟨i, _, h1, h2, h3, h4, rfl⟩, by decide⟩
theorem gbO {α : Type} {r : Rep α} {E B : Nat} {w w' w'' : World} {v' v'' : Value} {ys : List α} (hb : Below B w w') (ho : OwR r E B w' v' ys) (hg : GrowTo w' v' w'' v'') : Below B w w'' := hb.trans (hg.below ho.choose_spec.2.2.2 (fun k hk => (ho.base_le k hk).1))
structure Two (B : Nat) (w : World) (v u : Value) (xs : List Entry) (ks : List ByteArray) : Prop where
 out : OwR entR 44 B w v xs
 keys : OwR strR 9 B w u ks
 apart : ∀ k, v.ownBlock = some k -> u.ownBlock ≠ some k
theorem Two.keep {B : Nat} {w w' : World} {v u : Value} {xs : List Entry} {ks : List ByteArray} (h : Two B w v u xs ks) (hb : Below w.heap.size w w') : Two B w' v u xs ks := ⟨h.out.keep hb, h.keys.keep hb, h.apart⟩
theorem ne_row {v u : Value} (h : ∀ k, v.ownBlock = some k -> u.ownBlock ≠ some k) : v.ownBlock = none ∨ v.ownBlock ≠ u.ownBlock := by
 rcases e : v.ownBlock with _ | k
 · exact .inl rfl
 · exact .inr (fun e' => h k e e'.symm)
theorem Two.out' {B : Nat} {w w' : World} {v u v' : Value} {xs ys : List Entry} {ks : List ByteArray} (h : Two B w v u xs ks) (ho : OwR entR 44 B w' v' ys) (hg : GrowTo w v w' v') : Two B w' v' u ys ks := by
 refine ⟨ho, h.keys.kept hg.grown (ne_row fun k hk hk' => h.apart k hk' hk), fun k hk hk' => ?_⟩
 rcases hg.own k hk with e | e
 · exact h.apart k e hk'
 · have := (h.keys.base_le k hk').2; omega
theorem Two.keys' {B : Nat} {w w' : World} {v u u' : Value} {xs : List Entry} {ks ls : List ByteArray} (h : Two B w v u xs ks) (ho : OwR strR 9 B w' u' ls) (hg : GrowTo w u w' u') : Two B w' v u' xs ls := by
 refine ⟨h.out.kept hg.grown (ne_row h.apart), ho, fun k hk hk' => ?_⟩
 rcases hg.own k hk' with e | e
 · exact h.apart k hk e
 · have := (h.out.base_le k hk).2; omega
theorem app_str {w : World} {base ty : Nat} {v vx : Value} {xs ys : List ByteArray} {S : Nat -> Prop} (hown : OwR strR 9 base w v xs) (hsrc : SlR strR w S vx ys) (hb : xs.length + ys.length <= 1000000) :
  ∃ v' w', (Builtin.append_ #[55, 55] ty #[v, vx]).run Tryz.prog w = .ok v' w' /\ OwR strR 9 base w' v' (xs ++ ys) /\ GrowTo w v w' v' := by
 obtain ⟨v', w', r1, r2, r3, r4⟩ := run_own_append (ty := ty) elt_str hown hsrc (fun _ _ h => h) (by unfold maxLen; omega) (by omega)
 exact ⟨v', w', r1, r2, GrowTo.of_at r3 r4⟩
theorem wpList_strs {ops : Array Oper} {rest : List Oper} {o : Oper} {a : Act} {Q : Exit -> Act -> World -> Prop} {w : World} {base : Nat} (hgd : o.guard = none) (s x : Operand)
  (ho : o.op = .call { callee := .builtin .append, args := #[s, x], argTypes := #[55, 55] }) {v vx : Value} {xs ys : List ByteArray} {S : Nat -> Prop}
  (hown : OwR strR 9 base w v xs) (hsrc : SlR strR w S vx ys) (hs : a.eval s = v) (hx : a.eval x = vx) (hb : xs.length + ys.length <= 1000000)
  (h : ∀ v' w', OwR strR 9 base w' v' (xs ++ ys) -> GrowTo w v w' v' -> wpList Tryz.prog ops Q rest (a.put o.dst v') w') : wpList Tryz.prog ops Q (o :: rest) a w :=
 wpList_plain hgd fun _ hK => by
  obtain ⟨v', w', hrun, h2, h3⟩ := app_str (ty := o.type) hown hsrc hb
  unfold Oper.wp execOp
  simp only [ho, resolve, invoke, builtin, zbA, zbz, Result.andThen_ok, zbk, zaH, zbv, hs, hx, hrun]
  exact hK _ _ (h v' w' h2 h3)
theorem one_str {w : World} {x : ByteArray} (hx : x.size <= maxLen) : SlR strR (w.alloc (.cells #[.string x] 9)) (fun k => k < w.heap.size + 1) (.slice (some ⟨w.heap.size, 0, none⟩) 1 1) [x] :=
 SlR.one_new (r := strR) (w := w) (cs := [.string x]) (x := x) ⟨rfl, hx⟩
theorem one_str_at {w : World} {B : Nat} {x : ByteArray} (hB : B = w.heap.size) (hx : x.size <= maxLen) : SlR strR (w.alloc (.cells #[.string x] 9)) (fun k => k < w.heap.size + 1) (.slice (some ⟨B, 0, none⟩) 1 1) [x] := by
 subst hB; exact one_str hx
def MPost (r : List Entry × List ByteArray × Int) (w : World) (e : Ending) (w' : World) : Prop :=
 ∃ v' u', e = .returned (.tuple #[v', u', .int .i64 r.2.2]) /\ Two w.heap.size w' v' u' r.1 r.2.1 /\ Below w.heap.size w w'
theorem m_fin {r : List Entry × List ByteArray × Int} {w w' : World} {v' u' : Value} {ys : List Entry} {ks : List ByteArray} {n : Int} (h : r = (ys, ks, n)) (ho : Two w.heap.size w' v' u' ys ks) (hb : Below w.heap.size w w') :
 MPost r w (.returned (.tuple #[v', u', .int .i64 n])) w' := ⟨v', u', by rw [h], by rw [h]; exact ho, hb⟩
theorem two_nil {B : Nat} {w : World} (hb : B <= w.heap.size) : Two B w (.slice none 0 0) (.slice none 0 0) [] [] := ⟨OwR.nil _ _ hb, OwR.nil _ _ hb, fun k hk => by cases hk⟩
def mTo (a b : List Entry) (k : Nat) : List Entry × List ByteArray := (b.take k).foldl (mergeStep aboveE) (a, [])
theorem mTo_succ (a b : List Entry) (k : Nat) (h : k < b.length) : mTo a b (k + 1) = mergeStep aboveE (mTo a b k) b[k] := by
 unfold mTo
 rw [zar h, zcc]; rfl
theorem mTo_ok {a b : List Entry} (ha : OkS a) (hb : ∀ e ∈ b, entryOk e = true) (k : Nat) : OkS (mTo a b k).1 :=
 foldl_ok _ _ ha (fun e he => hb e (zbh he))
theorem mergeStep_len (p : List Entry × List ByteArray) (e : Entry) : (mergeStep aboveE p e).2.length <= p.2.length + 1 := by
 unfold mergeStep
 split
 · split <;> simp
 · split <;> simp
theorem mTo_len (a b : List Entry) (k : Nat) (h : k <= b.length) : (mTo a b k).2.length <= k := by
 induction k with
 | zero => simp [mTo]
 | succ k ih =>
   rw [mTo_succ a b k (by omega)]
   have := mergeStep_len (mTo a b k) b[k]
   have := ih (by omega)
   omega
theorem merge_bad1 {a b : List Entry} (h : checkS a ≠ 0) : mergeS aboveE a b = ([], [], checkS a) := by unfold mergeS; rw [if_pos h]
theorem merge_bad2 {a b : List Entry} (h : checkS a = 0) (h2 : checkS b ≠ 0) : mergeS aboveE a b = ([], [], checkS b) := by unfold mergeS; rw [if_neg (by simp [h]), if_pos h2]
theorem merge_ok {a b : List Entry} (h : checkS a = 0) (h2 : checkS b = 0) : mergeS aboveE a b = ((mTo a b b.length).1, (mTo a b b.length).2, 0) := by
 unfold mergeS mTo; rw [if_neg (by simp [h]), if_neg (by simp [h2]), zaP]
theorem step_above {p : List Entry × List ByteArray} {e : Entry} (h : p.1.Pairwise ltE) (hl : lbE p.1 e.key < p.1.length) (hk : p.1[lbE p.1 e.key].key = e.key) (ha : aboveE e p.1[lbE p.1 e.key] = true) :
  mergeStep aboveE p e = (p.1.set (lbE p.1 e.key) e, p.2 ++ [e.key]) := by
 unfold mergeStep
 rw [findE_some h e.key hl hk]
 simp only
 rw [if_pos ha, withE_old hl ((hasE_iff h _).2 ⟨hl, hk⟩)]
theorem step_below {p : List Entry × List ByteArray} {e : Entry} (h : p.1.Pairwise ltE) (hl : lbE p.1 e.key < p.1.length) (hk : p.1[lbE p.1 e.key].key = e.key) (ha : aboveE e p.1[lbE p.1 e.key] = false) :
  mergeStep aboveE p e = p := by
 unfold mergeStep
 rw [findE_some h e.key hl hk]
 simp [ha]
theorem step_new {p : List Entry × List ByteArray} {e : Entry} (h : hasE p.1 e.key = false) (hl : p.1.length < 60) : mergeStep aboveE p e = (withE p.1 e, p.2 ++ [e.key]) := by
 unfold mergeStep
 rw [findE_none h]
 simp only
 rw [if_pos hl]
theorem step_full {p : List Entry × List ByteArray} {e : Entry} (h : hasE p.1 e.key = false) (hl : ¬ p.1.length < 60) : mergeStep aboveE p e = p := by
 unfold mergeStep
 rw [findE_none h]
 simp only
 rw [if_neg hl]
theorem cmpE_pos (a b : Entry) : (aboveE a b = true -> 0 < cmpE a b) /\ (aboveE a b = false -> ¬ 0 < cmpE a b) := by
 rw [cmpE_above]
 refine ⟨fun h => by simp [h], fun h => ?_⟩
 rw [if_neg (by simp [h])]
 split <;> simp
set_option maxRecDepth 100000 in
theorem merge_any (v1 v2 : Value) (xs ys : List Entry) (w : World) (h1 : Sl entR w v1 xs) (h2 : Sl entR w v2 ys) (hwf : ∀ e ∈ ys, e.wf) (hwx : ∀ e ∈ xs, e.wf) : Calls Tryz.prog 62 #[v1, v2] w (MPost (mergeS aboveE xs ys) w) := by
 have hlen := h2.len_le
 obtain ⟨A1, c1, rfl⟩ := h1.form
 obtain ⟨A2, c2, rfl⟩ := h2.form
 have H1 := zaa h1
 have H2 := zaa h2
 have HWF := zaa hwf
 clear h1 h2 hwf
 go_enter Tryz.func62, Tryz.ntmps62
 go_wp2_with fail
 refine (check_any _ xs _ H1.out).mono ?_
 rintro r w1 ⟨rfl, hb1⟩
 have HB1 := zaa hb1
 have hz1 := hb1.size
 clear hb1
 by_cases hc : checkS xs = 0
 · have t1 : (checkS xs != 0) = false := by simp [hc]
   have HC := zaa hc
   clear hc
   go_wp2_with fail
   refine (check_any _ ys _ (H2.out.below HB1.out)).mono ?_
   rintro r w2 ⟨rfl, hb2⟩
   have HB2 := zaa (HB1.out.trans (hb2.mono hz1))
   have hz2 := HB2.out.size
   clear hb2
   by_cases hc2 : checkS ys = 0
   · have t2 : (checkS ys != 0) = false := by simp [hc2]
     have HC2 := zaa hc2
     have HOKA := zaa (okS_of HC.out)
     have HOKB := zaa (okS_of hc2)
     have hl60 := HOKB.out.len
     have HF := zaa (merge_ok HC.out hc2)
     have HCL := zaa (cloneE_any _ xs w2 (H1.out.below HB2.out) (by have := HOKA.out.len; omega))
     clear hc2
     go_wp2_with fail
     refine HCL.out.mono ?_
     rintro r w3 ⟨v3, rfl, ho3, hb3⟩
     have HO3 := zaa (ho3.lower hz2)
     have HB3 := zaa (HB2.out.trans (hb3.mono hz2))
     clear ho3 hb3
     go_wp2_with fail
     go_loopw [9, 10, 12, 13, 14, 29] (fun s9 s10 _ _ _ s29 wr => ∃ k : Nat, k <= ys.length /\ s29 = .int .i64 k /\ Two w.heap.size wr s9 s10 (mTo xs ys k).1 (mTo xs ys k).2 /\ Below w.heap.size w wr) (fun _ _ _ _ _ s29 _ => ys.length - (intOf s29).toNat)
     case atStart => exact ⟨0, zak _, rfl, ⟨HO3.out, OwR.nil _ _ HB3.out.size, fun k hk hk' => by cases hk'⟩, HB3.out⟩
     case round =>
      obtain ⟨k, hk, rfl, htw, hB⟩ := hrel
      have HT := zaa htw
      have HB := zaa hB
      by_cases hlt : k < ys.length
      · obtain ⟨b, off, rfl, hb⟩ := H2.out.at_ hlt
        obtain ⟨f1, f2, f3, f4, hyw⟩ := (H2.out.below hB).ent hlt
        have hsucc := mTo_succ xs ys k hlt
        have hok := mTo_ok HOKA.out HOKB.out.ok k
        have hkl := mTo_len xs ys k hk
        obtain ⟨y, hy⟩ : ∃ y, ys[k] = y := ⟨_, rfl⟩
        obtain ⟨p, hp⟩ : ∃ p, mTo xs ys k = p := ⟨_, rfl⟩
        rw [hy] at f1 f2 f3 f4 hyw hsucc
        rw [hp] at hok hkl hsucc htw
        have HSUC := zaa hsucc
        have HOK := zaa hok
        have HYW := zaa hyw
        have HT2 := zaa htw
        have hol := hok.len
        have hez := hB.size
        have hba : Below wr.heap.size wr (wr.alloc (.cells #[.string y.key, .int .i64 y.version, .int .i64 y.origin, .string y.value] 44)) := (zad _ _).alloc (zab _) _
        have HBA := zaa hba
        have HFI := zaa (find_any _ p.1 y.key _ ((htw.out.keep hba).sl (by decide)) hok.ord (by omega))
        have r0 : (0 : Int) <= (k : Int) := zaf _
        have r1 : (k : Int) < (ys.length : Int) := by omega
        obtain ⟨A9, c9, hv9⟩ := (htw.out.sl (by decide)).form
        subst hv9
        clear htw hB hy hp hsucc hok hyw hba HT
        go_wp2_with fail
        refine HFI.out.mono ?_
        rintro r w4 ⟨rfl, hb4⟩
        obtain ⟨hA, hN, hM, hS⟩ := pastAlloc hb4
        have HB4 := zaa (HB.out.trans (hA.mono hez))
        have hT4 := HT2.out.keep hA
        have HT4 := zaa hT4
        clear hb4 hA f1 f2 f3 f4
        rcases hh : hasE p.1 y.key with _ | _
        · by_cases hroom : p.1.length < 60
          · have hst := step_new hh hroom
            rw [withE_new hh] at hst
            have HST := zaa hst
            have HI := zaa (lbE_le p.1 y.key)
            have hr1 : (p.1.length : Int) < 60 := by omega
            have hne9 : (Value.slice A9 p.1.length c9).ownBlock ≠ some wr.heap.size := fun e => by have := (HT2.out.out.base_le _ e).2; omega
            have HNE9 := zaa hne9
            clear hh hst hroom hne9 hT4
            go_wp2_with fail
            go_quiet (fail)
            obtain ⟨q1, rfl⟩ : ∃ m, m = nq := ⟨nq, rfl⟩
            have hT5 := HT4.out.keep (bDrewN (zad w4.heap.size w4) q1)
            have hT6 := hT5.keep ((zad (w4.drewN q1).heap.size (w4.drewN q1)).alloc (zab _) (.cells #[.string y.key, .int .i64 y.version, .int .i64 y.origin, .string y.value] 44))
            have HT6 := zaa hT6
            have HINS := zaa (insert_any _ p.1 y (lbE p.1 y.key) ((w4.drewN q1).alloc (.cells #[.string y.key, .int .i64 y.version, .int .i64 y.origin, .string y.value] 44)) (w4.drewN q1).heap.size w.heap.size hT6.out HI.out (by omega) ins_val (fun e => by have := (hT5.out.base_le _ e).2; omega) HYW.out)
            have HB6 := zaa ((bDrewN HB4.out q1).alloc HB4.out.size (.cells #[.string y.key, .int .i64 y.version, .int .i64 y.origin, .string y.value] 44))
            have HN6 := zaa (show ∀ i, ((w4.drewN q1).alloc (.cells #[.string y.key, .int .i64 y.version, .int .i64 y.origin, .string y.value] 44)).cell? ⟨wr.heap.size, i, none⟩ = #[Value.string y.key, .int .i64 y.version, .int .i64 y.origin, .string y.value][i]? from fun i => by
             rw [World.cell?_alloc_lt _ _ _ (by show wr.heap.size < (w4.drewN q1).heap.size; exact hS), World.cell?_drewN]; exact hN i)
            clear hT5 hT6
            go_wp2_with fail
            clear hN hM
            refine HINS.out.mono ?_
            rintro r w7 ⟨v7, rfl, ho7, hg7⟩
            have hN7 : ∀ i, w7.cell? ⟨wr.heap.size, i, none⟩ = #[Value.string y.key, .int .i64 y.version, .int .i64 y.origin, .string y.value][i]? := fun i => (hg7.cell (by show wr.heap.size < _; simp; have : wr.heap.size < (w4.drewN q1).heap.size := hS; omega) HNE9.out i).trans (HN6.out i)
            have HT7 := zaa (HT6.out.out' ho7 hg7)
            have HB7 := zaa (gbO HB6.out HT6.out.out hg7)
            have HKL := zaa (show p.2.length + [y.key].length <= 1000000 by simp only [zaw, zbF]; omega)
            clear ho7 hg7
            go_wp2_with (at_builtin; refine wpList_strs (base := w.heap.size) rfl (.tmp 73) (.tmp 76) rfl (HT7.out.keys.alloc1 _) (one_str HYW.out.1) rfl rfl HKL.out ?_; intro v8 w8 ho8 hg8)
            go_roundw
            case rel =>
             refine ⟨k + 1, by omega, by go_num, ?_, gbO (HB7.out.alloc HB7.out.size _) (HT7.out.keys.alloc1 _) hg8⟩
             rw [HSUC.out, HST.out]
             exact (HT7.out.keep ((zad _ _).alloc (zab _) _)).keys' ho8 hg8
            case measure => simp [intOf]; omega
          · have hst := step_full hh hroom
            have HST := zaa hst
            have hr1 : ¬ (p.1.length : Int) < 60 := by omega
            clear hh hst hroom hT4
            go_wp2_with fail
            go_quiet (fail)
            go_wp2_with fail
            go_roundw
            case rel =>
             refine ⟨k + 1, by omega, by go_num, ?_, bDrewN HB4.out _⟩
             rw [HSUC.out, HST.out]
             exact HT4.out.keep (bDrewN (zad _ _) _)
            case measure => simp [intOf]; omega
        · obtain ⟨hl, hkeq⟩ := (hasE_iff HOK.out.ord y.key).1 hh
          obtain ⟨g, cap, hv9, hg1, hg2, hg3⟩ := hT4.out.at_ (by omega)
          injection hv9 with e1 e2 e3
          subst e1 e3
          have hAB := step_above HOK.out.ord hl hkeq
          have hBE := step_below HOK.out.ord hl hkeq
          have hent := (hT4.out.sl (by decide)).ent hl
          obtain ⟨i, hi⟩ : ∃ i, lbE p.1 y.key = i := ⟨_, rfl⟩
          have hli : i < p.1.length := by omega
          simp only [hi] at hAB hBE hent
          rw [zaM] at hent
          obtain ⟨g1, g2, g3, g4, how⟩ := hent
          obtain ⟨o, ho⟩ : ∃ o, p.1[i] = o := ⟨_, rfl⟩
          rw [ho] at g1 g2 g3 g4 how hAB hBE
          have HAB := zaa hAB
          have HBE := zaa hBE
          have HOW := zaa how
          have i0 : (0 : Int) <= (i : Int) := zaf _
          have i1 : (i : Int) < (p.1.length : Int) := by omega
          rw [hi]
          clear hh hl hkeq hAB hBE how ho hi hT4 e2
          go_wp2_with fail
          refine still_tail 7 (by kernel_rfl) (by kernel_rfl) ?_
          intro wd hwd
          have hN' : ∀ i, wd.cell? ⟨wr.heap.size, i, none⟩ = #[Value.string y.key, .int .i64 y.version, .int .i64 y.origin, .string y.value][i]? := by
           intro i; rw [hwd, zaK]; exact hN i
          have g1' : wd.cell? ⟨g, i * 4, none⟩ = some (.string o.key) := by rw [hwd, zaK]; exact g1
          have g2' : wd.cell? ⟨g, i * 4 + 1, none⟩ = some (.int .i64 o.version) := by rw [hwd, zaK]; exact g2
          have g3' : wd.cell? ⟨g, i * 4 + 2, none⟩ = some (.int .i64 o.origin) := by rw [hwd, zaK]; exact g3
          have g4' : wd.cell? ⟨g, i * 4 + 3, none⟩ = some (.string o.value) := by rw [hwd, zaK]; exact g4
          have hTd : Two w.heap.size wd (.slice (some ⟨g, 0, none⟩) p.1.length c9) u10 p.1 p.2 := by rw [hwd]; exact HT4.out.keep ((zad _ _).drew)
          have hBd : Below w.heap.size w wd := by rw [hwd]; exact HB4.out.drew
          have hSd : wr.heap.size < wd.heap.size := by rw [hwd]; exact hS
          have HTD := zaa hTd
          have HBD := zaa hBd
          have HND := zaa hN'
          have HCM := zaa (compare_any y o wd HYW.out HOW.out)
          unfold Entry.val at HCM
          clear hwd hN hM g1 g2 g3 g4 hTd hBd hg3
          simp only [zbd, List.take_zero, zby, List.drop_zero]
          iterate 7 still_step
          refine wpStill_nil ?_
          clear g1' g2' g3' g4' hN'
          go_wp2_with fail
          refine HCM.out.mono ?_
          rintro e w5 ⟨rfl, hb5⟩
          have HT5 := zaa (HTD.out.keep hb5)
          have HB5 := zaa (HBD.out.trans (hb5.mono HBD.out.size))
          have hN5 : ∀ i, w5.cell? ⟨wr.heap.size, i, none⟩ = #[Value.string y.key, .int .i64 y.version, .int .i64 y.origin, .string y.value][i]? := fun i => (bAt hb5 hSd i).trans (HND.out i)
          have hcp := cmpE_pos y o
          clear hb5
          rcases hab : aboveE y o with _ | _
          · have hng := hcp.2 hab
            have HBE2 := zaa (HBE.out hab)
            clear hab hcp
            go_wp2_with fail
            go_roundw
            case rel =>
             refine ⟨k + 1, by omega, by go_num, ?_, HB5.out⟩
             rw [HSUC.out, HBE2.out]
             exact HT5.out
            case measure => simp [intOf]; omega
          · have hpo := hcp.1 hab
            have HAB2 := zaa (HAB.out hab)
            have hset := HT5.out.out.setE rfl i hli y HYW.out
            have HSET := zaa hset
            have hf5 : ∀ j, w5.frozen? ⟨g, j, none⟩ = false := by
             obtain ⟨g', cap', hv', _, _, hz'⟩ := HT5.out.out.at_ (by omega)
             injection hv' with e1 _ _
             injection e1 with e1
             injection e1 with e1
             subst e1
             exact hz'
            have h5 := (HT5.out.out.sl (by decide)).ent hli
            rw [zaM] at h5
            obtain ⟨g5a, g5b, g5c, g5d, _⟩ := h5
            have hgw : g < wr.heap.size := (HT2.out.out.base_le g rfl).2
            have hgne : ¬ g = wr.heap.size := by omega
            have hgne2 : ¬ wr.heap.size = g := by omega
            have hTS := HT5.out.out' hset.1 ⟨hset.2, fun _ h => .inl h⟩
            have HTS := zaa hTS
            have HBS := zaa (HB5.out.grown hset.2 HB5.out.size (fun q e => by injection e with e; omega))
            have HKL := zaa (show p.2.length + [y.key].length <= 1000000 by simp only [zaw, zbF]; omega)
            unfold Go.Proofs.YtojojpjldkpmoaaGreatDoor.setE at HTS HBS
            clear hab hcp hset hTS
            go_wp2_with (at_builtin; refine wpList_strs (base := w.heap.size) rfl (.tmp 55) (.tmp 58) rfl (HTS.out.keys.alloc1 _) (one_str_at (by simp) HYW.out.1) rfl rfl HKL.out ?_; intro v8 w8 ho8 hg8)
            go_roundw
            case rel =>
             refine ⟨k + 1, by omega, by go_num, ?_, gbO (HBS.out.alloc HBS.out.size _) (HTS.out.keys.alloc1 _) hg8⟩
             rw [HSUC.out, HAB2.out]
             exact (HTS.out.keep ((zad _ _).alloc (zab _) _)).keys' ho8 hg8
            case measure => simp [intOf]; omega
      · obtain rfl : k = ys.length := by omega
        clear htw hB
        go_wp2_with fail
        go_ret3
        exact m_fin HF.out HT.out HB.out
   · have t2 : (checkS ys != 0) = true := by simp [hc2]
     have HF := zaa (merge_bad2 HC.out hc2)
     clear hc2
     go_wp2_with fail
     go_ret3
     exact m_fin HF.out (two_nil hz2) HB2.out
 · have t1 : (checkS xs != 0) = true := by simp [hc]
   have HF := zaa (merge_bad1 (b := ys) hc)
   clear hc
   go_wp2_with fail
   go_ret3
   exact m_fin HF.out (two_nil hz1) HB1.out
end
end Go.Proofs.YtojojpjldkpmoaaGreatDoor
