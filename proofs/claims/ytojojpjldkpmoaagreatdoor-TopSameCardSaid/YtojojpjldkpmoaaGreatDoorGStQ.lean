/-
  
-/
import Derived.Test.YtojojpjldkpmoaaGreatDoorGSrt
import Derived.Test.YtojojpjldkpmoaaGreatDoorGStG
import Derived.Test.YtojojpjldkpmoaaGreatDoorGIns2
import Derived.Test.YtojojpjldkpmoaaGreatDoorGStE
set_option linter.unusedVariables false
set_option linter.unusedSimpArgs false
set_option maxHeartbeats 16000000
namespace Go.Proofs.YtojojpjldkpmoaaGreatDoor
section
open Go.RowKit
def putS (xs : List Entry) (node : Int) (key value : ByteArray) : List Entry × Int :=
 if checkS xs ≠ 0 then ([], checkS xs) else
 if node < 0 ∨ 11 < node then ([], 2) else
 if keyOk key = false then ([], 4) else
 if 120 < value.size then ([], 1) else
 match findE xs key with
 | none => if 60 <= xs.length then ([], 1) else (withE xs ⟨key, 1, node, value⟩, 0)
 | some e => if e.version = 1099511627776 then ([], 2) else (withE xs ⟨key, e.version + 1, node, value⟩, 0)
theorem put_bad {xs : List Entry} {node : Int} {key value : ByteArray} (h : checkS xs ≠ 0) : putS xs node key value = ([], checkS xs) := by unfold putS; rw [if_pos h]
theorem put_node {xs : List Entry} {node : Int} {key value : ByteArray} (h : checkS xs = 0) (h2 : node < 0 ∨ 11 < node) : putS xs node key value = ([], 2) := by
 unfold putS; rw [if_neg (by simp [h]), if_pos h2]
theorem put_key {xs : List Entry} {node : Int} {key value : ByteArray} (h : checkS xs = 0) (h2 : 0 <= node /\ node <= 11) (h3 : keyOk key = false) : putS xs node key value = ([], 4) := by
 unfold putS; rw [if_neg (by simp [h]), if_neg (by omega), if_pos h3]
theorem put_size {xs : List Entry} {node : Int} {key value : ByteArray} (h : checkS xs = 0) (h2 : 0 <= node /\ node <= 11) (h3 : keyOk key = true) (h4 : 120 < value.size) : putS xs node key value = ([], 1) := by
 unfold putS; rw [if_neg (by simp [h]), if_neg (by omega), if_neg (by simp [h3]), if_pos h4]
theorem put_full {xs : List Entry} {node : Int} {key value : ByteArray} (h : checkS xs = 0) (h2 : 0 <= node /\ node <= 11) (h3 : keyOk key = true) (h4 : value.size <= 120) (h5 : hasE xs key = false) (h6 : 60 <= xs.length) : putS xs node key value = ([], 1) := by
 unfold putS; rw [if_neg (by simp [h]), if_neg (by omega), if_neg (by simp [h3]), if_neg (by omega), findE_none h5]; simp only; rw [if_pos h6]
theorem put_new {xs : List Entry} {node : Int} {key value : ByteArray} (h : checkS xs = 0) (h2 : 0 <= node /\ node <= 11) (h3 : keyOk key = true) (h4 : value.size <= 120) (h5 : hasE xs key = false) (h6 : xs.length < 60) : putS xs node key value = (withE xs ⟨key, 1, node, value⟩, 0) := by
 unfold putS; rw [if_neg (by simp [h]), if_neg (by omega), if_neg (by simp [h3]), if_neg (by omega), findE_none h5]; simp only; rw [if_neg (by omega)]
theorem put_most {xs : List Entry} {node : Int} {key value : ByteArray} (h : checkS xs = 0) (h2 : 0 <= node /\ node <= 11) (h3 : keyOk key = true) (h4 : value.size <= 120) {e : Entry} (h5 : findE xs key = some e) (h6 : e.version = 1099511627776) : putS xs node key value = ([], 2) := by
 unfold putS; rw [if_neg (by simp [h]), if_neg (by omega), if_neg (by simp [h3]), if_neg (by omega), h5]; simp only; rw [if_pos h6]
theorem put_old {xs : List Entry} {node : Int} {key value : ByteArray} (h : checkS xs = 0) (h2 : 0 <= node /\ node <= 11) (h3 : keyOk key = true) (h4 : value.size <= 120) {e : Entry} (h5 : findE xs key = some e) (h6 : e.version ≠ 1099511627776) : putS xs node key value = (withE xs ⟨key, e.version + 1, node, value⟩, 0) := by
 unfold putS; rw [if_neg (by simp [h]), if_neg (by omega), if_neg (by simp [h3]), if_neg (by omega), h5]; simp only; rw [if_neg h6]
theorem withE_new {l : List Entry} {x : Entry} (h : hasE l x.key = false) : withE l x = l.take (lbE l x.key) ++ x :: l.drop (lbE l x.key) := by unfold withE; rw [h]; simp
theorem withE_old {l : List Entry} {x : Entry} (hl : lbE l x.key < l.length) (h : hasE l x.key = true) : withE l x = l.set (lbE l x.key) x := by
 unfold withE
 rw [h, if_pos rfl, List.set_eq_take_append_cons_drop, if_pos hl]
def mergeStep (above : Entry -> Entry -> Bool) (p : List Entry × List ByteArray) (e : Entry) : List Entry × List ByteArray :=
 match findE p.1 e.key with
 | some o => if above e o = true then (withE p.1 e, p.2 ++ [e.key]) else p
 | none => if p.1.length < 60 then (withE p.1 e, p.2 ++ [e.key]) else p
def mergeS (above : Entry -> Entry -> Bool) (a b : List Entry) : List Entry × List ByteArray × Int :=
 if checkS a ≠ 0 then ([], [], checkS a) else if checkS b ≠ 0 then ([], [], checkS b) else
 ((b.foldl (mergeStep above) (a, [])).1, (b.foldl (mergeStep above) (a, [])).2, 0)
theorem findE_key {l : List Entry} {k : ByteArray} {e : Entry} (h : findE l k = some e) : e.key = k /\ e ∈ l := by
 unfold findE at h
 have h1 := List.find?_some h
 exact ⟨by simpa using h1, List.mem_of_find?_eq_some h⟩
theorem hasE_find {l : List Entry} {k : ByteArray} {e : Entry} (h : findE l k = some e) : hasE l k = true := by
 obtain ⟨h1, h2⟩ := findE_key h
 unfold hasE
 rw [zbo]
 exact ⟨e, h2, decide_eq_true h1⟩
theorem mergeStep_ok {above : Entry -> Entry -> Bool} {p : List Entry × List ByteArray} {e : Entry} (h : OkS p.1) (he : entryOk e = true) : OkS (mergeStep above p e).1 := by
 unfold mergeStep
 split
 · rename_i o ho
   split
   · exact withE_ok h he (.inl (hasE_find ho))
   · exact h
 · split
   · exact withE_ok h he (.inr (by assumption))
   · exact h
theorem foldl_ok {above : Entry -> Entry -> Bool} : ∀ (b : List Entry) (p : List Entry × List ByteArray), OkS p.1 -> (∀ e ∈ b, entryOk e = true) -> OkS (b.foldl (mergeStep above) p).1
 | [], _, h, _ => h
 | e :: b, p, h, hb => foldl_ok b _ (mergeStep_ok h (hb e (by simp))) (fun x hx => hb x (by simp [hx]))
end
section
open Go.RowKit Go.Deep
open Go.RowKit Go.Deep
end
section
open Go.RowKit Go.Deep
theorem OwR.lower {α : Type} {r : Rep α} {E base base' : Nat} {w : World} {v : Value} {xs : List α} (h : OwR r E base w v xs) (hb : base' <= base) : OwR r E base' w v xs := by
 obtain ⟨css, g1, g2, g3, g4⟩ := h
 refine ⟨css, g1, g2, ⟨g3.1, ?_⟩, by omega⟩
 rcases g3.2 with h | ⟨g, cap, cur, a1, a2, a3⟩
 · exact .inl h
 · exact .inr ⟨g, cap, cur, a1, by omega, a3⟩
theorem app_ent {w : World} {base ty : Nat} {v vx : Value} {xs ys : List Entry} {S : Nat -> Prop} (hown : OwR entR 44 base w v xs) (hsrc : SlR entR w S vx ys) (hb : xs.length + ys.length <= 1000000) :
  ∃ v' w', (Builtin.append_ #[42, 42] ty #[v, vx]).run Tryz.prog w = .ok v' w' /\ OwR entR 44 base w' v' (xs ++ ys) /\ GrowTo w v w' v' := by
 obtain ⟨v', w', r1, r2, r3, r4⟩ := run_own_append (ty := ty) elt_ent hown hsrc (fun _ _ h => h) (by unfold maxLen; omega) (by omega)
 exact ⟨v', w', r1, r2, GrowTo.of_at r3 r4⟩
theorem wpList_ents {ops : Array Oper} {rest : List Oper} {o : Oper} {a : Act} {Q : Exit -> Act -> World -> Prop} {w : World} {base : Nat} (hgd : o.guard = none) (s x : Operand)
  (ho : o.op = .call { callee := .builtin .append, args := #[s, x], argTypes := #[42, 42] }) {v vx : Value} {xs ys : List Entry} {S : Nat -> Prop}
  (hown : OwR entR 44 base w v xs) (hsrc : SlR entR w S vx ys) (hs : a.eval s = v) (hx : a.eval x = vx) (hb : xs.length + ys.length <= 1000000)
  (h : ∀ v' w', OwR entR 44 base w' v' (xs ++ ys) -> GrowTo w v w' v' -> wpList Tryz.prog ops Q rest (a.put o.dst v') w') : wpList Tryz.prog ops Q (o :: rest) a w :=
 wpList_plain hgd fun _ hK => by
  obtain ⟨v', w', hrun, h2, h3⟩ := app_ent (ty := o.type) hown hsrc hb
  unfold Oper.wp execOp
  simp only [ho, resolve, invoke, builtin, zbA, zbz, Result.andThen_ok, zbk, zaH, zbv, hs, hx, hrun]
  exact hK _ _ (h v' w' h2 h3)
theorem one_ent {w : World} {x : Entry} (hx : x.wf) : SlR entR (w.alloc (.cells #[.string x.key, .int .i64 x.version, .int .i64 x.origin, .string x.value] 44)) (fun k => k < w.heap.size + 1) (.slice (some ⟨w.heap.size, 0, none⟩) 1 1) [x] :=
 SlR.one_new (r := entR) (w := w) (cs := x.cells) (x := x) ⟨rfl, hx⟩
theorem key_ne {a b : ByteArray} (h : a ≠ b) : (a.toList == b.toList) = false := by
 rw [beq_eq_false_iff_ne]; exact fun e => h (toList_inj e)
theorem key_eq {a b : ByteArray} (h : a = b) : (a.toList == b.toList) = true := by rw [h]; simp
def PutPost (xs : List Entry) (node : Int) (key value : ByteArray) (w : World) (e : Ending) (w' : World) : Prop :=
 ∃ v', e = .returned (.tuple #[v', .int .i64 (putS xs node key value).2]) /\ OwR entR 44 w.heap.size w' v' (putS xs node key value).1 /\ Below w.heap.size w w'
theorem put_fin {xs : List Entry} {node : Int} {key value : ByteArray} {w w' : World} {v' : Value} {ys : List Entry} {n : Int} (h : putS xs node key value = (ys, n)) (ho : OwR entR 44 w.heap.size w' v' ys) (hb : Below w.heap.size w w') :
 PutPost xs node key value w (.returned (.tuple #[v', .int .i64 n])) w' := ⟨v', by rw [h], by rw [h]; exact ho, hb⟩
theorem flat_setE : ∀ (xs : List Entry) (i : Nat) (x : Entry), i < xs.length ->
  (((((xs.map Entry.cells).flatten.set (i * 4) (.string x.key)).set (i * 4 + 1) (.int .i64 x.version)).set (i * 4 + 2) (.int .i64 x.origin)).set (i * 4 + 3) (.string x.value)) = ((xs.set i x).map Entry.cells).flatten
 | [], i, x, h => by simp at h
 | y :: ys, 0, x, _ => by simp [Entry.cells]
 | y :: ys, i + 1, x, h => by
   have := flat_setE ys i x (by simpa using h)
   rw [zbH, zaH, zaE, zaH, zaE, <- this]
   have e : (i + 1) * 4 = i * 4 + 1 + 1 + 1 + 1 := by omega
   rw [e]
   simp [Entry.cells, zbH]
def setE (w : World) (g i : Nat) (x : Entry) : World := (((w.setCell ⟨g, i * 4, none⟩ (.string x.key)).setCell ⟨g, i * 4 + 1, none⟩ (.int .i64 x.version)).setCell ⟨g, i * 4 + 2, none⟩ (.int .i64 x.origin)).setCell ⟨g, i * 4 + 3, none⟩ (.string x.value)
theorem OwR.setE {base : Nat} {w : World} {g n cap : Nat} {xs : List Entry} (h : OwR entR 44 base w (.slice (some ⟨g, 0, none⟩) n cap) xs) (hn : n = xs.length) (i : Nat) (hi : i < xs.length) (x : Entry) (hx : x.wf) :
  OwR entR 44 base (setE w g i x) (.slice (some ⟨g, 0, none⟩) n cap) (xs.set i x) /\ w.grownBy (Go.Proofs.YtojojpjldkpmoaaGreatDoor.setE w g i x) (some g) := by
 obtain ⟨h1, h2, h3⟩ := OwR.to_flat h
 subst hn
 obtain ⟨s1, k1⟩ := h1.stored (i * 4) (.string x.key)
 obtain ⟨s2, k2⟩ := s1.stored (i * 4 + 1) (.int .i64 x.version)
 obtain ⟨s3, k3⟩ := s2.stored (i * 4 + 2) (.int .i64 x.origin)
 obtain ⟨s4, k4⟩ := s3.stored (i * 4 + 3) (.string x.value)
 rw [flat_setE xs i x hi] at s4
 have kk := ((k1.trans k2).trans k3).trans k4
 refine ⟨OwR.of_flat (by rw [zbx]; exact s4) ?_ (zaz h3 kk.size), kk⟩
 intro y hy
 rcases List.mem_or_eq_of_mem_set hy with hy | rfl
 · exact h2 y hy
 · exact hx
theorem OwR.at_ {base : Nat} {w : World} {v : Value} {xs : List Entry} (h : OwR entR 44 base w v xs) (h0 : 0 < xs.length) : ∃ g cap, v = .slice (some ⟨g, 0, none⟩) xs.length cap /\ base <= g /\ g < w.heap.size /\ (∀ j, w.frozen? ⟨g, j, none⟩ = false) := by
 obtain ⟨h1, _, _⟩ := OwR.to_flat h
 rcases h1.2 with ⟨_, h2⟩ | ⟨g, cap, cur, rfl, hb, hg, _⟩
 · omega
 · exact ⟨g, cap, rfl, hb, (h1.lt g rfl).2, fun j => h1.frozenAt j⟩
theorem ins_val {w : World} {x : Entry} : (w.alloc (.cells #[.string x.key, .int .i64 x.version, .int .i64 x.origin, .string x.value] 44)).heap[w.heap.size]? = some (.cells x.cells.toArray 44 (0, 0)) := by
 rw [heap_alloc_new]; rfl
set_option maxRecDepth 100000 in
theorem put_any (v : Value) (xs : List Entry) (node : Int) (key value : ByteArray) (w : World) (h : Sl entR w v xs) (hn : inR node) (hk : key.size <= maxLen) (hv : value.size <= maxLen) :
  Calls Tryz.prog 33 #[v, .int .i64 node, .string key, .string value] w (PutPost xs node key value w) := by
 have hlen := h.len_le
 obtain ⟨A, c, rfl⟩ := h.form
 have H := zaa h
 clear h
 go_enter Tryz.func33, Tryz.ntmps33
 go_wp2_with fail
 refine (check_any _ xs _ H.out).mono ?_
 rintro r w1 ⟨rfl, hb1⟩
 have HB1 := zaa hb1
 clear hb1
 by_cases hc : checkS xs = 0
 · have t1 : (checkS xs != 0) = false := by simp [hc]
   have hok := okS_of hc
   have HOK := zaa hok
   have hl60 := hok.len
   have HC := zaa hc
   clear hc hok
   by_cases hn1 : node < 0 ∨ 11 < node
   · have HF := zaa (put_node (key := key) (value := value) HC.out hn1)
     have hsz := HB1.out.size
     rcases hn1 with hn1 | hn1
     · go_wp2_with fail
       go_ret2
       exact put_fin HF.out (OwR.nil _ _ hsz) HB1.out
     · have hn2 : (12 : Int) <= node := by omega
       have hn3 : ¬ node < 0 := by omega
       go_wp2_with fail
       go_ret2
       exact put_fin HF.out (OwR.nil _ _ hsz) HB1.out
   · have n1 : 0 <= node := by omega
     have n2 : node <= 11 := by omega
     have N := zaa (And.intro n1 n2)
     clear hn1
     go_wp2_with fail
     refine (key_any key _).mono ?_
     rintro r w2 ⟨rfl, hb2⟩
     have HB2 := zaa (HB1.out.trans (hb2.mono HB1.out.size))
     have hz2 := HB2.out.size
     clear hb2
     rcases hkk : keyOk key with _ | _
     · have HF := zaa (put_key (value := value) HC.out N.out hkk)
       clear hkk
       go_wp2_with fail
       go_ret2
       exact put_fin HF.out (OwR.nil _ _ hz2) HB2.out
     · have HK := zaa hkk
       clear hkk
       by_cases hvv : (120 : Int) < (value.size : Int)
       · have HF := zaa (put_size (value := value) HC.out N.out HK.out (by omega))
         go_wp2_with fail
         go_ret2
         exact put_fin HF.out (OwR.nil _ _ hz2) HB2.out
       · have HV := zaa (show value.size <= 120 by omega)
         have hba : Below w.heap.size w (w2.alloc (.cells #[.string key, .int .i64 1, .int .i64 node, .string value] 44)) := HB2.out.alloc hz2 _
         have HF1 := zaa (find_any _ xs key _ (H.out.below hba) HOK.out.ord (by omega))
         clear hba
         go_wp2_with fail
         refine HF1.out.mono ?_
         rintro r w3 ⟨rfl, hb3⟩
         obtain ⟨hA, hN, hM, hS⟩ := pastAlloc hb3
         have HA := zaa (HB2.out.trans (hA.mono hz2))
         have H3 := zaa (H.out.below HA.out)
         have hz3 := HA.out.size
         clear hb3 hA
         rcases hh : hasE xs key with _ | _
         · by_cases hfull : 60 <= xs.length
           · have HF := zaa (put_full (value := value) HC.out N.out HK.out HV.out hh hfull)
             have h60 : xs.length = 60 := by omega
             clear hh
             go_wp2_with fail
             go_ret2
             exact put_fin HF.out (OwR.nil _ _ hz3) HA.out
           · have HF := zaa (put_new (value := value) HC.out N.out HK.out HV.out hh (by omega))
             have HW := zaa (withE_new (x := ⟨key, 1, node, value⟩) hh)
             have h60 : ¬ (xs.length : Int) = 60 := by omega
             have HI := zaa (lbE_le xs key)
             have HCL := zaa (cloneE_any _ xs w3 H3.out (by omega))
             clear hh
             go_wp2_with fail
             refine HCL.out.mono ?_
             rintro r w4 ⟨v4, rfl, ho4, hb4⟩
             have hS4 : w2.heap.size < w4.heap.size := zan hS hb4.size
             have hN4 : ∀ i, w4.cell? ⟨w2.heap.size, i, none⟩ = #[Value.string key, .int .i64 1, .int .i64 node, .string value][i]? := fun i => (bAt hb4 hS i).trans (hN i)
             have HB4 := zaa (HA.out.trans (hb4.mono hz3))
             have HINS := zaa (insert_any v4 xs ⟨key, 1, node, value⟩ (lbE xs key) (w4.alloc (.cells #[.string key, .int .i64 1, .int .i64 node, .string value] 44)) w4.heap.size w3.heap.size (ho4.alloc1 _) HI.out (by omega) (ins_val (x := ⟨key, 1, node, value⟩)) (fun e => by have := (ho4.base_le _ e).2; omega) ⟨hk, (by show inR 1; unfold inR; omega), hn, hv⟩)
             have HO4 := zaa ho4
             clear ho4 hb4 hN
             go_wp2_with fail
             refine HINS.out.mono ?_
             rintro r w5 ⟨v5, rfl, ho5, hg5⟩
             have HO5 := zaa ho5
             have HB5 := zaa (HB4.out.trans ((((zad w4.heap.size w4).alloc (zab _) _).mono HB4.out.size).trans (hg5.below (by have := HB4.out.size; simp; omega) (fun k hk => by have := (HO4.out.base_le k hk).1; omega))))
             clear ho5 hg5
             go_wp2_with fail
             go_ret2
             refine put_fin HF.out ?_ HB5.out
             rw [HW.out]
             exact HO5.out.lower hz3
         · obtain ⟨hl, hkeq⟩ := (hasE_iff HOK.out.ord key).1 hh
           have hfe := findE_some HOK.out.ord key hl hkeq
           obtain ⟨i, hi⟩ : ∃ i, lbE xs key = i := ⟨_, rfl⟩
           have hl' : i < xs.length := by omega
           have hfe' : findE xs key = some xs[i] := by rw [hfe]; simp only [hi]
           obtain ⟨b, off, rfl, hb⟩ := H.out.at_ hl'
           have hent := fun w' (hb' : Below w.heap.size w w') => (H.out.below hb').ent hl'
           obtain ⟨f1, f2, f3, f4, _⟩ := hent w3 HA.out
           have HENT := zaa hent
           obtain ⟨_, _, y3, y4, _, _, _⟩ := entryOk_bounds (HOK.out.ok xs[i] (zas hl'))
           have hwo : i < xs.length /\ withE xs ⟨key, xs[i].version + 1, node, value⟩ = xs.set i ⟨key, xs[i].version + 1, node, value⟩ := ⟨hl', by
            have := withE_old (l := xs) (x := ⟨key, xs[i].version + 1, node, value⟩) hl hh
            rw [this]; simp only [hi]⟩
           have HWO := zaa hwo
           obtain ⟨y, hy⟩ : ∃ y, xs[i] = y := ⟨_, rfl⟩
           have HY := zaa hy
           have HFE := zaa hfe'
           rw [hy] at f1 f2 f3 f4 y3 y4
           rw [hi]
           have r0 : (0 : Int) <= (i : Int) := zaf _
           have r1 : (i : Int) < (xs.length : Int) := by omega
           clear hh hl hkeq hfe hi hfe' hent hwo hy
           by_cases hmost : y.version = 1099511627776
           · have HF := zaa (put_most (value := value) HC.out N.out HK.out HV.out HFE.out (by rw [HY.out]; exact hmost))
             go_wp2_with fail
             go_ret2
             exact put_fin HF.out (OwR.nil _ _ hz3) HA.out
           · have HF := zaa (put_old (value := value) HC.out N.out HK.out HV.out HFE.out (by rw [HY.out]; exact hmost))
             have hm2 : (y.version == 1099511627776) = false := by simpa using hmost
             have hw : IntKind.i64.wrap (y.version + 1) = y.version + 1 := by rw [IntKind.wrap_i64]; omega
             have hbs : Below w.heap.size w (w3.setCell ⟨w2.heap.size, 1, none⟩ (.int .i64 (y.version + 1))) := HA.out.setCell hz2 _
             have HBS := zaa hbs
             have HCL := zaa (cloneE_any _ xs _ (H.out.below hbs) (by omega))
             have hNs : ∀ i, (w3.setCell ⟨w2.heap.size, 1, none⟩ (.int .i64 (y.version + 1))).cell? ⟨w2.heap.size, i, none⟩ = #[Value.string key, .int .i64 (y.version + 1), .int .i64 node, .string value][i]? := by
              intro i
              by_cases e : i = 1
              · subst e; rw [World.cell?_setCell_same _ _ _ (hN 1)]; rfl
              · rw [zag w3 ⟨w2.heap.size, 1, none⟩ ⟨w2.heap.size, i, none⟩ _ (by simp <;> omega), hN i]
                match i, e with
                | 0, _ => rfl
                | 2, _ => rfl
                | 3, _ => rfl
                | i + 4, _ => simp
             have HNS := zaa hNs
             have hSs : w2.heap.size < (w3.setCell ⟨w2.heap.size, 1, none⟩ (.int .i64 (y.version + 1))).heap.size := by simpa [World.setCell] using hS
             clear hbs hNs
             go_wp2_with fail
             clear f1 f2 f3 f4 hN hM
             refine HCL.out.mono ?_
             rintro r w4 ⟨v4, rfl, ho4, hb4⟩
             obtain ⟨g, cap, rfl, hg1, hg2, hg3⟩ := ho4.at_ (by omega)
             have hN4 : ∀ i, w4.cell? ⟨w2.heap.size, i, none⟩ = #[Value.string key, .int .i64 (y.version + 1), .int .i64 node, .string value][i]? := fun i => (bAt hb4 hSs i).trans (HNS.out i)
             have h4 := (ho4.sl (by decide)).ent hl'
             rw [zaM] at h4
             obtain ⟨g4a, g4b, g4c, g4d, _⟩ := h4
             have HO4 := zaa ho4
             have HB4 := zaa (HBS.out.trans (hb4.mono HBS.out.size))
             have hS4 : w2.heap.size < w4.heap.size := zan hSs hb4.size
             clear ho4 hb4
             go_wp2_with fail
             go_ret2
             refine put_fin HF.out ?_ ?_
             · have hwo := HWO.out.2
               rw [HY.out] at hwo ⊢
               rw [hwo]
               exact ((HO4.out.setE rfl i hl' ⟨key, y.version + 1, node, value⟩ ⟨hk, (by show inR (y.version + 1); unfold inR; omega), hn, hv⟩).1).lower HBS.out.size
             · iterate 4 refine Below.setCell ?_ (by have := HBS.out.size; dsimp only; omega) _
               exact HB4.out
 · have t1 : (checkS xs != 0) = true := by simp [hc]
   have HF := zaa (put_bad (node := node) (key := key) (value := value) hc)
   clear hc
   go_wp2_with fail
   go_ret2
   exact put_fin HF.out (OwR.nil _ _ HB1.out.size) HB1.out
end
end Go.Proofs.YtojojpjldkpmoaaGreatDoor
