/-
  Walks of the store layer, part P: withEntry, Put, PutOf.
-/
import Derived.Test.YtbpamllmbdcdfaaIns2
import Derived.Test.YtbpamllmbdcdfaaSrt2
import Derived.Test.YtbpamllmbdcdfaaStE
import Derived.Test.YtbpamllmbdcdfaaStI
namespace Go.Proofs.Ytbpamllmbdcdfaa
open Go.RowKit Go.Deep

theorem OwR.lower {α : Type} {r : Rep α} {E base base' : Nat} {w : World} {v : Value} {xs : List α} (h : OwR r E base w v xs) (hb : base' ≤ base) : OwR r E base' w v xs := by
  obtain ⟨css, g1, g2, g3, g4⟩ := h
  refine ⟨css, g1, g2, ⟨g3.1, ?_⟩, by omega⟩
  rcases g3.2 with h | ⟨g, cap, cur, a1, a2, a3⟩
  · exact .inl h
  · exact .inr ⟨g, cap, cur, a1, by omega, a3⟩
/-- a call has made new entries -/
def NewE (w : World) (ys : List Entry) (e : Ending) (w' : World) : Prop :=
  ∃ v', e = .returned v' ∧ OwR entR 39 w.heap.size w' v' ys ∧ Below w.heap.size w w'
theorem app_ent {w : World} {base ty : Nat} {v vx : Value} {xs ys : List Entry} {S : Nat → Prop} (hown : OwR entR 39 base w v xs) (hsrc : SlR entR w S vx ys) (hb : xs.length + ys.length ≤ 1000000) :
    ∃ v' w', (Builtin.append_ #[35, 35] ty #[v, vx]).run Try.prog w = .ok v' w' ∧ OwR entR 39 base w' v' (xs ++ ys) ∧ GrowTo w v w' v' := by
  obtain ⟨v', w', r1, r2, r3, r4⟩ := run_own_append (ty := ty) elt_ent hown hsrc (fun _ _ h => h) (by unfold maxLen; omega) (by omega)
  exact ⟨v', w', r1, r2, GrowTo.of_at r3 r4⟩
theorem wpList_ents {ops : Array Oper} {rest : List Oper} {o : Oper} {a : Act} {Q : Exit → Act → World → Prop} {w : World} {base : Nat} (hgd : o.guard = none) (s x : Operand)
    (ho : o.op = .call { callee := .builtin .append, args := #[s, x], argTypes := #[35, 35] }) {v vx : Value} {xs ys : List Entry} {S : Nat → Prop}
    (hown : OwR entR 39 base w v xs) (hsrc : SlR entR w S vx ys) (hs : a.eval s = v) (hx : a.eval x = vx) (hb : xs.length + ys.length ≤ 1000000)
    (h : ∀ v' w', OwR entR 39 base w' v' (xs ++ ys) → GrowTo w v w' v' → wpList Try.prog ops Q rest (a.put o.dst v') w') : wpList Try.prog ops Q (o :: rest) a w :=
  wpList_plain hgd fun _ hK => by
    obtain ⟨v', w', hrun, h2, h3⟩ := app_ent (ty := o.type) hown hsrc hb
    unfold Oper.wp execOp
    simp only [ho, resolve, invoke, builtin, Sem.run_bind, Sem.run_pure, Result.andThen_ok, List.map_toArray, List.map_cons, List.map_nil, hs, hx, hrun]
    exact hK _ _ (h v' w' h2 h3)
theorem one_ent {w : World} {x : Entry} (hx : x.wf) : SlR entR (w.alloc (.cells #[.string x.key, .int .i64 x.version, .int .i64 x.origin, .string x.value] 39)) (fun k => k < w.heap.size + 1) (.slice (some ⟨w.heap.size, 0, none⟩) 1 1) [x] :=
  SlR.one_new (r := entR) (w := w) (cs := x.cells) (x := x) ⟨rfl, hx⟩
theorem gbE {B : Nat} {w w' w'' : World} {v' v'' : Value} {ys : List Entry} (hb : Below B w w') (ho : OwR entR 39 B w' v' ys) (hg : GrowTo w' v' w'' v'') : Below B w w'' := hb.trans (hg.below ho.choose_spec.2.2.2 (fun k hk => (ho.base_le k hk).1))

theorem OwR.drewN1 {α : Type} {r : Rep α} {E base : Nat} {w : World} {v : Value} {xs : List α} (h : OwR r E base w v xs) (n : Nat) : OwR r E base (w.drewN n) v xs := h.keep (bDrewN (Below.refl w.heap.size w) n)
theorem wGot_le {xs : List Entry} {x : Entry} {k : Nat} (hl : xs.length ≤ 100) : (wGot xs x k).length ≤ 201 := by
  unfold wGot
  split
  · rw [List.length_take]; omega
  · simp only [List.length_append, List.length_take, List.length_cons, List.length_drop]; omega
theorem key_ne {a b : ByteArray} (h : a ≠ b) : (a.toList == b.toList) = false := by
  rw [beq_eq_false_iff_ne]; exact fun e => h (toList_inj e)
theorem key_eq {a b : ByteArray} (h : a = b) : (a.toList == b.toList) = true := by rw [h]; simp

set_option maxRecDepth 100000 in
set_option maxHeartbeats 4000000 in
theorem withEntry_any (v : Value) (xs : List Entry) (x : Entry) (w : World) (h : Sl entR w v xs) (hord : xs.Pairwise ltE) (hl : xs.length ≤ 100) (hx : x.wf) (hwf : ∀ e ∈ xs, e.wf) : Calls Try.prog 98 #[v, x.val] w (NewE w (withE xs x)) := by
  have hend := wGot_end xs x
  obtain ⟨A, c, rfl⟩ := h.form
  have H := Go.Lib.hid h
  have HEND := Go.Lib.hid hend
  have HX := Go.Lib.hid hx
  have HO := Go.Lib.hid hord
  have HWF := Go.Lib.hid hwf
  have hbx : Below w.heap.size w (w.alloc (.cells #[.string x.key, .int .i64 x.version, .int .i64 x.origin, .string x.value] 39)) := (Below.refl _ _).alloc (Nat.le_refl _) _
  have HBX := Go.Lib.hid hbx
  have hbox : ∀ w', Below (w.heap.size + 1) (w.alloc (.cells #[.string x.key, .int .i64 x.version, .int .i64 x.origin, .string x.value] 39)) w' → ∀ i, w'.cell? ⟨w.heap.size, i, none⟩ = #[Value.string x.key, .int .i64 x.version, .int .i64 x.origin, .string x.value][i]? := fun w' hb i => (bAt hb (by omega) i).trans (World.cell?_alloc_at _ _ _ _ rfl)
  have HBOX := Go.Lib.hid hbox
  have hz0 := wGot_zero xs x
  have HZ := Go.Lib.hid hz0
  unfold Entry.val
  clear h hend hx hord hwf hbx hz0 hbox
  go_enter Try.func98, Try.ntmps98
  go_wp2_with fail
  go_loopw [5, 6, 7] (fun s5 s6 s7 wr => ∃ k : Nat, k ≤ xs.length ∧ s7 = .int .i64 k ∧ s6 = .bool (wDone xs x k) ∧ OwR entR 39 (w.heap.size + 1) wr s5 (wGot xs x k) ∧ Below (w.heap.size + 1) (w.alloc (.cells #[.string x.key, .int .i64 x.version, .int .i64 x.origin, .string x.value] 39)) wr) (fun _ _ s7 _ => xs.length - (intOf s7).toNat)
  case atStart => exact ⟨0, Nat.zero_le _, rfl, rfl, by rw [HZ.out]; exact OwR.nil _ _ (by simp), Below.refl _ _⟩
  case round =>
    obtain ⟨k, hk, rfl, rfl, hown, hB⟩ := hrel
    have hez := hown.choose_spec.2.2.2
    have HOW := Go.Lib.hid hown
    have HB := Go.Lib.hid hB
    have hgl := wGot_le (x := x) (k := k) hl
    have hN := HBOX.out wr hB
    by_cases hlt : k < xs.length
    · obtain ⟨b, off, rfl, hb⟩ := H.out.at_ hlt
      have hent : ∀ w', Below (w.heap.size + 1) (w.alloc (.cells #[.string x.key, .int .i64 x.version, .int .i64 x.origin, .string x.value] 39)) w' → w'.cell? ⟨b, off + k * 4, none⟩ = some (.string xs[k].key) ∧ w'.cell? ⟨b, off + k * 4 + 1, none⟩ = some (.int .i64 xs[k].version) ∧
          w'.cell? ⟨b, off + k * 4 + 2, none⟩ = some (.int .i64 xs[k].origin) ∧ w'.cell? ⟨b, off + k * 4 + 3, none⟩ = some (.string xs[k].value) := fun w' hb' => (H.out.below (HBX.out.trans (hb'.mono (by omega)))).ent_of hlt rfl
      have HENT := Go.Lib.hid hent
      obtain ⟨f1, f2, f3, f4⟩ := hent wr hB
      have hyw := HWF.out xs[k] (List.getElem_mem hlt)
      have HYW := Go.Lib.hid hyw
      have q0 : (0 : Int) ≤ (k : Int) := Int.natCast_nonneg _
      have q1 : (k : Int) < (xs.length : Int) := by omega
      have hbw : b < wr.heap.size := by omega
      clear hown hB hyw hent
      rcases Nat.lt_trichotomy k (lbE xs x.key) with hp | hp | hp
      · obtain ⟨d1, d2, d3, d4⟩ := w_low x hlt hp
        have D2 := Go.Lib.hid d2
        have hne := key_ne d4
        have hgot := wGot_low x hlt hp
        have HG := Go.Lib.hid hgot
        have HLEN : (wGot xs x k).length + [xs[k]].length ≤ 1000000 := by simp only [List.length_cons, List.length_nil]; omega
        have HLEN := Go.Lib.hid HLEN
        clear d2 d4 hgot hp
        go_wp2_with fail
        go_quiet (fail)
        go_wp2_with fail
        go_quiet (fail)
        go_wp2_with (at_builtin; refine wpList_ents (base := w.heap.size + 1) rfl (.tmp 38) (.tmp 43) rfl ((HOW.out.drewN1 _).alloc1 _) (one_ent HYW.out) rfl rfl HLEN.out ?_; intro v1 w1 ho1 hg1)
        go_roundw
        case rel => exact ⟨k + 1, by omega, by go_num, by rw [D2.out], by rw [HG.out]; exact ho1, gbE ((bDrewN HB.out _).alloc (by simpa using hez) _) ((HOW.out.drewN1 _).alloc1 _) hg1⟩
        case measure => simp [intOf]; omega
      · obtain ⟨d1, d2, d3⟩ := w_at x hlt hp
        have D2 := Go.Lib.hid d2
        have HLEN : (wGot xs x k).length + [x].length ≤ 1000000 := by simp only [List.length_cons, List.length_nil]; omega
        have HLEN := Go.Lib.hid HLEN
        have HLEN2 : (wGot xs x k ++ [x]).length + [xs[k]].length ≤ 1000000 := by simp only [List.length_append, List.length_cons, List.length_nil]; omega
        have HLEN2 := Go.Lib.hid HLEN2
        clear d2
        by_cases he : xs[k].key = x.key
        · have hne := key_eq he
          have hgot := wGot_at_has HO.out x hlt hp he
          have HG := Go.Lib.hid hgot
          clear hgot hp he
          go_wp2_with fail
          go_quiet (fail)
          go_wp2_with (at_builtin; refine wpList_ents (base := w.heap.size + 1) rfl (.tmp 26) (.tmp 28) rfl ((HOW.out.drewN1 _).alloc1 _) (one_ent HX.out) rfl rfl HLEN.out ?_; intro v1 w1 ho1 hg1; have B1 := Go.Lib.hid (gbE ((bDrewN HB.out _).alloc (by simpa using hez) _) ((HOW.out.drewN1 _).alloc1 _) hg1); obtain ⟨g1, g2, g3, g4⟩ := HENT.out w1 B1.out; have hN1 := HBOX.out w1 B1.out)
          go_quiet (fail)
          go_wp2_with fail
          go_roundw
          case rel => exact ⟨k + 1, by omega, by go_num, by rw [D2.out], by rw [HG.out]; exact ho1.drewN1 _, bDrewN B1.out _⟩
          case measure => simp [intOf]; omega
        · have hne := key_ne he
          have hgot := wGot_at_no HO.out x hlt hp he
          have HG := Go.Lib.hid hgot
          clear hgot hp he
          go_wp2_with fail
          go_quiet (fail)
          go_wp2_with (at_builtin; refine wpList_ents (base := w.heap.size + 1) rfl (.tmp 26) (.tmp 28) rfl ((HOW.out.drewN1 _).alloc1 _) (one_ent HX.out) rfl rfl HLEN.out ?_; intro v1 w1 ho1 hg1; have B1 := Go.Lib.hid (gbE ((bDrewN HB.out _).alloc (by simpa using hez) _) ((HOW.out.drewN1 _).alloc1 _) hg1); obtain ⟨g1, g2, g3, g4⟩ := HENT.out w1 B1.out; have hN1 := HBOX.out w1 B1.out)
          go_quiet (fail)
          go_wp2_with (at_builtin; refine wpList_ents (base := w.heap.size + 1) rfl (.tmp 38) (.tmp 43) rfl ((ho1.drewN1 _).alloc1 _) (one_ent HYW.out) rfl rfl HLEN2.out ?_; intro v2 w2 ho2 hg2)
          go_roundw
          case rel => exact ⟨k + 1, by omega, by go_num, by rw [D2.out], by rw [HG.out]; exact ho2, gbE ((bDrewN B1.out _).alloc (by have := B1.out.size; simp at this ⊢; omega) _) ((ho1.drewN1 _).alloc1 _) hg2⟩
          case measure => simp [intOf]; omega
      · obtain ⟨d1, d2, d4⟩ := w_high HO.out x hlt hp
        have D2 := Go.Lib.hid d2
        have hne := key_ne d4
        have hgot := wGot_high x hlt hp
        have HG := Go.Lib.hid hgot
        have HLEN : (wGot xs x k).length + [xs[k]].length ≤ 1000000 := by simp only [List.length_cons, List.length_nil]; omega
        have HLEN := Go.Lib.hid HLEN
        clear d2 d4 hgot hp
        go_wp2_with fail
        go_quiet (fail)
        go_wp2_with fail
        go_quiet (fail)
        go_wp2_with (at_builtin; refine wpList_ents (base := w.heap.size + 1) rfl (.tmp 38) (.tmp 43) rfl ((HOW.out.drewN1 _).alloc1 _) (one_ent HYW.out) rfl rfl HLEN.out ?_; intro v1 w1 ho1 hg1)
        go_roundw
        case rel => exact ⟨k + 1, by omega, by go_num, by rw [D2.out], by rw [HG.out]; exact ho1, gbE ((bDrewN HB.out _).alloc (by simpa using hez) _) ((HOW.out.drewN1 _).alloc1 _) hg1⟩
        case measure => simp [intOf]; omega
    · obtain rfl : k = xs.length := by omega
      have HLEN : (wGot xs x xs.length).length + [x].length ≤ 1000000 := by simp only [List.length_cons, List.length_nil]; omega
      have HLEN := Go.Lib.hid HLEN
      have hbl : Below w.heap.size w wr := HBX.out.trans (hB.mono (by omega))
      have HBL := Go.Lib.hid hbl
      clear hown hB hbl
      rcases hd : wDone xs x xs.length with _ | _
      · have hfin : wGot xs x xs.length ++ [x] = withE xs x := by have := HEND.out; rw [hd] at this; simpa using this
        have HF := Go.Lib.hid hfin
        clear hfin
        go_wp2_with (at_builtin; refine wpList_ents (base := w.heap.size + 1) rfl (.tmp 47) (.tmp 49) rfl (HOW.out.alloc1 _) (one_ent HX.out) rfl rfl HLEN.out ?_; intro v1 w1 ho1 hg1)
        go_ret
        exact ⟨v1, rfl, by rw [← HF.out]; exact ho1.lower (by omega), gbE (HBL.out.alloc HBL.out.size _) ((HOW.out.alloc1 _).lower (by omega)) hg1⟩
      · have hfin : wGot xs x xs.length = withE xs x := by have := HEND.out; rw [hd] at this; simpa using this
        have HF := Go.Lib.hid hfin
        clear hfin
        go_wp2_with fail
        go_ret
        exact ⟨_, rfl, by rw [← HF.out]; exact HOW.out.lower (by omega), HBL.out⟩
end Go.Proofs.Ytbpamllmbdcdfaa
