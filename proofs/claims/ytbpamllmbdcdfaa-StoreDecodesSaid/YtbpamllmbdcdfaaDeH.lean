/-
  Walks of StoreOf, part H: StoreOf.
-/
import Derived.Test.YtbpamllmbdcdfaaDeG
import Derived.Test.YtbpamllmbdcdfaaStH
namespace Go.Proofs.Ytbpamllmbdcdfaa
open Go.RowKit Go.Deep

/-- what the loop of StoreOf keeps -/
structure SofAt (w : World) (g n : Nat) (L l : List UInt8) (k : Nat) (done : List Entry) (st : RSt) (wr : World) (v : Value) : Prop where
  many : ManyAt n l k done st
  rd : SpAt wr g L st
  out : OwR entR 39 (g + 1) wr v done
  below : Below w.heap.size w wr
/-- within a round: the entry's own box at h -/
structure Rnd (w : World) (g : Nat) (L : List UInt8) (h : Nat) (w' : World) (s : RSt) (v : Value) (done : List Entry) (cs : List Value) : Prop where
  rd : SpAt w' g L s
  out : OwR entR 39 (g + 1) w' v done
  below : Below w.heap.size w w'
  own : v.ownBlock ≠ some h
  lt : h < w'.heap.size
  gh : g < h
  wg : w.heap.size ≤ g
  cells : ∀ i, w'.cell? ⟨h, i, none⟩ = cs[i]?
  fz : ∀ i, w'.frozen? ⟨h, i, none⟩ = false
theorem Rnd.call {w : World} {g : Nat} {L : List UInt8} {h : Nat} {w' w'' : World} {s s' : RSt} {v : Value} {done : List Entry} {cs : List Value} (r : Rnd w g L h w' s v done cs) (hs : SpAt w'' g L s') (hg : w'.grownBy w'' (some g)) : Rnd w g L h w'' s' v done cs := by
  have e : w''.heap[h]? = w'.heap[h]? := hg.block h r.lt (fun e => by injection e with e; have := r.gh; omega)
  obtain ⟨b, o⟩ := DecAt.turn r.below r.out r.wg hg
  exact ⟨hs, o, b, r.own, Nat.lt_of_lt_of_le r.lt hg.size, r.gh, r.wg, fun i => (World.cell?_of_block (a := ⟨h, i, none⟩) e).trans (r.cells i), fun i => (World.frozen?_of_block (a := ⟨h, i, none⟩) e).trans (r.fz i)⟩
theorem Rnd.store {w : World} {g : Nat} {L : List UInt8} {h : Nat} {w' : World} {s : RSt} {v : Value} {done : List Entry} {cs : List Value} (r : Rnd w g L h w' s v done cs) (i : Nat) (hi : i < cs.length) (u : Value) : Rnd w g L h (w'.setCell ⟨h, i, none⟩ u) s v done (cs.set i u) := by
  have hg := set_row w' h i u
  have hwg := r.wg
  have hgh := r.gh
  refine ⟨r.rd.grown hg (fun k e => by injection e with e; omega), r.out.kept hg (.inr r.own), r.below.grown hg r.below.size (fun k e => by injection e with e; omega), r.own, Nat.lt_of_lt_of_le r.lt hg.size, r.gh, r.wg, fun j => ?_, fun j => by simp only [World.frozen?_setCell]; exact r.fz j⟩
  by_cases e : i = j
  · subst e
    have hc := r.cells i
    rw [List.getElem?_eq_getElem hi] at hc
    rw [World.cell?_setCell_same _ _ _ hc, List.getElem?_set_self hi]
  · rw [World.cell?_setCell_other w' ⟨h, i, none⟩ ⟨h, j, none⟩ _ (by simp [e]), r.cells j, List.getElem?_set_ne e]
theorem Rnd.start {w : World} {g n : Nat} {L l : List UInt8} {k : Nat} {done : List Entry} {st : RSt} {wr : World} {v : Value} (d : SofAt w g n L l k done st wr v) (hwg : w.heap.size ≤ g) (cs : Array Value) (t : TypeId) :
    Rnd w g L wr.heap.size (wr.alloc (.cells cs t)) st v done cs.toList :=
  ⟨d.rd.alloc _, d.out.alloc1 _, d.below.alloc d.below.size _, fun e => by have := (d.out.base_le _ e).2; omega, by simp, d.rd.lt, hwg, fun i => by rw [World.cell?_alloc_at _ _ _ _ rfl]; simp, fun i => World.frozen?_alloc_at _ _ _ _ rfl⟩
theorem one_ent_at {w : World} {B : Nat} {x : Entry} (hB : B = w.heap.size) (hx : x.wf) : SlR entR (w.alloc (.cells #[.string x.key, .int .i64 x.version, .int .i64 x.origin, .string x.value] 39)) (fun k => k < w.heap.size + 1) (.slice (some ⟨B, 0, none⟩) 1 1) [x] := by
  subst hB; exact one_ent hx
theorem sp_turn {w : World} {g : Nat} {wr w' : World} {v : Value} {done : List Entry} (hB : Below w.heap.size w wr) (ho : OwR entR 39 (g + 1) wr v done) (hgw : w.heap.size ≤ g) (hg : wr.grownBy w' (some g)) :
    Below w.heap.size w w' ∧ OwR entR 39 (g + 1) w' v done := DecAt.turn hB ho hgw hg
theorem storeStr_ne (l m : List UInt8) (tb : Bool) (h : (l != m) = tb) : (!((⟨l.toArray⟩ : ByteArray).toList == (⟨m.toArray⟩ : ByteArray).toList)) = tb := by
  rw [ByteArray.toList_eq, ByteArray.toList_eq]
  simpa [bne] using h

set_option maxRecDepth 100000 in
set_option maxHeartbeats 4000000 in
theorem storeOf_any (v : Value) (xs : List UInt8) (w : World) (h : Sl byteR w v xs) : Calls Try.prog 46 #[v] w (DecPost xs w) := by
  have hlen := h.len_le
  obtain ⟨A, c, rfl⟩ := h.form
  have H := Go.Lib.hid h
  clear h
  by_cases hl1 : 20000 < xs.length
  · have HF := Go.Lib.hid (decS_long hl1)
    have hl1' : (20000 : Int) < (xs.length : Int) := by omega
    go_enter Try.func46, Try.ntmps46
    go_wp2_with fail
    go_ret2
    exact dec_fin HF.out (OwR.nil _ _ (Nat.le_refl _)) (Below.refl _ _)
  by_cases hl2 : xs.length < 6
  · have HF := Go.Lib.hid (decS_short hl1 hl2)
    have hl1' : ¬ (20000 : Int) < (xs.length : Int) := by omega
    have hl2' : (xs.length : Int) < 6 := by omega
    go_enter Try.func46, Try.ntmps46
    go_wp2_with fail
    go_ret2
    exact dec_fin HF.out (OwR.nil _ _ (Nat.le_refl _)) (Below.refl _ _)
  obtain ⟨b, off, rfl, hb⟩ := H.out.at_ (show 0 < xs.length by omega)
  have f0 := H.out.byte (show 0 < xs.length by omega)
  rw [Nat.add_zero] at f0
  have hl1' : ¬ (20000 : Int) < (xs.length : Int) := by omega
  have hl2' : ¬ (xs.length : Int) < 6 := by omega
  obtain ⟨y0, hy0⟩ : ∃ y, xs[0]'(by omega) = y := ⟨_, rfl⟩
  rw [hy0] at f0
  have HY0 := Go.Lib.hid hy0
  clear hy0
  by_cases h116 : y0 = 116
  · obtain ⟨k, hk⟩ : ∃ k, xs.length = k + 4 := ⟨xs.length - 4, by omega⟩
    have hk4 : xs.length - 4 = k := by omega
    obtain ⟨hc1, hc2⟩ := H.out.cap
    have HTK := Go.Lib.hid (SlR.take H.out k (by omega))
    have t1 : ((y0.toNat : Int) != 116) = false := by rw [h116]; rfl
    have H116 := Go.Lib.hid h116
    have HK := Go.Lib.hid hk
    have HK4 := Go.Lib.hid hk4
    have HL := Go.Lib.hid (And.intro hl1 hl2)
    obtain ⟨n, hn⟩ : ∃ n, xs.length = n := ⟨_, rfl⟩
    have hn4 : (n : Int) - 4 = (k : Int) := by omega
    have HN4 := Go.Lib.hid hn4
    have HN := Go.Lib.hid hn
    have k3 : (k : Int) + 3 < (n : Int) := by omega
    have k2 : (2 : Int) ≤ (k : Int) := by omega
    have hdr := SlR.sub H.out k xs.length (by omega) (Nat.le_refl _)
    rw [List.take_length, if_neg (by omega), show xs.length - k = 4 by omega] at hdr
    have HDR := Go.Lib.hid hdr
    obtain ⟨tb, htb⟩ : ∃ tb, (sealB (xs.take k) != xs.drop k) = tb := ⟨_, rfl⟩
    have HTB := Go.Lib.hid htb
    have HNE := Go.Lib.hid (storeStr_ne _ _ _ htb)
    rw [hn] at hl1' hl2' hc1 hlen ⊢
    clear hk hn hn4 hk4 h116 hdr htb
    go_enter Try.func46, Try.ntmps46
    go_upto_region 7 with fail
    have hw : IntKind.i64.wrap ((n : Int) - 4) = (k : Int) := by rw [IntKind.wrap_i64, HN4.out]; omega
    have hw0 : (0 : Int) ≤ (k : Int) := by omega
    have hwc : (k : Int) ≤ (c : Int) := by omega
    have hwn : (k : Int) ≤ (n : Int) := by omega
    have HBD := Go.Lib.hid ((Below.refl w.heap.size w).drew)
    have HSEAL := Go.Lib.hid (seal_any _ (xs.take k) w.drew ((SlR.to_sl HTK.out (fun k hk => hk)).below HBD.out))
    have hcv : ∀ w', Below w.heap.size w w' → (convert 45 9 (.slice (some ⟨b, off + k, none⟩) (n - k) (c - k))).run Try.prog w' = .ok (.string ⟨(xs.drop k).toArray⟩) w' := fun w' hb' => by
      have h1 := conv_str ((SlR.to_sl HDR.out (fun k hk => hk)).below hb')
      have e1 : Option.map (fun x => x.add k) (some (⟨b, off, none⟩ : Addr)) = some ⟨b, off + k, none⟩ := by
        show some (Addr.add ⟨b, off, none⟩ k) = _
        unfold Addr.add
        rw [if_neg (by omega)]
      have e2 : n - k = 4 := by have := HN4.out; omega
      rw [e1] at h1
      rw [e2]
      exact h1
    have HCV := Go.Lib.hid hcv
    have hck : ¬ c = k := by omega
    have c0 := hcv w.drew HBD.out
    clear hcv
    go_region_held (fun w' => (convert 45 9 (.slice (some ⟨b, off + k, none⟩) (n - k) (c - k))).run Try.prog w' = .ok (.string ⟨(xs.drop k).toArray⟩) w') (first | exact c0 | exact c1 | go_keep)
      (first
        | (go_at_call 80; refine HSEAL.out.mono ?_; rintro e w1 ⟨v1, rfl, ho1, hb1⟩; obtain ⟨A1, d1, hv1⟩ := (ho1.sl (by decide)).form; subst hv1; have q1 := conv_str (ho1.sl (by decide)); have B1 := Go.Lib.hid (HBD.out.trans (hb1.mono HBD.out.size)); have c1 := HCV.out w1 B1.out))
    rw [show (!sealB (xs.take k) == xs.drop k) = tb from HTB.out]
    clear hw hw0 hwc hwn c0 c1 q1 ho1 hb1 hck
    rcases tb with _ | _
    · have hs : sealB (xs.take k) = xs.drop k := by
        have := HTB.out
        simpa using this
      have hdb := decS_body HL.out.1 HL.out.2 (HY0.out.trans H116.out) (by rw [HK4.out]; exact hs)
      rw [HK4.out] at hdb
      have HF := Go.Lib.hid hdb
      have hz1 := B1.out.size
      clear hdb hs
      obtain ⟨z, l1, hzl⟩ : ∃ z l1, (xs.take k).drop 1 = z :: l1 := by
        cases hq : (xs.take k).drop 1 with
        | nil =>
          have := congrArg List.length hq
          rw [List.length_drop, List.length_take, List.length_nil] at this
          have := HK.out
          omega
        | cons z l1 => exact ⟨z, l1, rfl⟩
      obtain ⟨L, hL⟩ : ∃ L, xs.take k = L := ⟨_, rfl⟩
      have hLk : L.length = k := by rw [← hL, List.length_take]; have := HK.out; omega
      have hba : Below w.heap.size w (w1.alloc (.cells #[.slice (some ⟨b, off, none⟩) k c, .int .i64 1, .int .i64 0] 119)) := B1.out.alloc hz1 _
      have hrd : SpAt (w1.alloc (.cells #[.slice (some ⟨b, off, none⟩) k c, .int .i64 1, .int .i64 0] 119)) w1.heap.size L (z :: l1, 0) := by
        refine ⟨some ⟨b, off, none⟩, c, 1, by simp, ?_, World.cell?_alloc_at _ _ _ _ rfl, World.cell?_alloc_at _ _ _ _ rfl, fun i => World.frozen?_alloc_at _ _ _ _ rfl, ?_, by omega, ?_, by have := HK.out; have := HN.out; omega⟩
        · rw [hLk]; exact World.cell?_alloc_at _ _ _ _ rfl
        · rw [hLk, ← hL]
          exact SlR.keep HTK.out hba.block (fun q hq => by simp only [World.size_alloc]; omega)
        · rw [← hL]; exact hzl.symm
      have HZL := Go.Lib.hid hzl
      have HBY := Go.Lib.hid (sone_any _ w1.heap.size L (z :: l1, 0) hrd)
      have HB1 := Go.Lib.hid hba
      have HLK := Go.Lib.hid hL
      clear hrd hzl hba hL hLk
      have hn4' := HN4.out
      have hkc : (k : Int) ≤ (c : Int) := by omega
      have hk0 : (0 : Int) ≤ (k : Int) := by omega
      go_wp2_with fail
      clear hn4' hkc hk0
      refine HBY.out.mono ?_
      rintro e w2 ⟨a, s1, rfl, hst, ha, hr1, hg1⟩
      obtain ⟨rfl, rfl⟩ := (hst.2 rfl).1 _ _ rfl
      have hgz : w.heap.size ≤ w1.heap.size := hz1
      obtain ⟨g, hgd⟩ : ∃ g, w1.heap.size = g := ⟨_, rfl⟩
      rw [hgd] at hr1 hg1 hgz ⊢
      have hB2 := HB1.out.grown hg1 HB1.out.size (fun k e => by injection e with e; omega)
      have hgw : g < w2.heap.size := hr1.lt
      have HPB := Go.Lib.hid (show pByte ((xs.take k).drop 1) = .ok ((z.toNat : Int), l1) by rw [HZL.out]; rfl)
      obtain ⟨nn, hnn⟩ : ∃ nn, z.toNat = nn := ⟨_, rfl⟩
      have hn255 : nn < 256 := by rw [← hnn]; exact z.toNat_lt
      rw [hnn] at HPB ⊢
      have HD0 := Go.Lib.hid (show SofAt w g nn L l1 0 [] (l1, 0) w2 (.slice none 0 0) from ⟨ManyAt.start _ _, hr1, OwR.nil _ _ hgw, hB2⟩)
      have HWG := Go.Lib.hid hgz
      clear hst ha hr1 hg1 hB2 hgd hnn HBY hgw hgz hz1
      go_wp2_with fail
      go_loopw [5, 7, 8] (fun s5 s7 _ wr => ∃ (j : Nat) (done : List Entry) (st : RSt), j ≤ nn ∧ s7 = .int .i64 j ∧ SofAt w g nn L l1 j done st wr s5) (fun _ s7 _ _ => nn - (intOf s7).toNat)
      case atStart => exact ⟨0, [], (l1, 0), Nat.zero_le _, rfl, HD0.out⟩
      case round =>
        obtain ⟨j, done, st, hj, rfl, hd⟩ := hrel
        have HD := Go.Lib.hid hd
        have hgl := hd.rd.lt
        obtain ⟨A2, c2, i2, _, f0', f1', f2', f3', _, _, _, _⟩ := hd.rd
        clear hd
        by_cases hgo : j < nn ∧ st.2 = 0
        · obtain ⟨hlt, he⟩ := hgo
          have HE := Go.Lib.hid he
          rw [he] at f2'
          have HR0 := Go.Lib.hid (Rnd.start HD.out HWG.out #[.string ⟨#[]⟩, .int .i64 0, .int .i64 0, .string ⟨#[]⟩] 39)
          clear he
          go_wp2_with fail
          clear f0' f1' f2' f3'
          refine (stext_any _ g L st HR0.out.rd).mono ?_
          rintro e w3 ⟨a3, s3, rfl, hst3, ha3, hr3, hg3⟩
          have hR3 := HR0.out.call hr3 hg3
          have hN3 := hR3.cells
          have hF3 := hR3.fz
          have hL3 := hR3.lt
          have HR3 := Go.Lib.hid (hR3.store 0 (by simp) (.string a3))
          have HST3 := Go.Lib.hid hst3
          clear hst3 hr3 hg3 hR3
          go_wp2_with fail
          refine (snext_any _ g L s3 HR3.out.rd).mono ?_
          rintro e w4 ⟨a4, s4, rfl, hst4, ha4, hr4, hg4⟩
          have hR4 := HR3.out.call hr4 hg4
          have hN4 := hR4.cells
          have hF4 := hR4.fz
          have hL4 := hR4.lt
          have HR4 := Go.Lib.hid (hR4.store 1 (by simp) (.int .i64 a4))
          have HST4 := Go.Lib.hid hst4
          clear hst4 hr4 hg4 hR4 hN3 hF3 hL3
          go_wp2_with fail
          refine (sone_any _ g L s4 HR4.out.rd).mono ?_
          rintro e w5 ⟨a5, s5, rfl, hst5, ha5, hr5, hg5⟩
          have hR5 := HR4.out.call hr5 hg5
          have hN5 := hR5.cells
          have hF5 := hR5.fz
          have hL5 := hR5.lt
          have HR5 := Go.Lib.hid (hR5.store 2 (by simp) (.int .i64 a5))
          have HST5 := Go.Lib.hid hst5
          clear hst5 hr5 hg5 hR5 hN4 hF4 hL4
          go_wp2_with fail
          refine (stext_any _ g L s5 HR5.out.rd).mono ?_
          rintro e w6 ⟨a6, s6, rfl, hst6, ha6, hr6, hg6⟩
          have hR6 := HR5.out.call hr6 hg6
          have hN6 := hR6.cells
          have hF6 := hR6.fz
          have hL6 := hR6.lt
          have HR6 := Go.Lib.hid (hR6.store 3 (by simp) (.string a6))
          have HST6 := Go.Lib.hid hst6
          clear hst6 hr6 hg6 hR6 hN5 hF5 hL5
          have HSTE := Go.Lib.hid (Stp.entry HST3.out HST4.out HST5.out HST6.out)
          have HWF := Go.Lib.hid (show Entry.wf ⟨a3, a4, a5, a6⟩ from ⟨by show a3.size ≤ maxLen; unfold maxLen; omega, by show inR a4; unfold inR; omega, by show inR a5; unfold inR; omega, by show a6.size ≤ maxLen; unfold maxLen; omega⟩)
          have HLEN := Go.Lib.hid (show done.length + [(⟨a3, a4, a5, a6⟩ : Entry)].length ≤ 1000000 by
            have := HD.out.many.1
            simp only [List.length_cons, List.length_nil]; omega)
          clear ha3 ha4 ha5 ha6
          go_wp2_with (at_builtin; refine wpList_ents (base := g + 1) rfl (.tmp 67) (.tmp 69) rfl (HR6.out.out.alloc1 _) (one_ent_at (B := w6.heap.size) (by simp) HWF.out) rfl rfl HLEN.out ?_; intro v7 w7 ho7 hg7)
          go_roundw
          case rel =>
            refine ⟨j + 1, _, s6, by omega, by go_num, ⟨HD.out.many.next hlt HE.out HSTE.out, (HR6.out.rd.alloc _).grown hg7.grown (fun q e => (HR6.out.out.base_le q e).1), ho7, ?_⟩⟩
            exact (HR6.out.below.alloc HR6.out.below.size _).grown hg7.grown (by have := HR6.out.below.size; rw [World.size_alloc]; omega) (fun q e => by have := (HR6.out.out.base_le q e).1; have := HWG.out; omega)
          case measure => simp [intOf]; omega
        · by_cases he : st.2 = 0
          · obtain rfl : j = nn := by omega
            have HM := Go.Lib.hid (HD.out.many.done_ (Nat.le_refl _) he)
            have HSP := Go.Lib.hid HD.out.rd
            obtain ⟨r, er⟩ := st
            simp only at he f2' HM HSP
            have hrd := ‹(r, er).1 = L.drop i2›
            simp only at hrd
            subst he
            have hil := ‹i2 ≤ L.length›
            obtain ⟨nL, hnL⟩ : ∃ nL, L.length = nL := ⟨_, rfl⟩
            rw [hnL] at f0' hil
            by_cases hlt2 : i2 < nL
            · have hne : r ≠ [] := by
                intro e
                have := congrArg List.length (e.symm.trans hrd)
                rw [List.length_drop, List.length_nil] at this
                omega
              have HF2 := Go.Lib.hid (HF.out.trans (decBody_rest HPB.out (by rw [Int.toNat_natCast]; exact HM.out) hne))
              have r1 : (i2 : Int) < (nL : Int) := by omega
              have HB := Go.Lib.hid HD.out.below
              clear hrd hnL hne hgo
              go_wp2_with fail
              go_quiet (fail)
              obtain ⟨q1, rfl⟩ : ∃ m, m = nq := ⟨nq, rfl⟩
              go_wp2_with fail
              go_quiet (fail)
              go_wp2_with fail
              go_ret2
              refine dec_fin HF2.out (OwR.nil _ _ ?_) ?_
              · exact ((bDrewN HB.out q1).setCell HWG.out _).size
              · exact bDrewN ((bDrewN HB.out q1).setCell HWG.out _) _
            · have hnil : r = [] := by rw [hrd]; exact List.drop_of_length_le (by omega)
              subst hnil
              have r1 : ¬ (i2 : Int) < (nL : Int) := by omega
              have HB := Go.Lib.hid HD.out.below
              clear hrd hnL hgo
              go_wp2_with fail
              go_quiet (fail)
              obtain ⟨q1, rfl⟩ : ∃ m, m = nq := ⟨nq, rfl⟩
              have hoq := HD.out.out.drewN1 q1
              have HOQ := Go.Lib.hid hoq
              have HCH := Go.Lib.hid (fault_any _ done (wr.drewN q1) (hoq.sl (by decide)))
              clear hoq
              go_wp2_with fail
              refine HCH.out.mono ?_
              rintro e w3 ⟨rfl, hb3⟩
              have HB3 := Go.Lib.hid ((bDrewN HB.out q1).trans (hb3.mono HB.out.size))
              have HO3 := Go.Lib.hid (HOQ.out.keep hb3)
              have hcg : w3.cell? ⟨g, 2, none⟩ = some (.int .i64 0) := (bAt hb3 hgl 2).trans f2'
              have hfg : ∀ i, w3.frozen? ⟨g, i, none⟩ = false := fun i => (bFz hb3 hgl i).trans (f3' i)
              clear hb3 f0' f1' f2' f3'
              by_cases hcc : checkS done = 0
              · have t3 : (checkS done != 0) = false := by simp [hcc]
                have HF2 := Go.Lib.hid (HF.out.trans (decBody_fin HPB.out (by rw [Int.toNat_natCast]; exact HM.out) hcc))
                have HRW := Go.Lib.hid (set_row w3 g 2 (.int .i64 (checkS done)))
                clear hcc
                go_wp2_with fail
                go_ret2
                exact dec_fin HF2.out ((HO3.out.kept HRW.out (.inr fun e => by have := (HO3.out.base_le _ e).1; omega)).lower (by have := HWG.out; omega)) (HB3.out.setCell HWG.out _)
              · have t3 : (checkS done != 0) = true := by simp [hcc]
                have HF2 := Go.Lib.hid (HF.out.trans (decBody_chk HPB.out (by rw [Int.toNat_natCast]; exact HM.out) hcc))
                clear hcc
                go_wp2_with fail
                go_quiet (fail)
                go_wp2_with fail
                go_ret2
                exact dec_fin HF2.out (OwR.nil _ _ (HB3.out.setCell HWG.out _).size) (bDrewN (HB3.out.setCell HWG.out _) _)
          · have HM := Go.Lib.hid (HD.out.many.bad he)
            have HF2 := Go.Lib.hid (HF.out.trans (decBody_err HPB.out (by rw [Int.toNat_natCast]; exact HM.out)))
            have t3 : (st.2 == 0) = false := by simpa using he
            have t4 : (st.2 != 0) = true := by simpa using he
            have HB3 := Go.Lib.hid HD.out.below
            clear he hgo
            go_wp2_with fail
            all_goals
              go_quiet (fail)
              obtain ⟨q1, rfl⟩ : ∃ m, m = nq := ⟨nq, rfl⟩
              go_wp2_with fail
              go_quiet (fail)
              go_wp2_with fail
              go_ret2
              exact dec_fin HF2.out (OwR.nil _ _ HB3.out.size) (bDrewN (bDrewN HB3.out q1) _)
    · have HF := Go.Lib.hid (decS_sum HL.out.1 HL.out.2 (HY0.out.trans H116.out) (by
        rw [HK4.out]
        intro e
        have := HTB.out
        rw [e] at this
        simp at this))
      go_wp2_with fail
      go_ret2
      exact dec_fin HF.out (OwR.nil _ _ B1.out.size) B1.out
  · have HF := Go.Lib.hid (decS_head hl1 hl2 (fun e => h116 (HY0.out.symm.trans e)))
    have t1 : ((y0.toNat : Int) != 116) = true := by
      simp only [bne_iff_ne, ne_eq]
      intro e
      exact h116 (UInt8.toNat_inj.1 (by show _ = 116; omega))
    clear h116
    go_enter Try.func46, Try.ntmps46
    go_wp2_with fail
    go_ret2
    exact dec_fin HF.out (OwR.nil _ _ (Nat.le_refl _)) (Below.refl _ _)
end Go.Proofs.Ytbpamllmbdcdfaa
