/-
  
-/
import Derived.Test.YtojojpjldkpmoaaGreatDoorGRibB
set_option linter.unusedVariables false
set_option linter.unusedSimpArgs false
set_option maxHeartbeats 16000000
namespace Go.Proofs.YtojojpjldkpmoaaGreatDoor
open Go.RowKit Go.Sort
theorem cmpP_ord {a b : Prefix} (ha : prefBad a = 0) (hb : prefBad b = 0) : (prefOrd a b = true /\ cmpP a b < 0) ∨ (prefOrd a b = false /\ 0 <= cmpP a b) := by
 have bd : ∀ {p : Prefix}, prefBad p = 0 -> 0 <= p.bits /\ p.bits <= 8 /\ 0 <= p.addr /\ p.addr <= 255 := by
  intro p h
  unfold prefBad at h
  split at h
  · assumption
  · cases h
 obtain ⟨a1, a2, a3, a4⟩ := bd ha
 obtain ⟨b1, b2, b3, b4⟩ := bd hb
 unfold cmpP
 have hw : ∀ x : Int, -300 <= x -> x <= 300 -> wrap64 x = x := by intro x h1 h2; unfold wrap64; omega
 by_cases he : a.addr = b.addr
 · rw [if_neg (by simpa using he), hw _ (by omega) (by omega)]
   by_cases hl : a.bits < b.bits
   · left; exact ⟨(prefOrd_iff _ _).2 (.inr ⟨he, hl⟩), by omega⟩
   · right; exact ⟨by rw [Bool.eq_false_iff]; intro e; rw [prefOrd_iff] at e; omega, by omega⟩
 · rw [if_pos he, hw _ (by omega) (by omega)]
   by_cases hl : a.addr < b.addr
   · left; exact ⟨(prefOrd_iff _ _).2 (.inl hl), by omega⟩
   · right; exact ⟨by rw [Bool.eq_false_iff]; intro e; rw [prefOrd_iff] at e; omega, by omega⟩
theorem routeBad_hops {r : Route} (h : hopsOk r.hops = false) : routeBad r = 4 := by unfold routeBad; rw [h]; simp
theorem routeBad_ok {r : Route} (h : routeForm r = true) (h2 : hopsOk r.hops = true) : routeBad r = 0 := by unfold routeBad; rw [h, h2]; rfl
def PrevOk (xs : List Route) (k : Nat) : Prop := ∀ m, m + 1 = k -> (h : m < xs.length) -> prefBad xs[m].pre = 0
set_option maxRecDepth 100000 in
theorem ribCheck_any (v : Value) (xs : List Route) (w : World) (h : Sl routeR w v xs) :
  Calls Tryz.prog 113 #[v] w fun e w' => e = .returned (.int .i64 (chkRoutes xs)) /\ Below w.heap.size w w' := by
 have hl := h.len_le
 obtain ⟨A, c, rfl⟩ := h.form
 have H := zaa h
 clear h
 by_cases h6 : 200 < xs.length
 · have h6' : (200 : Int) < (xs.length : Int) := by omega
   go_enter Tryz.func113, Tryz.ntmps113
   go_wp2_with fail
   go_ret
   exact ⟨ei (by simp [chkRoutes, h6]), zad _ _⟩
 · have h6' : ¬ (200 : Int) < (xs.length : Int) := by omega
   go_enter Tryz.func113, Tryz.ntmps113
   go_wp2_with fail
   have hs0 : chkRoutes xs = seqChk routeBad routeOrd xs (xs.length - 0) 0 := by simp [chkRoutes, h6]
   go_loopw [2, 3, 4, 5, 6, 12, 14, 15, 16] (fun _ _ _ _ _ i _ _ _ wr => ∃ k : Nat, k <= xs.length /\ i = .int .i64 k /\ Below w.heap.size w wr /\ chkRoutes xs = seqChk routeBad routeOrd xs (xs.length - k) k /\ PrevOk xs k) (fun _ _ _ _ _ i _ _ _ _ => xs.length - (intOf i).toNat)
   case atStart => exact ⟨0, zak _, rfl, zad _ _, hs0, fun m hm => absurd hm (by omega)⟩
   case round =>
    obtain ⟨k, hk, rfl, hB, hs, hpv⟩ := hrel
    have HS := zaa hs
    have HPV := zaa hpv
    clear hs hs0 hpv
    by_cases hlt : k < xs.length
    · obtain ⟨b, off, rfl, hb⟩ := H.out.at_ hlt
      obtain ⟨hv, f1, f2, f3, f4, f5, hsl, hwf⟩ := (H.out.below hB).route hlt
      obtain ⟨A2, c2, hvv⟩ := hsl.form
      have hfc := routeForm_cases xs[k]
      obtain ⟨hs, hhs⟩ : ∃ hs, xs[k].hops = hs := ⟨_, rfl⟩
      rw [hhs] at hsl hvv hfc
      subst hvv
      have HHS := zaa hhs
      have hbw : b < wr.heap.size := by have := hB.size; omega
      have hl0 := hsl.len_le
      have HB := zaa hB
      have HSL := zaa hsl
      have HWF := zaa hwf
      have HFC := zaa hfc
      clear hB hsl hwf hhs hfc
      go_wp2_with fail
      have hone := sl_one (w := wr.alloc (.cells #[.int .i64 xs[k].pre.addr, .int .i64 xs[k].pre.bits, .bool xs[k].here, .int .i64 xs[k].cost, .slice A2 hs.length c2] 130)) xs[k].pre ⟨HWF.out.1, HWF.out.2.1⟩
      simp only [zbp] at hone
      refine (checkPrefs_any _ _ _ hone).mono ?_
      rw [chkPrefs_one]
      rintro e w1 ⟨rfl, hb1⟩
      obtain ⟨hA, hN, hM, hS⟩ := pastAlloc2 hb1
      have hB1 := HB.out.trans (hA.mono HB.out.size)
      have HB1 := zaa hB1
      have HSL1 := zaa (HSL.out.below hA)
      clear hone hA hB1 hb1 hM f1 f2 f3 f4 f5
      rcases HFC.out with ⟨hf, hp, hc1, hc2, hcase⟩ | ⟨hf, hcase⟩
      · have t1 : (prefBad xs[k].pre != 0) = false := by simp [hp]
        have HP := zaa hp
        have t2 : ¬ xs[k].cost < 0 := by omega
        have t3 : ¬ 1048576 < xs[k].cost := by omega
        have HF := zaa hf
        clear hp hf
        rcases hcase with ⟨hh, hc, hn⟩ | ⟨hh, hn⟩
        case' inl => have t4 : (xs[k].cost != 0) = false := by simp [hc]
        case' inl => have t5 : ¬ 0 < hs.length := by omega
        case' inl => clear hc
        case' inr => have t5 : ((hs.length : Int) == 0) = false := by rw [beq_eq_false_iff_ne]; omega
        all_goals
         have HNN := zaa hn
         clear hn
         go_wp2_with fail
         go_loop [5, 6, 61, 63, 64, 65] (fun _ _ i _ _ _ => ∃ j : Nat, j <= hs.length /\ i = .int .i64 j /\ hopsOk hs = hopsAt hs (hs.length - j) j) (fun _ _ i _ _ _ => hs.length - (intOf i).toNat)
         case atStart => exact ⟨0, zak _, rfl, rfl⟩
         case round =>
          obtain ⟨j, hj, rfl, hho⟩ := hrel
          have HHO := zaa hho
          clear hho
          by_cases hjl : j < hs.length
          · try (exfalso; omega)
            all_goals
             obtain ⟨b2, off2, rfl, hb2⟩ := HSL1.out.at_ hjl
             obtain ⟨g1, _⟩ := HSL1.out.int hjl
             have fin : hopsAt hs (hs.length - j) j = false -> (Ending.returned (.int .i64 4) = Ending.returned (.int .i64 (chkRoutes xs)) /\ Below w.heap.size w w1) :=
              fun hb => ⟨ei (by
               have hbad := routeBad_hops (r := xs[k]) (by rw [HHS.out, HHO.out]; exact hb)
               rw [HS.out, sc_bad xs k hlt (by rw [hbad]; decide)]; exact hbad.symm), HB1.out⟩
             have FIN := zaa fin
             clear fin
             rcases (show hs[j] < 0 ∨ 11 < hs[j] ∨ (0 <= hs[j] /\ hs[j] <= 11) by omega) with hx | hx | ⟨hx1, hx2⟩
             · go_wp2_with fail
               go_ret
               exact FIN.out (hops_bad hs j hjl (.inl hx))
             · have hx' : 12 <= hs[j] := by omega
               go_wp2_with fail
               go_ret
               exact FIN.out (hops_bad hs j hjl (.inr hx))
             · have q1 : ¬ hs[j] < 0 := by omega
               have q2 : ¬ 12 <= hs[j] := by omega
               rcases zaJ j with h0 | h0
               · subst h0
                 have q3 : (0 : Int) < (hs.length : Int) := by omega
                 simp only [zbE] at g1
                 go_wp2_with fail
                 go_round
                 case rel => exact ⟨1, by omega, by go_num, by rw [HHO.out]; exact hops_first hs hjl ⟨hx1, hx2⟩⟩
                 case measure => simp [intOf]; omega
               · obtain ⟨m, rfl⟩ : ∃ m, j = m + 1 := ⟨j - 1, by omega⟩
                 have hm : m < hs.length := by omega
                 obtain ⟨g2, _⟩ := HSL1.out.int hm
                 by_cases ho : hs[m + 1] <= hs[m]
                 · go_wp2_with fail
                   go_ret
                   exact FIN.out (hops_order hs m hjl ho)
                 · go_wp2_with fail
                   go_round
                   case rel => exact ⟨m + 1 + 1, by omega, by go_num, by rw [HHO.out]; exact hops_next hs m hjl ⟨hx1, hx2⟩ (by omega)⟩
                   case measure => simp [intOf]; omega
          · have hok : routeBad xs[k] = 0 := routeBad_ok HF.out (by rw [HHS.out, HHO.out]; exact hops_end hs j (by omega) _)
            have HOK := zaa hok
            clear hok
            rcases zaJ k with h0 | h0
            · subst h0
              go_wp2_with fail
              go_quiet (fail)
              go_wp2_with fail
              go_roundw
              case rel => exact ⟨1, by omega, by go_num, bDrewN HB1.out _, by rw [HS.out]; exact sc_first xs hlt HOK.out, fun m hm _ => by
               have e : m = 0 := by omega
               subst e; exact HP.out⟩
              case measure => simp [intOf]; omega
            · obtain ⟨m, rfl⟩ : ∃ m, k = m + 1 := ⟨k - 1, by omega⟩
              have hm : m < xs.length := by omega
              obtain ⟨_, g1, g2, z3, z4, z5, z6, z7⟩ := (H.out.below HB1.out).route hm
              clear z3 z4 z5 z6 z7
              have q2 : (m : Int) < (xs.length : Int) := by omega
              have q0 : (0 : Int) <= (m : Int) := zaf _
              have hw : IntKind.i64.wrap (m : Int) = (m : Int) := by rw [IntKind.wrap_i64]; omega
              have hco := cmpP_ord (HPV.out m rfl hm) HP.out
              have HCO := zaa hco
              clear hco
              go_wp2_with fail
              refine still_tail 11 (by kernel_rfl) (by kernel_rfl) ?_
              intro wd hwd
              have hbd : Below w.heap.size w wd := by rw [hwd]; exact HB1.out.drew
              have HBD := zaa hbd
              have g1' : wd.cell? ⟨b, off + m * 5, none⟩ = some (.int .i64 xs[m].pre.addr) := by rw [hwd, zaK]; exact g1
              have g2' : wd.cell? ⟨b, off + m * 5 + 1, none⟩ = some (.int .i64 xs[m].pre.bits) := by rw [hwd, zaK]; exact g2
              have hN' : ∀ i, wd.cell? ⟨wr.heap.size, i, none⟩ = #[Value.int .i64 xs[m + 1].pre.addr, .int .i64 xs[m + 1].pre.bits, .bool xs[m + 1].here, .int .i64 xs[m + 1].cost, .slice A2 hs.length c2][i]? := by
               intro i; rw [hwd, zaK]; exact hN i
              clear hwd hbd g1 g2 hN
              simp only [zbd, List.take_zero, zby, List.drop_zero]
              iterate 11 still_step
              refine wpStill_nil ?_
              go_wp2_with fail
              refine (ribCompare_any xs[m].pre xs[m + 1].pre _).mono ?_
              rintro e w2 ⟨rfl, hb2⟩
              have HB2 := zaa (HBD.out.trans (hb2.mono HBD.out.size))
              clear hb2
              clear hw
              rcases HCO.out with ⟨ho, hc⟩ | ⟨ho, hc⟩
              · have hc' : ¬ (0 <= cmpP xs[m].pre xs[m + 1].pre) := by omega
                have HO := zaa ho
                clear ho
                go_wp2_with fail
                go_roundw
                case rel => exact ⟨m + 1 + 1, by omega, by go_num, HB2.out, by rw [HS.out]; exact sc_next xs m hlt HOK.out HO.out, fun m' hm' _ => by
                 have e : m' = m + 1 := by omega
                 subst e; exact HP.out⟩
                case measure => simp [intOf]; omega
              · have HO := zaa ho
                clear ho
                go_wp2_with fail
                go_ret
                exact ⟨ei (by rw [HS.out, sc_order xs m hlt HOK.out HO.out]), HB2.out⟩
      · have hbad : routeBad xs[k] = 4 := by unfold routeBad; rw [hf]; rfl
        have HBAD := zaa hbad
        clear hbad hf
        have fin : ∀ {w2 : World}, Below w.heap.size w w2 -> (Ending.returned (.int .i64 4) = Ending.returned (.int .i64 (chkRoutes xs)) /\ Below w.heap.size w w2) :=
         fun hb => ⟨ei (by rw [HS.out, sc_bad xs k hlt (by rw [HBAD.out]; decide)]; exact HBAD.out.symm), hb⟩
        have FIN := zaa (fin HB1.out)
        clear fin
        rcases hcase with hp | ⟨hp, hc⟩ | ⟨hp, hc1, hc2, hc⟩
        · have t1 : (prefBad xs[k].pre != 0) = true := by simp [hp]
          clear hp
          go_wp2_with fail
          go_ret
          exact FIN.out
        · have t1 : (prefBad xs[k].pre != 0) = false := by simp [hp]
          clear hp
          rcases hc with hc | hc
          all_goals
           go_wp2_with fail
           all_goals (go_ret; exact FIN.out)
        · have t1 : (prefBad xs[k].pre != 0) = false := by simp [hp]
          have t2 : ¬ xs[k].cost < 0 := by omega
          have t3 : ¬ 1048576 < xs[k].cost := by omega
          clear hp
          rcases hc with ⟨hh, hc⟩ | ⟨hh, hc, hn⟩ | ⟨hh, hn⟩
          · have t4 : (xs[k].cost != 0) = true := by simp [hc]
            clear hc
            go_wp2_with fail
            go_ret
            exact FIN.out
          · have t4 : (xs[k].cost != 0) = false := by simp [hc]
            have t5 : 0 < hs.length := hn
            clear hc hn
            go_wp2_with fail
            go_ret
            exact FIN.out
          · have t5 : hs.length = 0 := hn
            clear hn
            go_wp2_with fail
            go_ret
            exact FIN.out
    · go_wp2_with fail
      go_ret
      exact ⟨ei (by rw [HS.out, sc_end xs k (by omega)]), hB⟩
end Go.Proofs.YtojojpjldkpmoaaGreatDoor
