/-
  
-/
import Derived.Test.YtojojpjldkpmoaaGreatDoorGTxB
import Derived.Test.YtojojpjldkpmoaaGreatDoorGShf
import Derived.Lib.LaidTab
import Derived.Laws.Concat
set_option linter.unusedVariables false
set_option linter.unusedSimpArgs false
set_option maxHeartbeats 16000000
namespace Go.Proofs.YtojojpjldkpmoaaGreatDoor
open Go Go.RowKit
theorem cell_keep {w w' : World} (hb : Below w.heap.size w w') {a : Addr} {v : Value} (hc : w.cell? a = some v) : w'.cell? a = some v := (hb.cell (zaU w a hc)).trans hc
theorem tab_keep {P : Program} {n : String} {g : Nat} {k : IntKind} {zs : List Int} {w w' : World} (hg : P.globalNamed n = some g) (h : Lib.TabIs P w n k zs) (hb : Below w.heap.size w w') : Lib.TabIs P w' n k zs := by
 unfold Lib.TabIs World.var? at h ⊢
 rw [hg] at h ⊢
 simp only [Option.bind_some] at h ⊢
 have hlt : g < w.heap.size := by
  rcases zbu g w.heap.size with h' | h'
  · exact h'
  · rw [zbL h'] at h; cases h
 rw [hb.block g hlt]
 exact h
theorem g_pow : Tryz.prog.globalNamed "internal/strconv.uint64pow10" = some 1 := by kernel_rfl
def EnvT (w : World) : Prop := Lib.TabIs Tryz.prog w "internal/strconv.uint64pow10" .u64 Lib.pow10Tab
theorem EnvT.below {w w' : World} (h : EnvT w) (hb : Below w.heap.size w w') : EnvT w' := tab_keep g_pow h hb
structure Env (w : World) : Prop where
 tab : EnvT w
 maxl : ∃ m, w.cell? ⟨0, 0, none⟩ = some (.int .i64 m)
 syn : ∃ te pe, w.cell? ⟨4, 0, none⟩ = some (.iface te pe)
 ran : ∃ te pe, w.cell? ⟨5, 0, none⟩ = some (.iface te pe)
theorem Env.below {w w' : World} (h : Env w) (hb : Below w.heap.size w w') : Env w' := by
 obtain ⟨h1, ⟨m, h2⟩, ⟨te, pe, h3⟩, ⟨tr, pr, h4⟩⟩ := h
 exact ⟨h1.below hb, ⟨m, cell_keep hb h2⟩, ⟨te, pe, cell_keep hb h3⟩, ⟨tr, pr, cell_keep hb h4⟩⟩
theorem below_grow' (B : Nat) (w : World) (hB : B <= w.heap.size) (k : Nat) (os : Array Obj) : Below B w (Sort.grow (w.drewN k) os) :=
 ⟨rfl, rfl, rfl, by show w.heap.size <= (w.heap ++ os).size; rw [Array.size_append]; omega, fun j hj => by
  show (w.heap ++ os)[j]? = w.heap[j]?
  rw [Array.getElem?_append_left (by omega)]⟩
theorem below_bytesW (w : World) (t : TypeId) (s : ByteArray) : Below w.heap.size w (Lib.bytesWorld w t s) :=
 ⟨rfl, rfl, rfl, by rw [Lib.bytesWorld_size]; omega, fun k hk => Lib.bytesWorld_at_old w t s k hk⟩
theorem itoa_any (n : Int) (w : World) (h0 : inR n) (hE : EnvT w) :
  Calls Tryz.prog 59 #[.int .i64 n] w fun e w' => e = .returned (.string (bOf (Lib.itoa n))) /\ Below w.heap.size w w' :=
 (Tryz.strconv_Itoa n h0.1 h0.2 w hE).mono fun _ _ ⟨e, k, os, hw⟩ => ⟨e, by rw [hw]; exact below_grow' _ _ (zab _) _ _⟩
theorem atoi_ok (s : ByteArray) (v : Int) (w : World) (hs : s.size <= 281474976710656) (h : Lib.atoiAll s.data.toList = .ok v) :
  Calls Tryz.prog 177 #[.string s] w fun e w' => e = .returned (.tuple #[.int .i64 v, .nilIface]) /\ Below w.heap.size w w' := by
 refine (Tryz.strconv_Atoi_ok s (by omega) v h w).mono ?_
 rintro e w' ⟨rfl, hw⟩
 refine ⟨rfl, ?_⟩
 rcases hw with rfl | ⟨t, rfl⟩
 · exact zad _ _
 · exact below_bytesW _ _ _
theorem atoi_no (s : ByteArray) (w : World) (hs : s.size <= 281474976710656) (hE : Env w) (h : ∀ v, Lib.atoiAll s.data.toList ≠ .ok v) :
  Calls Tryz.prog 177 #[.string s] w fun e w' => (∃ v t p, e = .returned (.tuple #[.int .i64 v, .iface t p])) /\ Below w.heap.size w w' := by
 obtain ⟨_, _, ⟨te, pe, h3⟩, ⟨tr, pr, h4⟩⟩ := hE
 rcases h' : Lib.atoiAll s.data.toList with v | _ | _
 · exact absurd h' (h v)
 · refine (Any.strconv_Atoi_syntax Tryz.laysC172 s hs h' (.iface te pe) w h3 (.inr ⟨te, pe, rfl⟩)).mono ?_
   rintro e w' ⟨N, rfl, _, _, hb⟩
   exact ⟨⟨_, _, _, rfl⟩, hb⟩
 · refine (Tryz.strconv_Atoi_range s hs h' (.iface tr pr) w h4 (.inr ⟨tr, pr, rfl⟩)).mono ?_
   rintro e w' ⟨N, rfl, _, _, hb⟩
   exact ⟨⟨_, _, _, rfl⟩, hb⟩
theorem numD_ok {s : List UInt8} {v most : Int} (h : Lib.atoiAll s = .ok v) : numD most s = if v < 0 ∨ most < v ∨ Lib.itoa v ≠ s then -1 else v := by
 unfold numD; rw [h]
theorem numD_no {s : List UInt8} {most : Int} (h : ∀ v, Lib.atoiAll s ≠ .ok v) : numD most s = -1 := by
 unfold numD
 split
 · rename_i v hv; exact absurd hv (h v)
 · rfl
theorem bOf_beq (l : List UInt8) (s : ByteArray) : ((bOf l).data == s.data) = decide (l = s.data.toList) := by
 rw [Bool.eq_iff_iff, decide_eq_true_iff, beq_iff_eq]
 constructor
 · intro h; rw [<- h]; simp [bOf]
 · intro h; rw [h]; simp [bOf]
theorem gnumber_any (s : ByteArray) (most : Int) (w : World) (hs : s.size <= 281474976710656) (hm : inR most) (hE : Env w) :
  Calls Tryz.prog 147 #[.string s, .int .i64 most] w fun e w' => e = .returned (.int .i64 (numD most s.data.toList)) /\ Below w.heap.size w w' := by
 have HE := zaa hE
 have HM := zaa hm
 clear hm hE
 by_cases hv : ∃ v, Lib.atoiAll s.data.toList = .ok v
 · obtain ⟨v, hv⟩ := hv
   have HN := zaa (numD_ok (most := most) hv)
   have HC := zaa (fun w => atoi_ok s v w hs hv)
   clear hv
   by_cases h1 : v < 0
   · go_enter Tryz.func147, Tryz.ntmps147
     go_wp2_with (go_at_call 177; refine (HC.out _).mono ?_; rintro e w1 ⟨rfl, hb1⟩)
     go_ret
     exact ⟨ei (by rw [HN.out, if_pos (.inl h1)]), hb1⟩
   · by_cases h2 : most < v
     · go_enter Tryz.func147, Tryz.ntmps147
       go_wp2_with (go_at_call 177; refine (HC.out _).mono ?_; rintro e w1 ⟨rfl, hb1⟩)
       go_ret
       exact ⟨ei (by rw [HN.out, if_pos (.inr (.inl h2))]), hb1⟩
     · have hin : inR v := by have := HM.out; unfold inR at *; omega
       have HI := zaa hin
       have HT := zaa (bOf_beq (Lib.itoa v) s)
       clear hin
       go_enter Tryz.func147, Tryz.ntmps147
       go_wp2_with (first
        | (go_at_call 177; refine (HC.out _).mono ?_; rintro e w1 ⟨rfl, hb1⟩)
        | (go_at_call 59; refine (itoa_any v _ HI.out (HE.out.tab.below hb1)).mono ?_; rintro e w2 ⟨rfl, hb2⟩))
       · go_ret
         rename_i hne
         refine ⟨ei ?_, hb1.trans (hb2.mono hb1.size)⟩
         have hne' : Lib.itoa v ≠ s.data.toList := by
          intro e
          rcases hne with (h | h) | h
          · omega
          · omega
          · rw [zbr, zbr, bOf_list, e] at h; simp at h
         rw [HN.out, if_pos (.inr (.inr hne'))]
       · go_ret
         rename_i hne
         refine ⟨ei ?_, hb1.trans (hb2.mono hb1.size)⟩
         have hne' : ¬ Lib.itoa v ≠ s.data.toList := by
          intro e
          rw [zbr, zbr, bOf_list] at hne
          simp at hne
          exact e (hne.2)
         rw [HN.out, if_neg (by rintro (h | h | h); · omega
                                · omega
                                · exact hne' h)]
 · have hv' : ∀ v, Lib.atoiAll s.data.toList ≠ .ok v := fun v e => hv ⟨v, e⟩
   have HN := zaa (numD_no (most := most) hv')
   have HC := zaa (atoi_no s w hs HE.out hv')
   clear hv hv'
   go_enter Tryz.func147, Tryz.ntmps147
   go_wp2_with (go_at_call 177; refine HC.out.mono ?_; rintro e w1 ⟨⟨v, t, p, rfl⟩, hb1⟩)
   go_ret
   exact ⟨ei HN.out.symm, hb1⟩
theorem two_any (s : ByteArray) (b : UInt8) (most : Int) (w : World) (hs : s.size < 4294967281) (hm : inR most) (hE : Env w) :
  Calls Tryz.prog 180 #[.string s, .string ⟨#[b]⟩, .int .i64 most] w fun e w' => e = .returned (.tuple #[.int .i64 (numD most (cutB b s.data.toList).1), .int .i64 (numD most (cutB b s.data.toList).2.1), .bool ((cutB b s.data.toList).2.2 && (decide (0 <= numD most (cutB b s.data.toList).1) && decide (0 <= numD most (cutB b s.data.toList).2.1)))]) /\ Below w.heap.size w w' := by
 have hl := size_toList s
 obtain ⟨m, hml⟩ := hE.maxl
 have hcut := fun w hm => Tryz.strings_Cut s ⟨#[b]⟩ m w hs hm
 have hce : Lib.cut s.data.toList ((⟨#[b]⟩ : ByteArray)).data.toList = cutB b s.data.toList := cut_eq b _
 rw [hce] at hcut
 have hlen := cutB_len b s.data.toList
 generalize hc : cutB b s.data.toList = c at hcut hlen ⊢
 obtain ⟨x, y, ok⟩ := c
 have HC := zaa hcut
 have HE := zaa hE
 have HM := zaa hm
 have hx : (bOf x).size <= 281474976710656 := by rw [bOf_size]; have := hlen.1; simp only at this; omega
 have hy : (bOf y).size <= 281474976710656 := by rw [bOf_size]; have := hlen.2; simp only at this; omega
 have HX := zaa (fun w hE => gnumber_any (bOf x) most w hx HM.out hE)
 have HY := zaa (fun w hE => gnumber_any (bOf y) most w hy HM.out hE)
 rw [bOf_list] at HX HY
 clear hcut hlen hc hx hy hE hm hce
 go_enter Tryz.func180, Tryz.ntmps180
 go_wp2_with (first
  | (go_at_call 146; refine (HC.out _ hml).mono ?_; rintro e w1 ⟨rfl, n, rfl⟩)
  | (go_at_call 147; refine (HY.out _ (HE.out.below hb1)).mono ?_; rintro e w2 ⟨rfl, hb2⟩)
  | (go_at_call 147; refine (HX.out _ (HE.out.below (bDrewN (zad _ _) _))).mono ?_; rintro e w1 ⟨rfl, hb1⟩; have hb1 := (bDrewN (zad w.heap.size w) n).trans hb1))
 all_goals
  go_ret3
  refine ⟨?_, hb1.trans (hb2.mono hb1.size)⟩
  first | (simp [*]; done) | (simp [*]; omega)
theorem nil_iff (s : ByteArray) : (s.size = 0) ↔ s.data.toList = [] := by
 rw [<- size_toList]; exact ⟨fun h => zat h, fun h => by rw [h]; rfl⟩
theorem sl_new {w : World} {xs : List ByteArray} {E : TypeId} (hx : ∀ x ∈ xs, x.size <= maxLen) (hn : xs.length <= maxLen) : Sl strR (w.alloc (.cells (xs.map Value.string).toArray E)) (.slice (some ⟨w.heap.size, 0, none⟩) xs.length xs.length) xs := by
 refine ⟨_, _, rfl, zab _, hn, fun i x hx' => ⟨w.heap.size, 0, [.string x], rfl, by simp, by simp, ⟨rfl, hx x (List.mem_of_getElem? hx')⟩, fun j u hu => ?_⟩⟩
 match j, hu with
 | 0, hu =>
   simp at hu; subst hu
   have : i < (xs.map Value.string).toArray.size := by simpa using (zax.1 hx').1
   rw [zae _ _ _ _ rfl]
   simp [hx', strR, flatR]
 | j + 1, hu => simp at hu
theorem splitC_len (b : UInt8) : ∀ s : List UInt8, (splitC b s).length <= s.length + 1 /\ ∀ x ∈ splitC b s, x.length <= s.length
 | [] => by simp [splitC]
 | c :: r => by
   obtain ⟨h1, h2⟩ := splitC_len b r
   unfold splitC
   split
   · refine ⟨by simp; omega, fun x hx => ?_⟩
     rcases zaB.1 hx with rfl | hx
     · simp
     · have := h2 x hx; simp; omega
   · rcases hs : splitC b r with _ | ⟨y, ys⟩
     · simp
     · rw [hs] at h1 h2
       refine ⟨by simp at h1 ⊢; omega, fun x hx => ?_⟩
       rcases zaB.1 hx with rfl | hx
       · have := h2 y (by simp); simp; omega
       · have := h2 x (by simp [hx]); simp; omega
theorem partsC_len (s : List UInt8) : (partsC s).length <= s.length + 1 /\ ∀ x ∈ partsC s, x.length <= s.length := by
 unfold partsC
 split
 · simp
 · exact splitC_len 44 s
theorem parts_any (s : ByteArray) (w : World) (hs : s.size < 4294967281) (hE : Env w) :
  Calls Tryz.prog 179 #[.string s] w fun e w' => (∃ v, e = .returned v /\ Sl strR w' v ((partsC s.data.toList).map bOf)) /\ Below w.heap.size w w' := by
 obtain ⟨m, hml⟩ := hE.maxl
 by_cases h0 : s.size = 0
 · have hp : partsC s.data.toList = [] := by unfold partsC; rw [if_pos ((nil_iff s).1 h0)]
   have he : s.toList.isEmpty = true := by rw [empty_iff, decide_eq_true_iff]; exact h0
   rw [hp]
   go_enter Tryz.func179, Tryz.ntmps179
   go_wp2_with fail
   go_ret
   exact ⟨⟨_, rfl, Sl.nil _ _⟩, zad _ _⟩
 · have hne : s.data.toList ≠ [] := fun e => h0 ((nil_iff s).2 e)
   have he : s.toList.isEmpty = false := by rw [empty_iff, decide_eq_false_iff_not]; exact h0
   have hp : (partsC s.data.toList).map bOf = Lib.splitB ⟨#[44]⟩ 0 (Lib.countB s ⟨#[44]⟩) s := by
    unfold partsC; rw [if_neg hne, <- splitB_eq, List.map_map]
    have : (bOf ∘ fun x : ByteArray => x.data.toList) = id := by funext x; exact bOf_data x
    rw [this, List.map_id]
   have hlen := partsC_len s.data.toList
   have hsz := size_toList s
   have hn : Lib.countB s ⟨#[44]⟩ + 1 = ((partsC s.data.toList).map bOf).length := by
    rw [countB_len, zaV]; unfold partsC; rw [if_neg hne]
   have hcall := Tryz.strings_Split s ⟨#[44]⟩ m w hs hml (by decide)
   rw [<- hp, hn] at hcall
   have hsl := sl_new (w := w) (xs := (partsC s.data.toList).map bOf) (E := 9) (fun x hx => by
    obtain ⟨y, hy, rfl⟩ := zbm.1 hx
    have := hlen.2 y hy
    rw [bOf_size]; unfold maxLen; omega) (by rw [zaV]; have := hlen.1; unfold maxLen; omega)
   have HC := zaa hcall
   have HS := zaa hsl
   clear hcall hsl hn hlen hp hne
   go_enter Tryz.func179, Tryz.ntmps179
   go_wp2_with (go_at_call 200; refine HC.out.mono ?_; rintro e w1 ⟨rfl, rfl⟩)
   go_ret
   exact ⟨⟨_, rfl, by have h := HS.out; rw [List.map_map, zaV] at h; exact h⟩, (zad _ _).alloc (zab _) _⟩
end Go.Proofs.YtojojpjldkpmoaaGreatDoor
