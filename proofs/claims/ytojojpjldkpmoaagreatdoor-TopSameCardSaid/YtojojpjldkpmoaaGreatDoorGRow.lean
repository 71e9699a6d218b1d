/-
  
-/
import Derived.Test.YtojojpjldkpmoaaGreatDoorGSpec
import Derived.ProofKit
import Derived.Deep.Slices
set_option linter.unusedVariables false
set_option linter.unusedSimpArgs false
set_option maxHeartbeats 16000000
namespace Go.Proofs.YtojojpjldkpmoaaGreatDoor
open Go.RowKit Go.ChangeShapes Go.WideShapes Go.ChangeAt Go.Deep
def Opens {α : Type} (P : Program) (r : Rep α) (t : TypeId) : Prop :=
 P.cellsOf t = r.size /\ ∀ (H : Type) (enc : TypeId × Value -> H) (W : World) (fuel : Nat) (cs : List Value) (x : DataW H × List MemPlace),
  DataW.trod enc P W 0 (fun _ => true) true fuel t cs = some x -> ∃ a, r.holds W (fun k => k < W.heap.size) cs a
def intR : Rep Int := flatR 1 (fun n => [.int .i64 n]) inR (fun _ => rfl) (fun x u h => by simp at h; subst h; rfl)
def strR : Rep ByteArray := flatR 1 (fun s => [.string s]) (fun s => s.size <= maxLen) (fun _ => rfl) (fun x u h => by simp at h; subst h; rfl)
def byteR : Rep UInt8 := flatR 1 (fun c => [.int .u8 c.toNat]) (fun _ => True) (fun _ => rfl) (fun x u h => by simp at h; subst h; rfl)
def slR {α : Type} (r : Rep α) : Rep (List α) :=
 { size := 1, holds := fun w S cs xs => ∃ v, cs = [v] /\ SlR r w S v xs, len := fun ⟨v, h, _⟩ => by rw [h]; rfl,
   one := fun ⟨v, h, h2⟩ u hu => by
    obtain ⟨A, c, hv, _⟩ := h2
    rw [h] at hu; simp at hu; subst hu; rw [hv]; rfl
   keep := fun ⟨v, h1, h2⟩ h3 h4 => ⟨v, h1, h2.keep h3 h4⟩ }
theorem opens_int {P : Program} {t : TypeId} (ht : P.underlying t = some (.int .i64)) (hc : P.cellsOf t = 1) : Opens P intR t :=
 ⟨hc, fun H enc W fuel cs x h => by
  obtain ⟨n, rfl, _, hw⟩ := DataW.trod_int ht h
  have hx : -9223372036854775808 <= n /\ n <= 9223372036854775807 := by simpa [Lit.wf, IntKind.min, IntKind.max, IntKind.signed, IntKind.bits] using hw
  exact ⟨n, rfl, hx⟩⟩
theorem add_spot {w : World} {a : Addr} {n : Nat} {v : Value} (h : w.cell? (a.add n) = some v) (hn : n = 0) : a = ⟨a.block, a.off, none⟩ := by
 subst hn
 have h' : w.cell? a = some v := by simpa [Addr.add] using h
 cases a with
 | mk b o s =>
   cases s with
   | none => rfl
   | some s =>
     simp only [World.cell?] at h'
     split at h' <;> simp at h'
theorem opens_slice {α : Type} {P : Program} {r : Rep α} {t e : TypeId} (ht : P.underlying t = some (.slice e)) (hc : P.cellsOf t = 1) (hs : 0 < r.size) (h : Opens P r e) : Opens P (slR r) t :=
 ⟨hc, fun H enc W fuel cs x hx => by
  rcases open_slice ht hx with ⟨rfl, _⟩ | ⟨a, len, cap, m, n, D, Pl, rfl, _, hl, hm, hmm, _, hi⟩
  · exact ⟨[], _, rfl, none, 0, rfl, zab _, zak _, fun i x hx => by simp at hx⟩
  · have hmc : m = cap := by simpa using hmm
    subst hmc
    have hi' : ∀ i, i < len -> ∃ x : α, ∃ cs', r.holds W (fun k => k < W.heap.size) cs' x /\ cs'.length = r.size /\ ∀ j, j < r.size -> W.cell? ((a.add (i * r.size)).add j) = cs'[j]? := by
     intro i him
     obtain ⟨cs', h1, h2⟩ := hi i (by omega)
     rw [h.1] at h1
     obtain ⟨_, h3, h4⟩ := World.cells?_some h1
     obtain ⟨x, hx⟩ := h.2 H enc W n cs' _ h2
     exact ⟨x, cs', hx, h3, h4⟩
    rcases zaJ len with h0 | h0
    · subst h0
      exact ⟨[], _, rfl, some a, m, rfl, by simp, hm, fun i x hx => by simp at hx⟩
    · have hsp : a = ⟨a.block, a.off, none⟩ := by
       obtain ⟨x, cs', _, h3, h4⟩ := hi' 0 h0
       have h5 := h4 0 hs
       rw [Nat.zero_mul, add_add, zac (by omega)] at h5
       exact add_spot h5 rfl
      obtain ⟨x0, _⟩ := hi' 0 h0
      haveI : Inhabited α := ⟨x0⟩
      obtain ⟨V, hV⟩ := choose_lt hi'
      refine ⟨(List.range len).map V, _, rfl, some a, m, by simp, by simpa using hl, hm, fun i x hx => ?_⟩
      have hil : i < len := by
       have := (zax.1 hx).1
       simpa using this
      have hxe : V i = x := by simpa [hil] using hx
      subst hxe
      obtain ⟨cs', hh, hlen, hcell⟩ := hV i hil
      have hco : ∀ j u, cs'[j]? = some u -> W.cell? ⟨a.block, a.off + i * r.size + j, none⟩ = some u := by
       intro j u hu
       have hj : j < r.size := by rw [<- hlen]; exact (zax.1 hu).1
       have h5 := hcell j hj
       rw [add_add, hsp, hu] at h5
       rw [<- h5]
       congr 1
       unfold Addr.add
       split
       · rename_i hz
         simp [show i * r.size = 0 by omega, show j = 0 by omega]
       · simp [Nat.add_assoc]
      have h6 := hco 0 (cs'[0]'(by omega)) (zac (by omega))
      have h7 := zaU W ⟨a.block, a.off + i * r.size + 0, none⟩ h6
      exact ⟨a.block, a.off, cs', by rw [<- hsp], h7, h7, hh, hco⟩⟩
theorem opens_arg {α : Type} {P : Program} {r : Rep α} {t : TypeId} (h : Opens P r t) {H : Type} {enc : TypeId × Value -> H} {W : World} {v : Value} {d : DataW H} {p : List MemPlace}
  (hr : DataW.Trod enc P W 0 (fun _ => true) true t v d p) : ∃ x, r.holds W (fun k => k < W.heap.size) v.cells.toList x := by
 obtain ⟨fuel, hf⟩ := hr
 exact h.2 H enc W fuel _ _ hf
theorem open_sl {α : Type} {P : Program} {r : Rep α} {t e : TypeId} (ht : P.underlying t = some (.slice e)) (h : Opens P (slR r) t) {H : Type} {enc : TypeId × Value -> H} {W : World} {b : Nat} {q : Reach} {v : Value} {d : DataW H} {p : List MemPlace}
  (hv : Value.okWide P W q b t v) (hr : DataW.Trod enc P W 0 (fun _ => true) true t v d p) : ∃ xs, Sl r W v xs := by
 obtain ⟨a, len, cap, rfl⟩ := okWide_slice ht hv
 obtain ⟨xs, v', hv', hs⟩ := opens_arg h hr
 have : Value.slice a len cap = v' := by simpa [Value.cells] using hv'
 subst this
 exact ⟨xs, hs⟩
theorem trod_fields {P : Program} {t : TypeId} {fs : Array Field} (ht : P.underlying t = some (.struct fs)) {H : Type} {enc : TypeId × Value -> H} {W : World} {fuel : Nat} {cs : List Value} {x : DataW H × List MemPlace}
  (h : DataW.trod enc P W 0 (fun _ => true) true fuel t cs = some x) :
  cs.length = P.cellsOf t /\ ∀ (α : Type) (r : Rep α) (i : Nat) (f : Field), fs[i]? = some f -> Opens P r f.type -> ∃ a, r.holds W (fun k => k < W.heap.size) ((cs.drop f.offset).take r.size) a := by
 obtain ⟨xs, n, _, _, hlen, hxs, hf⟩ := DataW.trod_struct ht h
 refine ⟨hlen, fun α r i f hi ho => ?_⟩
 have h1 := hf i f hi
 rw [ho.1] at h1
 have hil : i < xs.length := by rw [hxs]; exact (Array.getElem?_eq_some_iff.1 hi).1
 rw [zac hil] at h1
 exact ho.2 H enc W n _ _ h1
section
variable {H : Type} {enc : TypeId × Value -> H} {P : Program}
theorem post_below {f : Func} {s : ChangeSpec} {apart fresh handsOn again : Bool} {W W' : World} {args : Array Value} {v : Value} {ds gs : List (DataW H)} {before pa pv : List MemPlace}
  (hW : DataW.Whole enc P f.params.toList s.vars apart W args.toList ds gs before)
  (hres : ∀ (b : Nat) (sp : Nat -> Bool) (hd : Bool), DataW.TrodAll enc P W' b sp hd f.resultTypes.toList (v.resultList f.resultTypes.size) (s.fn H (ds ++ gs)).results [])
  (hargs : ∀ sp : Nat -> Bool, (∀ p ∈ before, sp p.block = true) -> DataW.TrodAll enc P W' 0 sp true f.params.toList args.toList (s.fn H (ds ++ gs)).args pa)
  (hvars : ∀ sp : Nat -> Bool, (∀ p ∈ before, sp p.block = true) -> DataW.TrodVars enc P W' sp s.vars (s.fn H (ds ++ gs)).vars pv)
  (hps : before = pa ++ pv) (hb : Below W.heap.size W W')
  (hok : ∀ (j : Nat) (t : TypeId) (r : Value), f.resultTypes[j]? = some t -> (v.resultList f.resultTypes.size)[j]? = some r -> Value.okWide P W' .any 0 t r) :
  s.post enc P f apart fresh handsOn again W args v W' := by
 have hlt : ∀ p ∈ before, p.block < W.heap.size := fun p hp => hW.lt p hp
 have hold : ∀ p ∈ before, (fun b => decide (b < W.heap.size)) p.block = true := fun p hp => by simpa using hlt p hp
 refine ⟨ds, gs, before, [], pa, pv, hW, hres _ _ _, hargs _ hold, hvars _ hold, World.keptBut_mono (fun p hp => ⟨hp, ?_⟩) (hb.frame (· ∈ before)), fun _ => ?_⟩
 · rw [hps, zaI] at hp
   exact Or.inr hp
 · obtain ⟨_, _, _, _, _, hz, hn⟩ := hW
   refine ⟨hok, _, _, ([] ++ pa) ++ pv, ⟨[] ++ pa, pv, trodAll_append (hargs _ (fun _ _ => rfl)) (hres _ _ _), hvars _ (fun _ _ => rfl), rfl, ?_, ?_⟩, ?_⟩
   · intro b off hp
     have hin : MemPlace.cell b off ∈ before := by rw [hps]; simpa using hp
     rw [hb.frozen (hlt _ hin)]
     exact hz b off hin
   · intro ha
     have := hn ha
     rw [hps] at this
     simpa using this
   · intro p hp _
     rw [hps]
     simpa using hp
theorem trodAll_stays {W W' : World} (hl : laidOutB P = true) (hb : Below W.heap.size W W') : ∀ {ts : List TypeId} {vs : List Value} {ds : List (DataW H)} {ps : List MemPlace},
  (∀ t ∈ ts, P.readableRec t = true /\ t < P.types.size) -> DataW.TrodAll enc P W 0 (fun _ => true) true ts vs ds ps -> (∀ x ∈ ps, x.block < W.heap.size) ->
  ∀ sp : Nat -> Bool, (∀ p ∈ ps, sp p.block = true) -> DataW.TrodAll enc P W' 0 sp true ts vs ds ps
 | [], [], [], ps, _, h, _, _, _ => h
 | t :: ts, v :: vs, d :: ds, ps, ht, ⟨p, q, h1, h2, hp⟩, hlt, sp, hsp => by
   subst hp
   obtain ⟨hr, hrow⟩ := ht t (by simp)
   exact ⟨p, q, WideElems.Trod_stays hl hr hrow h1 (fun x hx => hb.same (hlt x (by simp [hx]))) (fun x hx => hsp x (by simp [hx])),
    trodAll_stays hl hb (fun t ht' => ht t (by simp [ht'])) h2 (fun x hx => hlt x (by simp [hx])) sp (fun x hx => hsp x (by simp [hx])), rfl⟩
 | [], _ :: _, _, _, _, h, _, _, _ => h.elim
 | [], [], _ :: _, _, _, h, _, _, _ => h.elim
 | _ :: _, [], _, _, _, h, _, _, _ => h.elim
 | _ :: _, _ :: _, [], _, _, h, _, _, _ => h.elim
theorem own : ownKnob Tryz.prog.godebug = none := by kernel_rfl
theorem laidOut : laidOutB Tryz.prog = true := by kernel_rfl
theorem law_post {f : Func} {s : ChangeSpec} {W W' : World} {args : Array Value} {ds gs : List (DataW H)} {before : List MemPlace} {T : TypeId}
  (hW : DataW.Whole enc P f.params.toList s.vars false W args.toList ds gs before) (hl : laidOutB P = true) (hts : ∀ t ∈ f.params.toList, P.readableRec t = true /\ t < P.types.size)
  (hv : s.vars = []) (hrt : f.resultTypes = #[T]) (hT : P.underlying T = some .bool)
  (hres : (s.fn H (ds ++ gs)).results = [.lit (.bool true)]) (hargs : (s.fn H (ds ++ gs)).args = ds) (hvs : (s.fn H (ds ++ gs)).vars = []) (hb : Below W.heap.size W W') :
  s.post enc P f false true false false W args (.bool true) W' := by
 have hW' := hW
 obtain ⟨p, q, hA, hV, hpq, _, _⟩ := hW'
 rw [hv] at hV
 have hq : q = [] := by
  cases gs with
  | nil => exact hV
  | cons _ _ => exact hV.elim
 subst hq
 have hlt : ∀ x ∈ before, x.block < W.heap.size := fun x hx => hW.lt x hx
 rw [zbq] at hpq
 subst hpq
 refine post_below (pa := before) (pv := []) hW ?_ ?_ ?_ (by simp) hb ?_
 · intro b sp hd
   rw [hres, hrt]
   exact trodAll_mk1 (shut_bool hT true)
 · intro sp hsp
   rw [hargs]
   exact trodAll_stays hl hb hts hA hlt sp hsp
 · intro sp _
   rw [hvs, hv]
   rfl
 · intro j t r h1 h2
   rw [hrt] at h1 h2
   match j, h1, h2 with
   | 0, h1, h2 =>
     have e1 : T = t := by simpa using h1
     have e2 : Value.bool true = r := by simpa [Value.resultList] using h2
     subst e1 e2
     exact okWide_bool_mk hT true
   | j + 1, h1, _ => simp at h1
end
end Go.Proofs.YtojojpjldkpmoaaGreatDoor
