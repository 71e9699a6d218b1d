/-
  
-/
import Derived.Test.YtojojpjldkpmoaaGreatDoorGNtD
set_option linter.unusedVariables false
set_option linter.unusedSimpArgs false
set_option maxHeartbeats 16000000
namespace Go.Proofs.YtojojpjldkpmoaaGreatDoor
section
open Go
inductive Conn (C : Nat -> Nat -> Int) : Nat -> Nat -> Prop
 | refl (a : Nat) : Conn C a a
 | step {a b c : Nat} : Conn C a b -> C b c ≠ 0 -> Conn C a c
theorem Conn.trans {C : Nat -> Nat -> Int} {a b c : Nat} (h : Conn C a b) (g : Conn C b c) : Conn C a c := by
 induction g with
 | refl => exact h
 | step _ hc ih => exact .step ih hc
theorem Conn.symm {C : Nat -> Nat -> Int} (hs : ∀ a b, C a b = C b a) {a b : Nat} (h : Conn C a b) : Conn C b a := by
 induction h with
 | refl => exact .refl _
 | step _ hc ih => exact Conn.trans (.step (.refl _) (by rw [hs]; exact hc)) ih
def Rch (C : Nat -> Nat -> Int) (a : Nat) : Nat -> Nat -> Prop
 | 0, b => b = a
 | n + 1, b => Rch C a n b ∨ ∃ c, c < 5 /\ Rch C a n c /\ C c b ≠ 0
theorem Rch.up {C : Nat -> Nat -> Int} {a b n m : Nat} (h : Rch C a n b) (hm : n <= m) : Rch C a m b := by
 induction m with
 | zero => have : n = 0 := by omega
           subst this; exact h
 | succ m ih =>
   by_cases e : n = m + 1
   · subst e; exact h
   · exact .inl (ih (by omega))
open Classical in
theorem rch_four {C : Nat -> Nat -> Int} (h5 : ∀ a b, C a b ≠ 0 -> b < 5) {a b : Nat} (ha : a < 5) (h : Conn C a b) : b < 5 /\ Rch C a 4 b := by
 have grow : ∀ n, (∀ b, b < 5 -> Rch C a (n + 1) b -> Rch C a n b) ∨ n + 1 < (List.range 5).countP (fun b => decide (Rch C a (n + 1) b)) := by
  intro n
  induction n with
  | zero =>
    by_cases hc : ∀ b, b < 5 -> Rch C a (0 + 1) b -> Rch C a 0 b
    · exact .inl hc
    · right
      simp only [not_forall] at hc
      obtain ⟨b, hb, h1, h2⟩ := hc
      have := count_lt (p := fun b => decide (Rch C a 0 b)) (q := fun b => decide (Rch C a (0 + 1) b)) (l := List.range 5) (fun x _ hx => decide_eq_true (.inl (of_decide_eq_true hx))) ⟨b, zbn.2 hb, decide_eq_true h1, decide_eq_false h2⟩
      have h0 : 0 < (List.range 5).countP (fun b => decide (Rch C a 0 b)) := List.countP_pos_iff.2 ⟨a, zbn.2 ha, decide_eq_true rfl⟩
      omega
  | succ n ih =>
    by_cases hc : ∀ b, b < 5 -> Rch C a (n + 1 + 1) b -> Rch C a (n + 1) b
    · exact .inl hc
    · right
      rcases ih with ih | ih
      · exfalso
        apply hc
        rintro b hb (h | ⟨c, h1, h2, h3⟩)
        · exact h
        · exact .inr ⟨c, h1, ih c h1 h2, h3⟩
      · simp only [not_forall] at hc
        obtain ⟨b, hb, h1, h2⟩ := hc
        have := count_lt (p := fun b => decide (Rch C a (n + 1) b)) (q := fun b => decide (Rch C a (n + 1 + 1) b)) (l := List.range 5) (fun x _ hx => decide_eq_true (.inl (of_decide_eq_true hx))) ⟨b, zbn.2 hb, decide_eq_true h1, decide_eq_false h2⟩
        omega
 have closed : ∀ b, b < 5 -> Rch C a 5 b -> Rch C a 4 b := by
  rcases grow 4 with h | h
  · exact h
  · have := List.countP_le_length (p := fun b => decide (Rch C a (4 + 1) b)) (l := List.range 5)
    rw [List.length_range] at this; omega
 induction h with
 | refl => exact ⟨ha, Rch.up (n := 0) rfl (by omega)⟩
 | step _ hc ih =>
   obtain ⟨h1, h2⟩ := ih
   have hb := h5 _ _ hc
   exact ⟨hb, closed _ hb (.inr ⟨_, h1, h2, hc⟩)⟩
structure Snt (x y : Net) : Prop where
 co : y.co = x.co
 dr : ∀ i, (y.nd i).dr = (x.nd i).dr
 pf : ∀ i, (y.nd i).pf = (x.nd i).pf
 tb : ∀ i, (y.nd i).tb = (x.nd i).tb
 le : ∀ i, i < 12 -> LeS (x.nd i).st (y.nd i).st
 own : ∀ i, i < 12 -> ∀ k, ownKey k i -> findE (y.nd i).st k = findE (x.nd i).st k
 most : ∀ b, b < 12 -> ∀ u, (∀ c, c < 12 -> Conn x.co b c -> LeS (x.nd c).st u) -> LeS (y.nd b).st u
theorem Snt.refl {x : Net} (h : NetOk x) : Snt x x := ⟨rfl, fun _ => rfl, fun _ => rfl, fun _ => rfl, fun i hi => LeS.refl (h.nd i hi).st, fun _ _ _ _ => rfl, fun b hb _ hu => hu b hb (.refl b)⟩
theorem Snt.trans {x y z : Net} (h : Snt x y) (g : Snt y z) : Snt x z :=
 ⟨g.co.trans h.co, fun i => (g.dr i).trans (h.dr i), fun i => (g.pf i).trans (h.pf i), fun i => (g.tb i).trans (h.tb i), fun i hi => (h.le i hi).trans (g.le i hi),
  fun i hi k hk => (g.own i hi k hk).trans (h.own i hi k hk), fun b hb u hu => g.most b hb u (fun c hc hbc => h.most c hc u (fun d hd hcd => hu d hd (by rw [h.co] at hbc; exact hbc.trans hcd)))⟩
def sendA (a b : Nat) : ActV := ⟨7, a, b, -1, 0, ⟨0, 0⟩, ⟨#[]⟩, ⟨#[]⟩⟩
def tellC (a : Nat) : ActV := ⟨6, a, 0, 0, 0, ⟨0, 0⟩, ⟨#[]⟩, ⟨#[]⟩⟩
def decideC (a : Nat) : ActV := ⟨9, a, 0, 0, 0, ⟨0, 0⟩, ⟨#[]⟩, ⟨#[]⟩⟩
theorem act_send (x : Net) {a b : Nat} (ha : a < 12) : actS x (sendA a b) = ((sendS x a b (-1)).1, ⟨(sendS x a b (-1)).2.2, [], 0, (sendS x a b (-1)).2.1⟩) :=
 act_go (c := sendA a b) (by show ¬ ((7 : Int) < 1 ∨ 10 < (7 : Int)); omega) ((isN_iff _).2 (by show 0 <= (a : Int) /\ (a : Int) < 12; omega)) (a := a) (k := 7) rfl rfl
theorem act_tell (x : Net) {a : Nat} (ha : a < 12) : actS x (tellC a) = ((tellS x a).1, ⟨(tellS x a).2.2, [], 0, (tellS x a).2.1⟩) :=
 act_go (c := tellC a) (by show ¬ ((6 : Int) < 1 ∨ 10 < (6 : Int)); omega) ((isN_iff _).2 (by show 0 <= (a : Int) /\ (a : Int) < 12; omega)) (a := a) (k := 6) rfl rfl
theorem act_decide (x : Net) {a : Nat} (ha : a < 12) : actS x (decideC a) = (decideS x a, rpl0) :=
 act_go (c := decideC a) (by show ¬ ((9 : Int) < 1 ∨ 10 < (9 : Int)); omega) ((isN_iff _).2 (by show 0 <= (a : Int) /\ (a : Int) < 12; omega)) (a := a) (k := 9) rfl rfl
theorem send_snt {x : Net} {t : Nat} (h : Kn x t) {a b : Nat} (ha : a < 12) (hb : b < 12) :
  Snt x (sendS x a b (-1)).1 /\ (x.co a b ≠ 0 -> LeS (x.nd a).st ((sendS x a b (-1)).1.nd b).st) := by
 have hx := h.ok
 by_cases hc : x.co a b = 0
 · have e : sendS x a b (-1) = (x, [], 6) := by
    unfold sendS
    rw [if_neg (by rw [(isN_iff _).2 (by omega)]; simp), if_pos (by simpa using hc)]
   rw [e]
   exact ⟨Snt.refl hx, fun h => absurd hc h⟩
 · have e : sendS x a b (-1) = (x.setN b { x.nd b with st := (mergeS aboveE (x.nd b).st (x.nd a).st).1 }, (mergeS aboveE (x.nd b).st (x.nd a).st).2.1, 0) := by
    unfold sendS
    rw [if_neg (by rw [(isN_iff _).2 (by omega)]; simp), if_neg (by simpa using hc), wire_whole (hx.nd a ha).st (by omega), if_neg (by simp)]
    rfl
   rw [e]
   have la := h.len ha
   have lb := h.len hb
   have oa := (hx.nd a ha).st
   have ob := (hx.nd b hb).st
   have hnd : ∀ i, ((x.setN b { x.nd b with st := (mergeS aboveE (x.nd b).st (x.nd a).st).1 }).nd i) = if i = b then { x.nd b with st := (mergeS aboveE (x.nd b).st (x.nd a).st).1 } else x.nd i := by
    intro i
    by_cases e : i = b
    · subst e; rw [setN_same, if_pos rfl]
    · rw [setN_other _ _ e, if_neg e]
   refine ⟨⟨rfl, fun i => ?_, fun i => ?_, fun i => ?_, fun i hi => ?_, fun i hi k hk => ?_, fun i hi u hu => ?_⟩, fun _ => ?_⟩
   · rw [hnd]; split
     · rename_i e; rw [e]
     · rfl
   · rw [hnd]; split
     · rename_i e; rw [e]
     · rfl
   · rw [hnd]; split
     · rename_i e; rw [e]
     · rfl
   · rw [hnd]; split
     · rename_i e; rw [e]; exact le_merge_left ob oa
     · exact LeS.refl (hx.nd i hi).st
   · rw [hnd]; split
     · rename_i e; subst e; exact merged_own h ha hi hk
     · rfl
   · rw [hnd]; split
     · rename_i e; subst e
       exact merge_le ob oa (by omega) (hu i hi (.refl i)) (hu a ha (.step (.refl i) (by rw [hx.sym]; exact hc)))
     · exact hu i hi (.refl i)
   · rw [hnd, if_pos rfl]
     exact le_merge_right ob oa (by omega)
def runN (x : Net) (l : List ActV) : Net := (runS x l).1
theorem runN_append (x : Net) (l m : List ActV) : runN x (l ++ m) = runN (runN x l) m := by unfold runN; rw [runS_append]
theorem runN_cons (x : Net) (c : ActV) (l : List ActV) : runN x (c :: l) = runN (actS x c).1 l := rfl
def sendsL (l : List (Nat × Nat)) : List ActV := l.map fun p => sendA p.1 p.2
theorem sends_snt : ∀ (l : List (Nat × Nat)) {x : Net} {t : Nat}, Kn x t -> (∀ p ∈ l, p.1 < 12 /\ p.2 < 12) ->
  Kn (runN x (sendsL l)) t /\ Snt x (runN x (sendsL l)) /\ ∀ p ∈ l, x.co p.1 p.2 ≠ 0 -> LeS (x.nd p.1).st ((runN x (sendsL l)).nd p.2).st
 | [], x, t, h, _ => ⟨h, Snt.refl h.ok, fun p hp => by cases hp⟩
 | p :: l, x, t, h, hl => by
   obtain ⟨h1, h2⟩ := hl p (by simp)
   have e : runN x (sendsL (p :: l)) = runN (sendS x p.1 p.2 (-1)).1 (sendsL l) := by
    unfold sendsL; rw [zaH, runN_cons, act_send x h1]
   have k1 := send_kn h h1 p.2 (-1)
   obtain ⟨s1, s2⟩ := send_snt h h1 h2
   obtain ⟨g1, g2, g3⟩ := sends_snt l k1 (fun q hq => hl q (by simp [hq]))
   rw [e]
   refine ⟨g1, s1.trans g2, fun q hq hc => ?_⟩
   rcases zaB.1 hq with e | hq
   · subst e
     exact (s2 hc).trans (g2.le _ h2)
   · have hq' := hl q (by simp [hq])
     exact (s1.le _ hq'.1).trans (g3 q hq (by rw [s1.co]; exact hc))
def pairs5 : List (Nat × Nat) := (List.range 5).flatMap fun a => ((List.range 5).filter fun b => decide (a ≠ b)).map fun b => (a, b)
theorem pairs5_mem {a b : Nat} : (a, b) ∈ pairs5 ↔ a < 5 /\ b < 5 /\ a ≠ b := by
 unfold pairs5
 rw [List.mem_flatMap]
 constructor
 · rintro ⟨c, hc, h⟩
   obtain ⟨d, hd, e⟩ := zbm.1 h
   obtain ⟨h1, h2⟩ := zaY.1 hd
   injection e with e1 e2
   subst e1 e2
   exact ⟨zbn.1 hc, zbn.1 h1, of_decide_eq_true h2⟩
 · rintro ⟨h1, h2, h3⟩
   exact ⟨a, zbn.2 h1, zbm.2 ⟨b, zaY.2 ⟨zbn.2 h2, decide_eq_true h3⟩, rfl⟩⟩
def passL : Nat -> List ActV
 | 0 => []
 | n + 1 => passL n ++ sendsL pairs5
theorem pass_snt {x : Net} {t : Nat} (h : Kn x t) : ∀ n, Kn (runN x (passL n)) t /\ Snt x (runN x (passL n)) /\
  ∀ a, a < 5 -> ∀ b, b < 5 -> Rch x.co a n b -> LeS (x.nd a).st ((runN x (passL n)).nd b).st
 | 0 => ⟨h, Snt.refl h.ok, fun a ha b _ e => by rw [show b = a from e]; exact LeS.refl (h.ok.nd a (by omega)).st⟩
 | n + 1 => by
   obtain ⟨k, s, r⟩ := pass_snt h n
   obtain ⟨k2, s2, r2⟩ := sends_snt pairs5 k (fun p hp => by obtain ⟨a, b⟩ := p; have := pairs5_mem.1 hp; omega)
   unfold passL
   rw [runN_append]
   refine ⟨k2, s.trans s2, fun a ha b hb hr => ?_⟩
   rcases hr with hr | ⟨c, hc, hr, hcb⟩
   · exact (r a ha b hb hr).trans (s2.le b (by omega))
   · have hne : c ≠ b := fun e => by subst e; exact hcb (h.ok.self c)
     exact (r a ha c hc hr).trans (r2 (c, b) (pairs5_mem.2 ⟨hc, hb, hne⟩) (by rw [s.co]; exact hcb))
theorem four_same {x : Net} {t : Nat} (h : Kn x t) (h5 : ∀ a b, x.co a b ≠ 0 -> b < 5) {a b : Nat} (ha : a < 5) (hab : Conn x.co a b) :
  ((runN x (passL 4)).nd a).st = ((runN x (passL 4)).nd b).st := by
 obtain ⟨k, s, r⟩ := pass_snt h 4
 obtain ⟨hb, _⟩ := rch_four h5 ha hab
 have key : ∀ a b, a < 5 -> b < 5 -> Conn x.co a b -> LeS ((runN x (passL 4)).nd a).st ((runN x (passL 4)).nd b).st := fun a b ha hb hab =>
  s.most a (by omega) _ (fun c hc hac => by
   obtain ⟨hc5, _⟩ := rch_four h5 ha hac
   have hcb : Conn x.co c b := (hac.symm h.ok.sym).trans hab
   exact r c hc5 b hb (rch_four h5 hc5 hcb).2)
 exact LeS.antisymm (k.ok.nd a (by omega)).st (k.ok.nd b (by omega)).st (key a b ha hb hab) (key b a hb ha (hab.symm h.ok.sym))
def tellsL (n : Nat) : List ActV := (List.range n).map tellC
def decidesL (n : Nat) : List ActV := (List.range n).map decideC
def settleL : List ActV := tellsL 5 ++ passL 4 ++ decidesL 5
theorem tellsL_succ (n : Nat) : tellsL (n + 1) = tellsL n ++ [tellC n] := by unfold tellsL; rw [zcb, zbf]; rfl
theorem decidesL_succ (n : Nat) : decidesL (n + 1) = decidesL n ++ [decideC n] := by unfold decidesL; rw [zcb, zbf]; rfl
theorem runN_snoc (x : Net) (l : List ActV) (c : ActV) : runN x (l ++ [c]) = (actS (runN x l) c).1 := by rw [runN_append]; rfl
structure Same3 (x y : Net) : Prop where
 co : y.co = x.co
 dr : ∀ i, (y.nd i).dr = (x.nd i).dr
 pf : ∀ i, (y.nd i).pf = (x.nd i).pf
theorem Same3.trans {x y z : Net} (h : Same3 x y) (g : Same3 y z) : Same3 x z := ⟨g.co.trans h.co, fun i => (g.dr i).trans (h.dr i), fun i => (g.pf i).trans (h.pf i)⟩
theorem Same3.told {x y : Net} (h : Same3 x y) {a : Nat} {l : List Entry} (ht : Told x a l) : Told y a l := by
 have hA : tellA y a = tellA x a := by unfold tellA; rw [h.co, h.dr]
 have hP : tellP y a = tellP x a := by unfold tellP; rw [h.pf]
 unfold Told; rw [hA, hP]; exact ht
theorem Told.of_find {x : Net} {a : Nat} {l m : List Entry} (ha : a < 5) (h : Told x a l) (hf : ∀ k, ownKey k a -> findE m k = findE l k) : Told x a m := by
 obtain ⟨⟨e, h1, h2, h3⟩, ⟨f, g1, g2, g3⟩⟩ := h
 exact ⟨⟨e, by rw [hf _ ⟨ha, .inl rfl⟩]; exact h1, h2, h3⟩, ⟨f, by rw [hf _ ⟨ha, .inr rfl⟩]; exact g1, g2, g3⟩⟩
theorem same3_set (x : Net) (a : Nat) (y : Nd) (h1 : y.dr = (x.nd a).dr) (h2 : y.pf = (x.nd a).pf) : Same3 x (x.setN a y) := by
 refine ⟨rfl, fun i => ?_, fun i => ?_⟩
 · by_cases e : i = a
   · subst e; rw [setN_same, h1]
   · rw [setN_other _ _ e]
 · by_cases e : i = a
   · subst e; rw [setN_same, h2]
   · rw [setN_other _ _ e]
theorem tells_cur {x : Net} {t : Nat} (h : Kn x t) (ht : t <= 800000) : ∀ n, n <= 5 -> Kn (runN x (tellsL n)) (t + 2 * n) /\ Same3 x (runN x (tellsL n)) /\ ∀ a, a < n -> Told x a ((runN x (tellsL n)).nd a).st
 | 0, _ => ⟨h, ⟨rfl, fun _ => rfl, fun _ => rfl⟩, fun a ha => by omega⟩
 | n + 1, hn => by
   obtain ⟨k, s, r⟩ := tells_cur h ht n (by omega)
   obtain ⟨l, ks, p⟩ := tell_it k (a := n) (by omega) (by omega)
   have e : runN x (tellsL (n + 1)) = (runN x (tellsL n)).setN n { (runN x (tellsL n)).nd n with st := l } := by
    rw [tellsL_succ, runN_snoc, act_tell _ (by omega), p.eq]
   have k2 := tell_kn k (a := n) (by omega) (by omega)
   rw [p.eq] at k2
   have s2 := same3_set (runN x (tellsL n)) n { (runN x (tellsL n)).nd n with st := l } rfl rfl
   rw [e]
   refine ⟨k2.mono (by omega), s.trans s2, fun a ha => ?_⟩
   by_cases ea : a = n
   · subst ea
     rw [setN_same]
     exact Same3.told ⟨s.co.symm, fun i => (s.dr i).symm, fun i => (s.pf i).symm⟩ p.told
   · rw [setN_other _ _ ea]
     exact r a (by omega)
theorem decides_tb (x : Net) : ∀ n, n <= 5 -> Same3 x (runN x (decidesL n)) /\ (∀ i, ((runN x (decidesL n)).nd i).st = (x.nd i).st) /\ ∀ a, a < n -> ((runN x (decidesL n)).nd a).tb = tabTo (x.nd a).st a 12
 | 0, _ => ⟨⟨rfl, fun _ => rfl, fun _ => rfl⟩, fun _ => rfl, fun a ha => by omega⟩
 | n + 1, hn => by
   obtain ⟨s, r, q⟩ := decides_tb x n (by omega)
   have e : runN x (decidesL (n + 1)) = decideS (runN x (decidesL n)) n := by rw [decidesL_succ, runN_snoc, act_decide _ (by omega)]
   rw [e]
   unfold decideS
   refine ⟨s.trans (same3_set _ _ _ (by rfl) (by rfl)), fun i => (st_set _ _ _ (by rfl) i).trans (r i), fun a ha => ?_⟩
   by_cases ea : a = n
   · subst ea; rw [setN_same, r a]
   · rw [setN_other _ _ ea]; exact q a (by omega)
structure Stl (z : Net) (t : Nat) : Prop where
 kn : Kn z t
 five : ∀ a b, z.co a b ≠ 0 -> b < 5
 told : ∀ a, a < 5 -> Told z a (z.nd a).st
 same : ∀ a b, a < 5 -> Conn z.co a b -> (z.nd a).st = (z.nd b).st
 tb : ∀ a, a < 5 -> (z.nd a).tb = tabTo (z.nd a).st a 12
theorem settle_stl {x : Net} {t : Nat} (h : Kn x t) (ht : t <= 800000) (h5 : ∀ a b, x.co a b ≠ 0 -> b < 5) : Stl (runN x settleL) (t + 10) /\ Same3 x (runN x settleL) := by
 obtain ⟨k1, s1, r1⟩ := tells_cur h ht 5 (zab _)
 obtain ⟨k2, s2, _⟩ := pass_snt k1 4
 have hsame := fun a b ha hab => four_same k1 (fun a b hc => h5 a b (by rw [s1.co] at hc; exact hc)) (a := a) (b := b) ha hab
 obtain ⟨s3, r3, q3⟩ := decides_tb (runN (runN x (tellsL 5)) (passL 4)) 5 (zab _)
 have e : runN x settleL = runN (runN (runN x (tellsL 5)) (passL 4)) (decidesL 5) := by unfold settleL; rw [runN_append, runN_append]
 have s12 : Same3 x (runN (runN x (tellsL 5)) (passL 4)) := s1.trans ⟨s2.co, s2.dr, s2.pf⟩
 have hco : (runN x settleL).co = x.co := by rw [e]; exact (s12.trans s3).co
 have hok : NetOk (runN x settleL) := run_ok _ h.ok
 rw [e] at hco hok ⊢
 refine ⟨⟨(k2.congr hok r3).mono (by omega), fun a b hc => h5 a b (by rw [hco] at hc; exact hc), fun a ha => ?_, fun a b ha hab => ?_, fun a ha => ?_⟩, s12.trans s3⟩
 · refine (s12.trans s3).told ?_
   rw [r3]
   exact (r1 a ha).of_find ha (fun k hk => s2.own a (by omega) k hk)
 · rw [r3, r3]
   exact hsame a b ha (by rw [hco] at hab; rw [s1.co]; exact hab)
 · rw [q3 a ha, r3]
theorem setN_id (x : Net) (a : Nat) (y : Nd) (h : y = x.nd a) : x.setN a y = x := by
 subst h
 unfold Net.setN
 have : (fun i => if i = a then x.nd a else x.nd i) = x.nd := by
  funext i
  by_cases e : i = a
  · subst e; rw [if_pos rfl]
  · rw [if_neg e]
 rw [this]
theorem act_five {x : Net} (h : ∀ a b, x.co a b ≠ 0 -> b < 5) {c : ActV} (hc : Tame c) : ∀ a b, (actS x c).1.co a b ≠ 0 -> b < 5 := by
 have hl : ∀ n, ∀ a b, (linkS x c.a.toNat c.b n).1.co a b ≠ 0 -> b < 5 := by
  intro n a b
  have h1 := hc.a1
  have h2 := hc.b1
  unfold linkS
  split
  · exact h a b
  · split
    · exact h a b
    · split
      · exact h a b
      · show updC _ _ _ _ a b ≠ 0 -> b < 5
        unfold updC
        split
        · intro _; omega
        · split
          · intro _; omega
          · exact h a b
 rcases act_cases x c with e | e | ⟨i, k, ea, ha, ek, k1, k2, e⟩
 · rw [e]; exact h
 · rw [e]; exact h
 · have ei : c.a.toNat = i := by omega
   rw [ei] at hl
   rw [e]
   rcases k_cases k1 k2 with rfl | rfl | rfl | rfl | rfl | rfl | rfl | rfl | rfl | rfl
   · rw [actK_1]; split
     · exact hl _
     · exact h
   · exact hl _
   · rw [actK_3]; split
     · exact h
     · exact h
   · intro a b; show (giveS x i c.pre).1.co a b ≠ 0 -> _; unfold giveS; split
     · exact h a b
     · split
       · exact h a b
       · exact h a b
   · intro a b; show (takeS x i c.pre).1.co a b ≠ 0 -> _; unfold takeS; split
     · exact h a b
     · exact h a b
   · intro a b; show (tellS x i).1.co a b ≠ 0 -> _; unfold tellS; split
     · exact h a b
     · split
       · exact h a b
       · exact h a b
   · intro a b; show (sendS x i c.b c.n).1.co a b ≠ 0 -> _; unfold sendS; split
     · exact h a b
     · split
       · exact h a b
       · split
         · exact h a b
         · exact h a b
   · intro a b; show (writeS x i c.key c.value).1.co a b ≠ 0 -> _; unfold writeS; split
     · exact h a b
     · exact h a b
   · exact h
   · exact h
theorem run_five : ∀ (l : List ActV) {x : Net}, (∀ a b, x.co a b ≠ 0 -> b < 5) -> (∀ c ∈ l, Tame c) -> ∀ a b, (runS x l).1.co a b ≠ 0 -> b < 5
 | [], _, h, _ => h
 | c :: l, _, h, hc => run_five l (act_five h (hc c (by simp))) (fun d hd => hc d (by simp [hd]))
theorem acts_stl {l : List ActV} (hl : ∀ c ∈ l, Tame c) (hn : l.length <= 1000) : Stl (runN net0 (l ++ settleL)) (2 * l.length + 10) /\ Same3 (runN net0 l) (runN net0 (l ++ settleL)) := by
 have k := run_kn l kn0 hl (by omega)
 have h5 := run_five l (x := net0) (fun a b h => absurd rfl h) hl
 rw [runN_append]
 have := settle_stl k (by omega) h5
 rw [zaM] at this
 exact this
end
end Go.Proofs.YtojojpjldkpmoaaGreatDoor
