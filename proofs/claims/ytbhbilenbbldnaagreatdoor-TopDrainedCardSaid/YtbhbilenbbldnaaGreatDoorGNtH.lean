/-
  
-/
import Derived.Test.YtbhbilenbbldnaaGreatDoorGNtF
import Derived.Test.YtbhbilenbbldnaaGreatDoorGTpD
import Derived.Test.YtbhbilenbbldnaaGreatDoorGTaE
set_option linter.unusedVariables false
set_option linter.unusedSimpArgs false
set_option maxHeartbeats 16000000
namespace Go.Proofs.YtbhbilenbbldnaaGreatDoor
section
open Go
theorem look_tab (S : List Entry) {a : Nat} (ha : a < 12) {addr : Int} (h2 : 0 <= addr /\ addr <= 255) :
  (lookS (tabTo S a 12) addr = (zeroR, 6) /\ ∀ k, k < 12 -> ∀ p ∈ prefsAt S k, matchP addr p = true -> (wayTo S a k).cost < 0) ∨
  ∃ r, lookS (tabTo S a 12) addr = (r, 0) /\ matchP addr r.pre = true /\ refRoute S a r.pre = some r /\ GoodR r /\
    ∀ k, k < 12 -> ∀ p ∈ prefsAt S k, matchP addr p = true -> 0 <= (wayTo S a k).cost -> p.bits < r.pre.bits ∨ (p.bits = r.pre.bits /\ r.cost <= (wayTo S a k).cost) := by
 have hin : ∀ r ∈ tabTo S a 12, refRoute S a r.pre = some r := fun r hr => by
  rw [<- tab_at ha]; exact mem_atP (sorted_tab S a 12) hr
 have hback : ∀ p r, refRoute S a p = some r -> r ∈ tabTo S a 12 := fun p r h => by
  rw [<- tab_at ha] at h; exact (atP_mem h).1
 rcases look_cases (t := tabTo S a 12) (chk_tab ha) h2 with ⟨h3, h4⟩ | ⟨r, h3, h4, h5, h6⟩
 · left
   refine ⟨h3, fun k hk p hp hm => ?_⟩
   rcases Int.lt_or_le (wayTo S a k).cost 0 with h | h
   · exact h
   · obtain ⟨r, hr⟩ := ref_some (s := a) hk hp h
     have := h4 r (hback p r hr)
     unfold matchR at this
     rw [(ref_least ha hr).1] at this
     unfold matchP at hm
     rw [hm] at this; cases this
 · right
   refine ⟨r, h3, h5, hin r h4, good_tab ha 12 (zab _) r h4, fun k hk p hp hm h0 => ?_⟩
   obtain ⟨q, hq⟩ := ref_some (s := a) hk hp h0
   obtain ⟨hqp, _, hql, _⟩ := ref_least ha hq
   have hqm : matchR addr q = true := by unfold matchR; rw [hqp]; exact hm
   have hle := h6 q (hback p q hq) hqm
   rw [hqp] at hle
   rcases Int.lt_or_eq_of_le hle with h | h
   · exact .inl h
   · right
     have hpe : q.pre = r.pre := match_pre hqm h5 (by rw [hqp]; exact h)
     refine ⟨h, ?_⟩
     have := hin r h4
     rw [<- hpe, hqp, hq] at this
     injection this with this
     rw [<- this]
     exact hql k hk hp h0
theorem ref_hop {S : List Entry} {a : Nat} {p : Prefix} {r : Route} (h : refRoute S a p = some r) (hh : r.here = false) {y : Int} (hy : y ∈ r.hops) :
  ∃ k n : Nat, y = k /\ k < 12 /\ n < 12 /\ k ≠ a /\ linkC S a k ≠ 0 /\ p ∈ prefsAt S n /\ 0 < r.cost /\
    (n = k ∨ ((adjAt S k).1 = false /\ 0 <= (wayTo S k n).cost /\ (wayTo S k n).cost < r.cost)) := by
 unfold refRoute at h
 split at h
 · injection h with h; subst h; cases hh
 · split at h
   · cases h
   · rename_i hc
     injection h with h; subst h
     simp only at hy ⊢
     rw [refHops_filter] at hy
     obtain ⟨hm, hf⟩ := zaV.1 hy
     obtain ⟨k, hk, rfl⟩ := zaX.1 hm
     have hk12 := zbf.1 hk
     have hhas : ∀ n, refHas S a p (refCost S a p 12) (k : Int) n = true -> ∃ m, m < n /\ atN S a p (refCost S a p 12) (k : Int) m = true := by
      intro n
      induction n with
      | zero => intro h; cases h
      | succ n ih =>
        intro h
        unfold refHas at h
        rcases Bool.or_eq_true_iff.1 h with h | h
        · obtain ⟨m, h1, h2⟩ := ih h; exact ⟨m, by omega, h2⟩
        · exact ⟨n, by omega, h⟩
     obtain ⟨n, hn, hat⟩ := hhas 12 hf
     unfold atN at hat
     simp only [Bool.and_eq_true, decide_eq_true_eq] at hat
     obtain ⟨⟨⟨hna, hcost⟩, hin⟩, hcon⟩ := hat
     have hw : (wayTo S a n).hops = hopsFor S a n (wayTo S a n).cost 12 := by unfold wayTo; rw [if_neg hna]
     rw [zbU, hw] at hcon
     unfold hopsFor at hcon
     rw [if_neg (by omega), hopsTo_list] at hcon
     obtain ⟨_, hbest⟩ := zaV.1 hcon
     have hbest := of_decide_eq_true hbest
     rcases cost_cases S hna with ⟨r1, _⟩ | ⟨m, r1, r2⟩
     · omega
     · rw [r1] at hbest
       have hpth := (best_iff S r2 k).1 hbest
       obtain ⟨j, hj, hj12, hja, hjc, _⟩ := hpth.first
       have hj : j = k := hj
       subst hj
       have hpos : 0 < linkC S a j := by omega
       obtain ⟨d1, d2⟩ := path_down hpth
       refine ⟨j, n, rfl, hj12, hn, hja, hjc, (inP_iff _ _).1 hin, ?_, ?_⟩
       · have := hpth.lt.2.2; omega
       · by_cases e : n = j
         · exact .inl e
         · right
           obtain ⟨g1, c', g2, g3⟩ := d2 e
           refine ⟨g1, ?_⟩
           rcases cost_cases S (s := j) (i := n) e with ⟨q1, q2⟩ | ⟨m', q1, q2⟩
           · exact absurd g2 (q2 c')
           · have := q2.2 c' g2; omega
def far (r : Route) : Int := r.pre.bits * 2097152 - r.cost
theorem step_on {S : List Entry} {a : Nat} (ha : a < 12) {addr : Int} (h2 : 0 <= addr /\ addr <= 255) {r : Route} (hl : lookS (tabTo S a 12) addr = (r, 0)) (hh : r.here = false) {y : Int} (hy : y ∈ r.hops) :
  ∃ k : Nat, y = k /\ k < 12 /\ k ≠ a /\ linkC S a k ≠ 0 /\ (∃ q, lookS (tabTo S k 12) addr = (q, 0) /\ far r < far q) /\ ((adjAt S k).1 = true -> ∃ p ∈ prefsAt S k, matchP addr p = true) := by
 rcases look_tab S ha h2 with ⟨h3, _⟩ | ⟨r', h3, h4, h5, h6, h7⟩
 · rw [hl] at h3; cases h3
 · rw [hl] at h3
   injection h3 with h3 _
   subst h3
   obtain ⟨k, n, hyk, hk, hn, hka, hlk, hp, hpos, hor⟩ := ref_hop h5 hh hy
   refine ⟨k, hyk, hk, hka, hlk, ?_, fun hd => ?_⟩
   · have hway : 0 <= (wayTo S k n).cost /\ (wayTo S k n).cost < r.cost := by
      rcases hor with e | ⟨_, g2, g3⟩
      · subst e; rw [way_self]; omega
      · exact ⟨g2, g3⟩
     rcases look_tab S hk h2 with ⟨g3, g4⟩ | ⟨q, g3, g4, g5, g6, g7⟩
     · have := g4 n hn _ hp h4; omega
     · refine ⟨q, g3, ?_⟩
       have hb := g6.c1
       have hb0 := g6.c0
       have hr := h6.c1
       have hr0 := h6.c0
       unfold far
       rcases g7 n hn _ hp h4 hway.1 with h | ⟨h, h'⟩
       · omega
       · omega
   · rcases hor with e | ⟨g1, _⟩
     · subst e; exact ⟨_, hp, h4⟩
     · rw [g1] at hd; cases hd
theorem Stl.own {z : Net} {t : Nat} (h : Stl z t) {a : Nat} (ha : a < 5) : adjAt (z.nd a).st a = ((z.nd a).dr, sidesTo (z.co a) 12) /\ prefsAt (z.nd a).st a = (z.nd a).pf := by
 obtain ⟨⟨e, h1, h2, h3⟩, ⟨f, g1, g2, g3⟩⟩ := h.told a ha
 have hc := sidesTo_chk (fun b => h.kn.ok.co a b)
 have hp := (h.kn.ok.nd a (by omega)).pf
 constructor
 · unfold adjAt
   rw [h1]
   simp only
   rw [h2]
   unfold tellA
   rw [bOf_list, adj_read hc]
 · unfold prefsAt
   rw [g1]
   simp only
   rw [g2]
   unfold tellP
   rw [bOf_list, prefs_read hp]
theorem side_pos {f : Nat -> Int} {k : Nat} (h : sideC (sidesTo f 12) (k : Int) ≠ 0) : f k ≠ 0 := by
 intro e
 apply h
 unfold sideC
 split
 · rename_i s hs
   obtain ⟨i, hi, hp, rfl⟩ := sidesTo_mem.1 (zcj hs)
   have hk0 := List.find?_some hs
   have hk : (i : Int) = k := by simpa using hk0
   have : i = k := by omega
   subst this; omega
 · rfl
theorem Stl.line {z : Net} {t : Nat} (h : Stl z t) {a k : Nat} (ha : a < 5) (hl : linkC (z.nd a).st a k ≠ 0) : z.co a k ≠ 0 := by
 unfold linkC at hl
 split at hl
 · exact absurd rfl hl
 · have : sideC (adjAt (z.nd a).st a).2 (k : Int) ≠ 0 := fun e => hl (by rw [e]; rfl)
   rw [(h.own ha).1] at this
   exact side_pos this
theorem walk_go {z : Net} {t : Nat} (h : Stl z t) {addr : Int} (h2 : 0 <= addr /\ addr <= 255) (pick : Nat) : ∀ (f : Nat) (path : List Int) (cost : Int) (a : Nat) (r : Route), a < 5 -> lookS (z.nd a).tb addr = (r, 0) ->
  path.length + f = 14 -> (∃ base, path = base ++ [(a : Int)]) -> path.Nodup -> (∀ y ∈ path, 0 <= y /\ y < 5 /\ ∃ q, lookS (z.nd y.toNat).tb addr = (q, 0) /\ far q <= far r) ->
  ∃ l c, walkGo z addr pick f path cost a = (path ++ l, c, 0) /\
    (r.here = true -> l = []) /\ (r.here = false -> ∃ l', l = r.hops.getD (pick % r.hops.length) 0 :: l') /\
    (∀ y ∈ l, 0 <= y /\ y < 5) /\ (∃ e : Nat, e < 5 /\ (path ++ l).getLast? = some (e : Int) /\ ∃ p ∈ (z.nd e).pf, matchP addr p = true) /\
    (∀ y ∈ l, (z.nd y.toNat).dr = true -> ∃ p ∈ (z.nd y.toNat).pf, matchP addr p = true) := by
 intro f
 induction f with
 | zero =>
   intro path cost a r ha hl hlen hb hnd hall
   have := nodup_len (m := [(0 : Int), 1, 2, 3, 4]) hnd (fun y hy => by
    obtain ⟨h0, h1, _⟩ := hall y hy
    simp; omega)
   simp at this; omega
 | succ f ih =>
   intro path cost a r ha hl hlen hb hnd hall
   have ha12 : a < 12 := by omega
   have htb := h.tb a ha
   have hl' := hl
   rw [htb] at hl'
   obtain ⟨base, hbase⟩ := hb
   unfold walkGo
   simp only [hl]
   rw [if_neg (by simp)]
   cases hh : r.here with
   | true =>
     refine ⟨[], cost, by simp, fun _ => rfl, fun h => (by cases h), fun y hy => (by cases hy), ⟨a, ha, ?_, ?_⟩, fun y hy => (by cases hy)⟩
     · rw [hbase]; simp
     · rcases look_tab (z.nd a).st ha12 h2 with ⟨h3, _⟩ | ⟨r', h3, h4, h5, _, _⟩
       · rw [hl'] at h3; cases h3
       · rw [hl'] at h3
         injection h3 with h3 _
         subst h3
         unfold refRoute at h5
         split at h5
         · rename_i hin
           refine ⟨r.pre, ?_, h4⟩
           rw [<- (h.own ha).2]
           exact (inP_iff _ _).1 hin
         · split at h5
           · cases h5
           · injection h5 with h5
             rw [<- h5] at hh; cases hh
   | false =>
     have hplen := nodup_len (m := [(0 : Int), 1, 2, 3, 4]) hnd (fun y hy => by
      obtain ⟨h0, h1, _⟩ := hall y hy
      simp; omega)
     have hplen' : path.length <= 5 := hplen
     have hne : r.hops ≠ [] := by
      rcases look_tab (z.nd a).st ha12 h2 with ⟨h3, _⟩ | ⟨r', h3, _, _, g, _⟩
      · rw [hl'] at h3; cases h3
      · rw [hl'] at h3
        injection h3 with h3 _
        subst h3
        rcases g.kind with ⟨e, _⟩ | ⟨_, e⟩
        · rw [hh] at e; cases e
        · exact e
     have hmod : pick % r.hops.length < r.hops.length := Nat.mod_lt _ (List.length_pos_iff.2 hne)
     obtain ⟨y, hy⟩ : ∃ y, y = r.hops.getD (pick % r.hops.length) 0 := ⟨_, rfl⟩
     have hym : y ∈ r.hops := by
      rw [hy, zaj, zac hmod]; exact zap hmod
     obtain ⟨k, rfl, hk12, hka, hlk, ⟨q, hq, hfar⟩, hdr⟩ := step_on ha12 h2 hl' hh hym
     have hco := h.line ha hlk
     have hk5 := h.five a k hco
     have hst := h.same a k ha (.step (.refl a) hco)
     rw [hst] at hq hdr
     have hq' : lookS (z.nd k).tb addr = (q, 0) := by rw [h.tb k hk5]; exact hq
     rw [<- hy]
     rw [if_neg (by simp), if_neg (by omega), if_neg (by simpa using hco)]
     have hnew : (k : Int) ∉ path := fun hm => by
      obtain ⟨_, _, q', hq2, hf2⟩ := hall _ hm
      have : ((k : Int)).toNat = k := by omega
      rw [this, hq'] at hq2
      injection hq2 with hq2 _
      subst hq2; omega
     obtain ⟨l, c, g1, g2, g3, g4, g5, g6⟩ := ih (path ++ [(k : Int)]) (cost + z.co a ((k : Int)).toNat) k q hk5 hq' (by rw [zag]; simp; omega) ⟨path, rfl⟩
      (by rw [List.nodup_append]; exact ⟨hnd, by simp, fun x hx y hy e => by rw [zaU] at hy; subst hy; subst e; exact hnew hx⟩)
      (fun y hy => by
       rcases zaB.1 hy with hy | hy
       · obtain ⟨h0, h1, q2, hq2, hf2⟩ := hall y hy
         exact ⟨h0, h1, q2, hq2, by omega⟩
       · rw [zaU] at hy
         subst hy
         exact ⟨by omega, by omega, q, by rw [show ((k : Int)).toNat = k by omega]; exact hq', zbF _⟩)
     refine ⟨(k : Int) :: l, c, ?_, fun h => (by cases h), fun _ => ⟨l, rfl⟩, fun y hy => ?_, ?_, fun y hy => ?_⟩
     · rw [show ((k : Int)).toNat = k by omega] at g1 ⊢
       rw [g1]; simp
     · rcases zaA.1 hy with e | hy
       · subst e; omega
       · exact g4 y hy
     · rw [zaQ] at g5
       exact g5
     · rcases zaA.1 hy with e | hy
       · subst e
         rw [show ((k : Int)).toNat = k by omega]
         intro hd
         obtain ⟨p, hp, hm⟩ := hdr (by rw [(h.own hk5).1]; exact hd)
         exact ⟨p, by rw [<- (h.own hk5).2]; exact hp, hm⟩
       · exact g6 y hy
theorem walk_find {z : Net} {t : Nat} (h : Stl z t) {a : Nat} (ha : a < 5) {addr : Int} (h2 : 0 <= addr /\ addr <= 255) (pick : Nat) :
  (lookS (tabTo (z.nd a).st a 12) addr = (zeroR, 6) /\ walkS z a addr pick = ([], 0, 6)) ∨
  ∃ r l c, lookS (tabTo (z.nd a).st a 12) addr = (r, 0) /\ walkS z a addr pick = ((a : Int) :: l, c, 0) /\
    (r.here = true -> l = []) /\ (r.here = false -> ∃ l', l = r.hops.getD (pick % r.hops.length) 0 :: l') /\
    (∀ y ∈ l, 0 <= y /\ y < 5) /\ (∃ e : Nat, e < 5 /\ ((a : Int) :: l).getLast? = some (e : Int) /\ ∃ p ∈ (z.nd e).pf, matchP addr p = true) /\
    (∀ y ∈ l, (z.nd y.toNat).dr = true -> ∃ p ∈ (z.nd y.toNat).pf, matchP addr p = true) := by
 have htb := h.tb a ha
 have hp : ((pick : Int)).toNat = pick := by omega
 rcases look_tab (z.nd a).st (by omega : a < 12) h2 with ⟨h3, _⟩ | ⟨r, h3, _⟩
 · left
   refine ⟨h3, ?_⟩
   unfold walkS
   rw [if_neg (by omega), hp]
   unfold walkGo
   rw [htb, h3]
   simp
 · right
   obtain ⟨l, c, g⟩ := walk_go h h2 pick 13 [(a : Int)] 0 a r ha (by rw [htb]; exact h3) rfl ⟨[], rfl⟩ (by simp) (fun y hy => by
    rw [zaU] at hy
    subst hy
    exact ⟨by omega, by omega, r, by rw [show ((a : Int)).toNat = a by omega, htb]; exact h3, zbF _⟩)
   refine ⟨r, l, c, h3, ?_, g.2⟩
   unfold walkS
   rw [if_neg (by omega), hp]
   exact g.1
def lineS (C : Nat -> Nat -> Int) (c : ActV) (code : Int) : Nat -> Nat -> Int :=
 if code ≠ 0 then C else
 if c.kind = 1 then updC (updC C c.a.toNat c.b.toNat c.n) c.b.toNat c.a.toNat c.n else
 if c.kind = 2 then updC (updC C c.a.toNat c.b.toNat 0) c.b.toNat c.a.toNat 0 else C
def linesS : (Nat -> Nat -> Int) -> List ActV -> List Rpl -> Nat -> Nat -> Int
 | C, c :: l, r :: rs => linesS (lineS C c r.code) l rs
 | C, _, _ => C
theorem lineS_bad {C : Nat -> Nat -> Int} {c : ActV} {code : Int} (h : code ≠ 0) : lineS C c code = C := by unfold lineS; rw [if_pos h]
theorem lineS_else {C : Nat -> Nat -> Int} {c : ActV} {code : Int} (h1 : c.kind ≠ 1) (h2 : c.kind ≠ 2) : lineS C c code = C := by
 unfold lineS
 rw [if_neg h1, if_neg h2]
 split <;> rfl
theorem link_co (x : Net) (a : Nat) (b c : Int) : (linkS x a b c).1.co = if (linkS x a b c).2 ≠ 0 then x.co else updC (updC x.co a b.toNat c) b.toNat a c := by
 unfold linkS
 split
 · rfl
 · split
   · rfl
   · split
     · rfl
     · rfl
theorem give_co (x : Net) (a : Nat) (p : Prefix) : (giveS x a p).1.co = x.co := by
 unfold giveS
 split
 · rfl
 · split <;> rfl
theorem take_co (x : Net) (a : Nat) (p : Prefix) : (takeS x a p).1.co = x.co := by
 unfold takeS
 split <;> rfl
theorem tell_co (x : Net) (a : Nat) : (tellS x a).1.co = x.co := by
 unfold tellS
 split
 · rfl
 · split <;> rfl
theorem send_co (x : Net) (a : Nat) (b n : Int) : (sendS x a b n).1.co = x.co := by
 unfold sendS
 split
 · rfl
 · split
   · rfl
   · split <;> rfl
theorem write_co (x : Net) (a : Nat) (k v : ByteArray) : (writeS x a k v).1.co = x.co := by
 unfold writeS
 split <;> rfl
theorem act_line (x : Net) (c : ActV) : (actS x c).1.co = lineS x.co c (actS x c).2.code := by
 rcases act_cases x c with h | h | ⟨a, k, ha, ha2, hk, h1, h2, h⟩
 · rw [h]; exact (lineS_bad (by show (3 : Int) ≠ 0; decide)).symm
 · rw [h]; exact (lineS_bad (by show (2 : Int) ≠ 0; decide)).symm
 · rw [h]
   have hat : c.a.toNat = a := by omega
   rcases k_cases h1 h2 with rfl | rfl | rfl | rfl | rfl | rfl | rfl | rfl | rfl | rfl
   · rw [actK_1]
     split
     · show (linkS x a c.b c.n).1.co = lineS x.co c (linkS x a c.b c.n).2
       rw [link_co]
       unfold lineS
       rw [if_pos (show c.kind = 1 from hk), hat]
     · exact (lineS_bad (by show (2 : Int) ≠ 0; decide)).symm
   · show (linkS x a c.b 0).1.co = lineS x.co c (linkS x a c.b 0).2
     rw [link_co]
     unfold lineS
     rw [if_neg (show ¬ c.kind = 1 by omega), if_pos (show c.kind = 2 from hk), hat]
   all_goals rw [lineS_else (by omega) (by omega)]
   · rw [actK_3]
     split <;> rfl
   · exact give_co x a c.pre
   · exact take_co x a c.pre
   · exact tell_co x a
   · exact send_co x a c.b c.n
   · exact write_co x a c.key c.value
   · rfl
   · rfl
theorem run_lines : ∀ (l : List ActV) (x : Net), linesS x.co l (runS x l).2 = (runS x l).1.co
 | [], _ => rfl
 | c :: l, x => by
   show linesS (lineS x.co c (actS x c).2.code) l (runS (actS x c).1 l).2 = (runS (actS x c).1 l).1.co
   rw [<- act_line]
   exact run_lines l (actS x c).1
end
end Go.Proofs.YtbhbilenbbldnaaGreatDoor
