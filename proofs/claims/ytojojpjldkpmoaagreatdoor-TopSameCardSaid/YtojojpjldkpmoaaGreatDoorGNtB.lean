/-
  
-/
import Derived.Test.YtojojpjldkpmoaaGreatDoorGNtA
set_option linter.unusedVariables false
set_option linter.unusedSimpArgs false
set_option maxHeartbeats 16000000
namespace Go.Proofs.YtojojpjldkpmoaaGreatDoor
open Go
theorem prefs_chk_of {l : List Prefix} (h1 : l.length <= 6) (h2 : ∀ p ∈ l, prefBad p = 0) (h3 : l.Pairwise (fun a b => prefOrd a b = true)) : chkPrefs l = 0 := by
 unfold chkPrefs
 rw [if_neg (by omega)]
 exact seq_zero l h2 h3 _ _
theorem putS_ok {st : List Entry} (h : OkS st) {a : Int} {key value : ByteArray} (h2 : (putS st a key value).2 = 0) : OkS (putS st a key value).1 := by
 have hc := h.check
 by_cases n : a < 0 ∨ 11 < a
 · rw [put_node hc n] at h2; cases h2
 · have n' : 0 <= a /\ a <= 11 := by omega
   by_cases k : keyOk key = false
   · rw [put_key hc n' k] at h2; cases h2
   · have k' : keyOk key = true := by simpa using k
     by_cases z : 120 < value.size
     · rw [put_size hc n' k' z] at h2; cases h2
     · have z' : value.size <= 120 := by omega
       rcases hf : findE st key with _ | e
       · have hh : hasE st key = false := by
          rw [Bool.eq_false_iff]; intro e
          obtain ⟨hl, hk⟩ := (hasE_iff h.ord key).1 e
          rw [findE_some h.ord key hl hk] at hf; cases hf
         by_cases f : 60 <= st.length
         · rw [put_full hc n' k' z' hh f] at h2; cases h2
         · rw [put_new hc n' k' z' hh (by omega)]
           refine withE_ok h ?_ (.inr (by omega))
           unfold entryOk
           simp only [k', Bool.true_and, Bool.and_eq_true, decide_eq_true_eq]
           omega
       · by_cases v : e.version = 1099511627776
         · rw [put_most hc n' k' z' hf v] at h2; cases h2
         · rw [put_old hc n' k' z' hf v]
           refine withE_ok h ?_ (.inl (hasE_find hf))
           have he := h.ok e (findE_key hf).2
           obtain ⟨_, _, e3, e4, _⟩ := entryOk_bounds he
           unfold entryOk
           simp only [k', Bool.true_and, Bool.and_eq_true, decide_eq_true_eq]
           omega
theorem putO_ok {st : List Entry} (h : OkS st) (a : Nat) (key value : ByteArray) : OkS (putO st a key value).1 := by
 unfold putO
 split
 · exact h
 · split
   · exact h
   · rename_i _ h2
     exact putS_ok h (by simpa using h2)
theorem link_ok {x : Net} (h : NetOk x) (a : Nat) (b c : Int) : NetOk (linkS x a b c).1 := by
 unfold linkS
 split
 · exact h
 · rename_i h1
   split
   · exact h
   · rename_i h2
     split
     · exact h
     · refine ⟨h.nd, fun p q => ?_, fun p q => ?_, fun p => ?_⟩
       · show 0 <= updC _ _ _ _ p q /\ updC _ _ _ _ p q <= 1000
         unfold updC
         have := h.co p q
         have h1' := not_or.1 h1
         have h1'' := not_or.1 h1'.2
         split
         · omega
         · split
           · omega
           · exact this
       · show updC _ _ _ _ p q = updC _ _ _ _ q p
         unfold updC
         have := h.sym p q
         by_cases e1 : p = b.toNat /\ q = a
         · rw [if_pos e1]
           by_cases e2 : q = b.toNat /\ p = a
           · rw [if_pos e2]
           · rw [if_neg e2, if_pos ⟨e1.2, e1.1⟩]
         · rw [if_neg e1]
           by_cases e2 : q = b.toNat /\ p = a
           · rw [if_pos e2, if_pos ⟨e2.2, e2.1⟩]
           · rw [if_neg e2, if_neg (fun e => e2 ⟨e.2, e.1⟩), if_neg (fun e => e1 ⟨e.2, e.1⟩)]
             exact this
       · show updC _ _ _ _ p p = 0
         unfold updC
         have h1' := not_or.1 h1
         have hb := (isN_iff b).1 (by simpa using h1'.1)
         rw [if_neg (by omega), if_neg (by omega)]
         exact h.self p
theorem give_ok {x : Net} (h : NetOk x) {a : Nat} (ha : a < 12) (p : Prefix) : NetOk (giveS x a p).1 := by
 unfold giveS
 split
 · exact h
 · split
   · exact h
   · rename_i h2
     exact h.setN ⟨(h.nd a ha).st, by simpa using h2, (h.nd a ha).tb⟩
theorem take_ok {x : Net} (h : NetOk x) {a : Nat} (ha : a < 12) (p : Prefix) : NetOk (takeS x a p).1 := by
 unfold takeS
 split
 · obtain ⟨h1, h2, h3⟩ := prefs_fine (h.nd a ha).pf
   exact h.setN ⟨(h.nd a ha).st, prefs_chk_of (zaz (zbP _ _) h1) (fun q hq => h2 q (zaY.1 hq).1) (h3.sublist List.filter_sublist), (h.nd a ha).tb⟩
 · exact h
theorem tell_ok {x : Net} (h : NetOk x) {a : Nat} (ha : a < 12) : NetOk (tellS x a).1 := by
 unfold tellS
 split
 · exact h
 · split
   · exact h
   · exact h.setN ⟨putO_ok (putO_ok (h.nd a ha).st _ _ _) _ _ _, (h.nd a ha).pf, (h.nd a ha).tb⟩
theorem send_ok {x : Net} (h : NetOk x) (a : Nat) (b n : Int) : NetOk (sendS x a b n).1 := by
 unfold sendS
 split
 · exact h
 · rename_i hb
   obtain ⟨b0, b1⟩ := (isN_iff b).1 (by simpa using hb)
   have hb12 : b.toNat < 12 := by omega
   split
   · exact h
   · split
     · exact h
     · rename_i h2
       have hd : (decS (wireB (x.nd a).st n)).2 = 0 := by simpa using h2
       have hk := (decS_ok (b := wireB (x.nd a).st n) (xs := (decS (wireB (x.nd a).st n)).1) (by rw [<- hd])).1
       exact h.setN ⟨merge_okS (h.nd _ hb12).st (okS_of hk), (h.nd _ hb12).pf, (h.nd _ hb12).tb⟩
theorem write_ok {x : Net} (h : NetOk x) {a : Nat} (ha : a < 12) (key value : ByteArray) : NetOk (writeS x a key value).1 := by
 unfold writeS
 split
 · exact h
 · rename_i h2
   exact h.setN ⟨putS_ok (h.nd a ha).st (by simpa using h2), (h.nd a ha).pf, (h.nd a ha).tb⟩
theorem decide_ok {x : Net} (h : NetOk x) {a : Nat} (ha : a < 12) : NetOk (decideS x a) :=
 h.setN ⟨(h.nd a ha).st, (h.nd a ha).pf, chk_tab ha⟩
theorem act_ok {x : Net} (h : NetOk x) (c : ActV) : NetOk (actS x c).1 := by
 rcases act_cases x c with e | e | ⟨a, k, _, ha, _, k1, k2, e⟩
 · rw [e]; exact h
 · rw [e]; exact h
 · rw [e]
   rcases k_cases k1 k2 with rfl | rfl | rfl | rfl | rfl | rfl | rfl | rfl | rfl | rfl
   · rw [actK_1]; split
     · exact link_ok h _ _ _
     · exact h
   · exact link_ok h _ _ _
   · rw [actK_3]; split
     · exact h.setN ⟨(h.nd _ ha).st, (h.nd _ ha).pf, (h.nd _ ha).tb⟩
     · exact h
   · exact give_ok h ha _
   · exact take_ok h ha _
   · exact tell_ok h ha
   · exact send_ok h _ _ _
   · exact write_ok h ha _ _
   · exact decide_ok h ha
   · exact h
theorem run_ok : ∀ (l : List ActV) {x : Net}, NetOk x -> NetOk (runS x l).1
 | [], _, h => h
 | c :: l, _, h => run_ok l (act_ok h c)
end Go.Proofs.YtojojpjldkpmoaaGreatDoor
