/-
  
-/
import Derived.Test.YtojojpjldkpmoaaGreatDoorGOwn
import Derived.Test.YtojojpjldkpmoaaGreatDoorGStE
set_option linter.unusedVariables false
set_option linter.unusedSimpArgs false
set_option maxHeartbeats 16000000
set_option maxRecDepth 100000
namespace Go.Proofs.YtojojpjldkpmoaaGreatDoor
section
open Go.RowKit
def br{α:Type}(bad:α->Int)(ord:α->α->Bool)(l:List α):Nat->Nat->Int
 | 0,_=>0
 | n+1,k=>
   match l[k]? with
   | none=>0
   | some e=>if bad e≠0 then bad e else
     if(match k with|0=>false|j+1=>match l[j]? with|some p=> !ord p e|none=>false)=true then 7 else br bad ord l n (k+1)
section
variable {α:Type} {bad:α->Int} {ord:α->α->Bool}
theorem lS(l:List α)(k:Nat)(h:l.length<=k)(n:Nat):br bad ord l n k=0:=by
 cases n with
 | zero=>rfl
 | succ n=>unfold br;rw[zbU h]
theorem gy(l:List α)(k:Nat)(hk:k<l.length)(h:bad l[k]≠0):br bad ord l (l.length-k) k=bad l[k]:=by
 obtain⟨n,hn⟩:∃n,l.length-k=n+1:=⟨l.length-k-1,by omega⟩;rw[hn];unfold br;rw[zad hk];simp[h]
theorem gw(l:List α)(hk:0<l.length)(h:bad l[0]=0):br bad ord l (l.length-0) 0=br bad ord l (l.length-1) 1:=by
 obtain⟨n,hn⟩:∃n,l.length=n+1:=⟨l.length-1,by omega⟩;rw[show l.length-1=n by omega,show l.length-0=n+1 by omega]
 conv=>lhs;unfold br
 rw[zad hk];simp[h]
theorem fI(l:List α)(j:Nat)(hk:j+1<l.length)(h:bad l[j+1]=0)(ho:ord l[j] l[j+1]=false):br bad ord l (l.length-(j+1)) (j+1)=7:=by
 obtain⟨n,hn⟩:∃n,l.length-(j+1)=n+1:=⟨l.length-(j+1)-1,by omega⟩;have h1:l[j]? =some l[j]:=zad (by omega);rw[hn];unfold br;rw[zad hk];simp[h,ho,h1]
theorem gO(l:List α)(j:Nat)(hk:j+1<l.length)(h:bad l[j+1]=0)(ho:ord l[j] l[j+1]=true):br bad ord l (l.length-(j+1)) (j+1)=br bad ord l (l.length-(j+1+1)) (j+1+1):=by
 obtain⟨n,hn⟩:∃n,l.length-(j+1)=n+1:=⟨l.length-(j+1)-1,by omega⟩;rw[hn,show l.length-(j+1+1)=n by omega]
 conv=>lhs;unfold br
 have h1:l[j]? =some l[j]:=zad (by omega);rw[zad hk];simp[h,ho,h1]
end
structure cY where
 node:Int
 cost:Int
def eg(s:cY):Int:=if 0<=s.node/\s.node<=11/\1<=s.cost/\s.cost<=1000 then 0 else 2
def dK(p s:cY):Bool:=decide (p.node<s.node)
def aw(l:List cY):Int:=br eg dK l (l.length-0) 0
def dg:Rep cY:=dw 2 (fun s=>[.int .i64 s.node,.int .i64 s.cost]) (fun s=>inR s.node/\inR s.cost) (fun _=>rfl) (fun x u h=>by simp at h;rcases h with rfl|rfl<;>rfl)
theorem Sl.side{w:World}{b off c n:Nat}{xs:List cY}(h:Sl dg w (.slice (some ⟨b,off,none⟩) n c) xs){k:Nat}(hk:k<xs.length):
  w.cell? ⟨b,off+k*2,none⟩=some (.int .i64 xs[k].node)/\w.cell? ⟨b,off+k*2+1,none⟩=some (.int .i64 xs[k].cost)/\inR xs[k].node/\inR xs[k].cost:=by
 obtain⟨cs,⟨rfl,hw⟩,hc⟩:=h.cell hk;exact⟨hc 0 _ rfl,hc 1 _ rfl,hw⟩
theorem lD(d:Bool)(v:Value)(xs:List cY)(w:World)(h:Sl dg w v xs):
  Calls Tryz.prog 91 #[.agg #[.bool d,v]] w fun e w'=>e= .returned (.int .i64 (aw xs))/\Below w.heap.size w w':=by
 have hl:=h.len_le;obtain⟨A,c,rfl⟩:=h.form;have H:=zaa h;clear h;go_enter Tryz.func91,Tryz.ntmps91
 go_wp2_with fail
 go_loopw [2,3,4,8,10,11,12] (fun _ _ _ i _ _ _ wr=>∃k:Nat,k<=xs.length/\i= .int .i64 k/\Below w.heap.size w wr/\w.heap.size<wr.heap.size/\wr.cell? ⟨w.heap.size,1,none⟩=some (.slice A xs.length c)/\aw xs=br eg dK xs (xs.length-k) k) (fun _ _ _ i _ _ _ _=>xs.length-(intOf i).toNat)
 case atStart=>exact⟨0,zap _,rfl,(zac _ _).alloc (zab _) _,by simp,by rw[zah _ _ _ _ rfl];rfl,rfl⟩
 case round=>
  obtain⟨k,hk,rfl,hB,hz,hbox,hs⟩:=hrel;have HS:=zaa hs;clear hs;by_cases hlt:k<xs.length
  · obtain⟨b,off,rfl,hb⟩:=H.out.at_ hlt;obtain⟨f1,f2,_,_⟩:=(H.out.below hB).side hlt;(have hbw:b<wr.heap.size:=by have:=hB.size;omega);have HB:=zaa (hB.alloc hB.size (.cells #[.int .i64 xs[k].node,.int .i64 xs[k].cost] 99));by_cases hok:0<=xs[k].node/\xs[k].node<=11/\1<=xs[k].cost/\xs[k].cost<=1000
    · obtain⟨o1,o2,o3,o4⟩:=hok;(have hbad:eg xs[k]=0:=by unfold eg;rw[if_pos ⟨o1,o2,o3,o4⟩]);have HBAD:=zaa hbad;clear hbad;(have o1':¬ xs[k].node<0:=by omega);(have o2':¬ 12<=xs[k].node:=by omega);(have o3':¬ xs[k].cost<1:=by omega);(have o4':¬ 1000<xs[k].cost:=by omega);have hbox2:(wr.alloc (.cells #[.int .i64 xs[k].node,.int .i64 xs[k].cost] 99)).cell? ⟨w.heap.size,1,none⟩=some (.slice (some ⟨b,off,none⟩) xs.length c):=by
       rw[World.cell?_alloc_lt _ _ _ (by show _<_;omega)];exact hbox
      have HBOX:=zaa hbox2;clear hbox2;(go_wp2_with fail);rcases zaG k with h0|h0
      · subst h0;(go_quiet (fail));(go_wp2);(go_roundw);(case rel=>exact⟨1,by omega,by go_num,ag HB.out _,by simp;omega,HBOX.out,by rw[HS.out];exact gw xs hlt HBAD.out⟩);case measure=>simp[intOf];omega
      · obtain⟨m,rfl⟩:∃m,k=m+1:=⟨k-1,by omega⟩;(have hd:decide ((0:Int)<(m:Int)+1)=true:=by rw[decide_eq_true_iff];omega);(have hm:m<xs.length:=by omega);(have q2:(m:Int)<(xs.length:Int):=by omega);obtain⟨g1,_,_,_⟩:=(H.out.below hB).side hm;(go_quiet (fail));go_wp2
        · (go_ret);(have ho:dK xs[m] xs[m+1]=false:=by unfold dK;rw[decide_eq_false_iff_not];omega);exact⟨ei (by rw[HS.out,fI xs m hlt HBAD.out ho]),ag HB.out _⟩
        · (have ho:dK xs[m] xs[m+1]=true:=by unfold dK;rw[decide_eq_true_iff];omega);(go_roundw);(case rel=>exact⟨m+1+1,by omega,by go_num,ag HB.out _,by simp;omega,HBOX.out,by rw[HS.out];exact gO xs m hlt HBAD.out ho⟩);case measure=>simp[intOf];omega
    · (have hbad:eg xs[k]=2:=by unfold eg;rw[if_neg hok]);have HBAD:=zaa hbad;(have hdis:xs[k].node<0∨12<=xs[k].node∨xs[k].cost<1∨1000<xs[k].cost:=by omega);clear hbad hok;rcases hdis with hx|hx|hx|hx;all_goals
       (go_wp2_with fail);all_goals(go_ret;exact⟨ei (by rw[HS.out,gy xs k hlt (by rw[HBAD.out];decide)];exact HBAD.out.symm),HB.out⟩)
  · (go_wp2_with fail);(go_ret);exact⟨ei (by rw[HS.out,lS xs k (by omega)]),hB⟩
theorem gk(d:Bool)(v:Value)(xs:List cY)(w:World)(h:Sl dg w v xs):
  Calls Tryz.prog 73 #[.agg #[.bool d,v]] w fun e w'=>e= .returned (.int .i64 (aw xs))/\Below w.heap.size w w':=by
 have hl:=h.len_le;obtain⟨A,c,rfl⟩:=h.form;have H:=zaa h;clear h;go_enter Tryz.func73,Tryz.ntmps73
 go_wp2_with fail
 go_loopw [2,3] (fun _ i wr=>∃k:Nat,k<=xs.length/\i= .int .i64 k/\Below w.heap.size w wr/\w.heap.size<wr.heap.size/\wr.cell? ⟨w.heap.size,1,none⟩=some (.slice A xs.length c)/\aw xs=br eg dK xs (xs.length-k) k) (fun _ i _=>xs.length-(intOf i).toNat)
 case atStart=>exact⟨0,zap _,rfl,(zac _ _).alloc (zab _) _,by simp,by rw[zah _ _ _ _ rfl];rfl,rfl⟩
 case round=>
  obtain⟨k,hk,rfl,hB,hz,hbox,hs⟩:=hrel;have HS:=zaa hs;have HB:=zaa hB;have HBOX:=zaa hbox;clear hs hB;by_cases hlt:k<xs.length
  · obtain⟨b,off,rfl,hb⟩:=H.out.at_ hlt;obtain⟨f1,f2,_,_⟩:=(H.out.below HB.out).side hlt;by_cases hok:0<=xs[k].node/\xs[k].node<=11/\1<=xs[k].cost/\xs[k].cost<=1000
    · obtain⟨o1,o2,o3,o4⟩:=hok;(have hbad:eg xs[k]=0:=by unfold eg;rw[if_pos ⟨o1,o2,o3,o4⟩]);have HBAD:=zaa hbad;clear hbad;(have t1:decide (0<=xs[k].node)=true:=by simpa using o1);(have t2:decide (xs[k].node<=11)=true:=by simpa using o2);(have t3:decide (1<=xs[k].cost)=true:=by simpa using o3);(have t4:decide (xs[k].cost<=1000)=true:=by simpa using o4);(go_wp2_with (go_at_call 36;refine(aU _ _ _ _).mono ?_;rintro e w' ⟨rfl,rfl⟩));rcases zaG k with h0|h0
      · subst h0;(go_quiet (fail));(go_wp2);(go_roundw);(case rel=>exact⟨1,by omega,by go_num,ag HB.out _,by simpa using hz,HBOX.out,by rw[HS.out];exact gw xs hlt HBAD.out⟩);case measure=>simp[intOf];omega
      · obtain⟨m,rfl⟩:∃m,k=m+1:=⟨k-1,by omega⟩;(have hd:decide ((0:Int)<(m:Int)+1)=true:=by rw[decide_eq_true_iff];omega);(have hm:m<xs.length:=by omega);(have q2:(m:Int)<(xs.length:Int):=by omega);(have q3:(m:Int)+1<(xs.length:Int):=by omega);obtain⟨g1,_,_,_⟩:=(H.out.below HB.out).side hm;(go_quiet (fail));go_wp2
        · (go_ret);(have ho:dK xs[m] xs[m+1]=false:=by unfold dK;rw[decide_eq_false_iff_not];omega);exact⟨ei (by rw[HS.out,fI xs m hlt HBAD.out ho]),ag HB.out _⟩
        · (have ho:dK xs[m] xs[m+1]=true:=by unfold dK;rw[decide_eq_true_iff];omega);(go_roundw);(case rel=>exact⟨m+1+1,by omega,by go_num,ag HB.out _,by simpa using hz,HBOX.out,by rw[HS.out];exact gO xs m hlt HBAD.out ho⟩);case measure=>simp[intOf];omega
    · (have hbad:eg xs[k]=2:=by unfold eg;rw[if_neg hok]);have HBAD:=zaa hbad;(have hdis:xs[k].node<0∨11<xs[k].node∨xs[k].cost<1∨1000<xs[k].cost:=by omega);clear hbad hok;rcases hdis with hx|hx|hx|hx;all_goals
       (go_wp2_with (go_at_call 36;refine(aU _ _ _ _).mono ?_;rintro e w' ⟨rfl,rfl⟩));all_goals first
        | (go_ret;exact⟨ei (by rw[HS.out,gy xs k hlt (by rw[HBAD.out];decide)];exact HBAD.out.symm),HB.out⟩)
        | (exfalso;simp at*;omega)
  · (go_wp2_with fail);(go_ret);exact⟨ei (by rw[HS.out,lS xs k (by omega)]),HB.out⟩
structure ae where
 addr:Int
 bits:Int
def b7(bits:Int):Int:=((256/2^bits.toNat:Nat):Int)
def aq(p:ae):Int:=if 0<=p.bits/\p.bits<=8/\0<=p.addr/\p.addr<=255 then(if p.addr%b7 p.bits=0 then 0 else 4)else 2
def ak(p q:ae):Bool:=decide (p.addr<q.addr)||(decide (p.addr=q.addr)&&decide (p.bits<q.bits))
def ai(l:List ae):Int:=if 6<l.length then 1 else br aq ak l (l.length-0) 0
def aA:Rep ae:=dw 2 (fun s=>[.int .i64 s.addr,.int .i64 s.bits]) (fun s=>inR s.addr/\inR s.bits) (fun _=>rfl) (fun x u h=>by simp at h;rcases h with rfl|rfl<;>rfl)
theorem Sl.pref{w:World}{b off c n:Nat}{xs:List ae}(h:Sl aA w (.slice (some ⟨b,off,none⟩) n c) xs){k:Nat}(hk:k<xs.length):
  w.cell? ⟨b,off+k*2,none⟩=some (.int .i64 xs[k].addr)/\w.cell? ⟨b,off+k*2+1,none⟩=some (.int .i64 xs[k].bits)/\inR xs[k].addr/\inR xs[k].bits:=by
 obtain⟨cs,⟨rfl,hw⟩,hc⟩:=h.cell hk;exact⟨hc 0 _ rfl,hc 1 _ rfl,hw⟩
theorem BV(a:Nat)(ha:a<9223372036854775808):(BitVec.ofInt 64 (a:Int)).toNat=a:=by
 rw[BitVec.ofInt_natCast,BitVec.toNat_ofNat];exact Nat.mod_eq_of_lt (by omega)
theorem Dt(a b:Nat)(ha:a<9223372036854775808)(hb:b<9223372036854775808):bits .and .i64 (a:Int) (b:Int)=((a&&&b:Nat):Int):=by
 have hx:a&&&b<2^63:=Nat.and_lt_two_pow _ (by omega);show IntKind.i64.wrap ((BitVec.ofInt 64 (a:Int)&&&BitVec.ofInt 64 (b:Int)).toNat:Int)=_;rw[BitVec.toNat_and,BV a ha,BV b hb,IntKind.wrap_i64];omega
theorem CE(a b:Int)(h1:0<=b)(h2:b<=8)(h3:0<=a)(h4:a<=255):bits .and .i64 a (255/2^b.toNat)=a%b7 b:=by
 obtain⟨n,rfl⟩:=zaZ h1;obtain⟨m,rfl⟩:=zaZ h3;rw[zaX];have hn:n<=8:=by omega
 have hs:b7 (n:Int)=((2^(8-n):Nat):Int):=by
  unfold b7;rw[zaX];have:∀n,n<=8->256/2^n=2^(8-n):=by decide
  rw[this n hn]
 have hm:((255:Int)/2^n)=((2^(8-n)-1:Nat):Int):=by
  have:∀n,n<=8->((255:Int)/2^n)=((2^(8-n)-1:Nat):Int):=by decide
  exact this n hn
 have hp:2^(8-n)<=256:=by
  have:∀n,n<=8->2^(8-n)<=256:=by decide
  exact this n hn
 rw[hm,hs,Dt m (2^(8-n)-1) (by omega) (by omega),Nat.and_two_pow_sub_one_eq_mod];omega
theorem aF(p q:ae):ak p q=true↔p.addr<q.addr∨(p.addr=q.addr/\p.bits<q.bits):=by simp[ak]
theorem d7(v:Value)(xs:List ae)(w:World)(h:Sl aA w v xs):
  Calls Tryz.prog 53 #[v] w fun e w'=>e= .returned (.int .i64 (ai xs))/\Below w.heap.size w w':=by
 have hl:=h.len_le;obtain⟨A,c,rfl⟩:=h.form;have H:=zaa h;clear h;by_cases h6:6<xs.length
 · (have h6':(6:Int)<(xs.length:Int):=by omega);(go_enter Tryz.func53,Tryz.ntmps53);(go_wp2_with fail);(go_ret);exact⟨ei (by simp[ai,h6]),zac _ _⟩
 · (have h6':¬ (6:Int)<(xs.length:Int):=by omega);(go_enter Tryz.func53,Tryz.ntmps53);(go_wp2_with fail);(have hs0:ai xs=br aq ak xs (xs.length-0) 0:=by simp[ai,h6]);(go_loopw [2,3,4,10,12,13,14] (fun _ _ _ i _ _ _ wr=>∃k:Nat,k<=xs.length/\i= .int .i64 k/\Below w.heap.size w wr/\ai xs=br aq ak xs (xs.length-k) k) (fun _ _ _ i _ _ _ _=>xs.length-(intOf i).toNat));(case atStart=>exact⟨0,zap _,rfl,zac _ _,hs0⟩);case round=>
    obtain⟨k,hk,rfl,hB,hs⟩:=hrel;have HS:=zaa hs;clear hs hs0;by_cases hlt:k<xs.length
    · obtain⟨b,off,rfl,hb⟩:=H.out.at_ hlt;obtain⟨f1,f2,_,_⟩:=(H.out.below hB).pref hlt;(have hbw:b<wr.heap.size:=by have:=hB.size;omega);have HB:=zaa (hB.alloc hB.size (.cells #[.int .i64 xs[k].addr,.int .i64 xs[k].bits] 32));by_cases hok:0<=xs[k].bits/\xs[k].bits<=8/\0<=xs[k].addr/\xs[k].addr<=255
      · obtain⟨o1,o2,o3,o4⟩:=hok;(have o1':¬ xs[k].bits<0:=by omega);(have o2':¬ 8<xs[k].bits:=by omega);(have o3':¬ xs[k].addr<0:=by omega);(have o4':¬ 255<xs[k].addr:=by omega);(go_wp2_with fail);(go_quiet (fail));have hand:=CE xs[k].addr xs[k].bits o1 o2 o3 o4;have HAND:=zaa hand;clear hand;go_wp2_with fail
        · (go_ret);have hne:=‹(bits BinOp.and IntKind.i64 xs[k].addr (255/2^xs[k].bits.toNat) !=0)=true›;rw[HAND.out,bne_iff_ne]at hne;(have hbad:aq xs[k]=4:=by unfold aq;rw[if_pos ⟨o1,o2,o3,o4⟩,if_neg hne]);exact⟨ei (by rw[HS.out,gy xs k hlt (by rw[hbad];decide)];exact hbad.symm),ag HB.out _⟩
        · have heq:=‹(bits BinOp.and IntKind.i64 xs[k].addr (255/2^xs[k].bits.toNat) !=0)=false›;rw[HAND.out]at heq;(have hbad:aq xs[k]=0:=by unfold aq;rw[if_pos ⟨o1,o2,o3,o4⟩,if_pos (by simpa using heq)]);have HBAD:=zaa hbad;clear hbad heq;rcases zaG k with h0|h0
          · subst h0;(go_quiet (fail));(go_wp2);(go_roundw);(case rel=>exact⟨1,by omega,by go_num,ag HB.out _,by rw[HS.out];exact gw xs hlt HBAD.out⟩);case measure=>simp[intOf];omega
          · obtain⟨m,rfl⟩:∃m,k=m+1:=⟨k-1,by omega⟩;(have hd:decide ((0:Int)<(m:Int)+1)=true:=by rw[decide_eq_true_iff];omega);(have hm:m<xs.length:=by omega);(have q2:(m:Int)<(xs.length:Int):=by omega);obtain⟨g1,g2,_,_⟩:=(H.out.below hB).pref hm;rcases zct xs[m].addr xs[m+1].addr with hx|hx|hx
            · (have t1:decide (xs[m+1].addr<xs[m].addr)=false:=by rw[decide_eq_false_iff_not];omega);(have t2:(xs[m].addr==xs[m+1].addr)=false:=by rw[beq_eq_false_iff_ne];omega);have HO:=zaa ((aF xs[m] xs[m+1]).2 (.inl hx));clear hx;(go_quiet (fail));(go_wp2);(go_roundw);(case rel=>exact⟨m+1+1,by omega,by go_num,ag HB.out _,by rw[HS.out];exact gO xs m hlt HBAD.out HO.out⟩);case measure=>simp[intOf];omega
            · (have t1:decide (xs[m+1].addr<xs[m].addr)=false:=by rw[decide_eq_false_iff_not];omega);(have t2:(xs[m].addr==xs[m+1].addr)=true:=by rw[beq_iff_eq];exact hx);by_cases hy:xs[m].bits<xs[m+1].bits
              · (have t3:decide (xs[m+1].bits<=xs[m].bits)=false:=by rw[decide_eq_false_iff_not];omega);have HO:=zaa ((aF xs[m] xs[m+1]).2 (.inr ⟨hx,hy⟩));clear hx hy;(go_quiet (fail));(go_wp2);(go_roundw);(case rel=>exact⟨m+1+1,by omega,by go_num,ag HB.out _,by rw[HS.out];exact gO xs m hlt HBAD.out HO.out⟩);case measure=>simp[intOf];omega
              · (have t3:decide (xs[m+1].bits<=xs[m].bits)=true:=by rw[decide_eq_true_iff];omega);(have ho:ak xs[m] xs[m+1]=false:=by rw[Bool.eq_false_iff];intro e;rw[aF]at e;omega);have HO:=zaa ho;clear hx hy ho;(go_quiet (fail));(go_wp2);(go_ret);exact⟨ei (by rw[HS.out,fI xs m hlt HBAD.out HO.out]),by first|exact ag HB.out _|exact ag (ag HB.out _) _⟩
            · (have t1:decide (xs[m+1].addr<xs[m].addr)=true:=by rw[decide_eq_true_iff];omega);(have ho:ak xs[m] xs[m+1]=false:=by rw[Bool.eq_false_iff];intro e;rw[aF]at e;omega);have HO:=zaa ho;clear hx ho;(go_quiet (fail));(go_wp2);(go_ret);exact⟨ei (by rw[HS.out,fI xs m hlt HBAD.out HO.out]),by first|exact ag HB.out _|exact ag (ag HB.out _) _⟩
      · (have hbad:aq xs[k]=2:=by unfold aq;rw[if_neg hok]);have HBAD:=zaa hbad;(have hdis:xs[k].bits<0∨8<xs[k].bits∨xs[k].addr<0∨255<xs[k].addr:=by omega);clear hbad hok;rcases hdis with hx|hx|hx|hx;all_goals
         (go_wp2_with fail);all_goals(go_ret;exact⟨ei (by rw[HS.out,gy xs k hlt (by rw[HBAD.out];decide)];exact HBAD.out.symm),HB.out⟩)
    · (go_wp2_with fail);(go_ret);exact⟨ei (by rw[HS.out,lS xs k (by omega)]),hB⟩
theorem yU(n j:Nat)(hn:n<=8)(hj:j<n):((256/2^j:Nat):Int)/2=((256/2^(j+1):Nat):Int):=by
 have:∀j,j<8->((256/2^j:Nat):Int)/2=((256/2^(j+1):Nat):Int):=by decide
 exact this j (by omega)
theorem vE(b:Int)(w:World)(h1:0<=b)(h2:b<=8):
  Calls Tryz.prog 72 #[.int .i64 b] w fun e w'=>e= .returned (.int .i64 (b7 b))/\w=w':=by
 obtain⟨n,rfl⟩:=zaZ h1;have hn:n<=8:=by omega
 clear h1 h2;go_enter Tryz.func72,Tryz.ntmps72
 go_wp2_with fail
 go_loop [0,3] (fun i v=>∃r:Nat,r<=n/\i= .int .i64 (r:Int)/\v= .int .i64 ((256/2^(n-r):Nat):Int)) (fun i _=>(intOf i).toNat)
 case atStart=>exact⟨n,by omega,rfl,by rw[Nat.sub_self];rfl⟩
 case round=>
  obtain⟨r,hr,rfl,rfl⟩:=hrel;rcases zaG r with h0|h0
  · subst h0;rw[Nat.sub_zero]at*;(go_wp2_with fail);(go_ret);exact⟨ei (by simp[b7]),rfl⟩
  · obtain⟨q,rfl⟩:∃q,r=q+1:=⟨r-1,by omega⟩;have hs:=yU n (n-(q+1)) hn (by omega);rw[show n-(q+1)+1=n-q from by omega]at hs;have hp:256/2^(n-(q+1))<=256:=Nat.div_le_self _ _;generalize 256/2^(n-(q+1))=v at*;(have hq:q<=8:=by omega);have HS:=zaa hs;clear hs;(go_wp2_with fail);(go_round);(case rel=>exact⟨q,by omega,by go_num,by rw[<-HS.out]⟩);case measure=>simp[intOf]
theorem kN(b:Int)(w:World)(h1:0<=b)(h2:b<=8):
  Calls Tryz.prog 72 #[.int .i64 b] w fun e w'=>e= .returned (.int .i64 (b7 b))/\w'=w:=
 (vE b w h1 h2).mono fun _ _ ⟨a,b⟩=>⟨a,b.symm⟩
theorem dS(v:Value)(xs:List ae)(w:World)(h:Sl aA w v xs):
  Calls Tryz.prog 39 #[v] w fun e w'=>e= .returned (.int .i64 (ai xs))/\Below w.heap.size w w':=by
 have hl:=h.len_le;obtain⟨A,c,rfl⟩:=h.form;have H:=zaa h;clear h;by_cases h6:6<xs.length
 · (have h6':(6:Int)<(xs.length:Int):=by omega);(go_enter Tryz.func39,Tryz.ntmps39);(go_wp2_with fail);(go_ret);exact⟨ei (by simp[ai,h6]),zac _ _⟩
 · (have h6':¬ (6:Int)<(xs.length:Int):=by omega);(go_enter Tryz.func39,Tryz.ntmps39);(go_wp2_with fail);(have hs0:ai xs=br aq ak xs (xs.length-0) 0:=by simp[ai,h6]);(go_loopw [2,3,4] (fun _ i _ wr=>∃k:Nat,k<=xs.length/\i= .int .i64 k/\Below w.heap.size w wr/\(∀j,(h:j<xs.length)->j<k->0<=xs[j].bits/\xs[j].bits<=8/\0<=xs[j].addr/\xs[j].addr<=255)/\ai xs=br aq ak xs (xs.length-k) k) (fun _ i _ _=>xs.length-(intOf i).toNat));(case atStart=>exact⟨0,zap _,rfl,zac _ _,fun j _ h=>absurd h (by omega),hs0⟩);case round=>
    obtain⟨k,hk,rfl,hB,hall,hs⟩:=hrel;have HS:=zaa hs;have HALL:=zaa hall;clear hs hs0 hall;by_cases hlt:k<xs.length
    · obtain⟨b,off,rfl,hb⟩:=H.out.at_ hlt;obtain⟨f1,f2,_,_⟩:=(H.out.below hB).pref hlt;(have hbw:b<wr.heap.size:=by have:=hB.size;omega);have HB:=zaa (hB.alloc hB.size (.cells #[.int .i64 xs[k].addr,.int .i64 xs[k].bits] 32));by_cases hok:0<=xs[k].bits/\xs[k].bits<=8/\0<=xs[k].addr/\xs[k].addr<=255
      · obtain⟨o1,o2,o3,o4⟩:=hok;(have t1:decide (0<=xs[k].bits)=true:=by simpa using o1);(have t2:decide (xs[k].bits<=8)=true:=by simpa using o2);(have t3:decide (0<=xs[k].addr)=true:=by simpa using o3);(have t4:decide (xs[k].addr<=255)=true:=by simpa using o4);have hsp:1<=b7 xs[k].bits:=by
         obtain⟨q,hq⟩:=zaZ o1;rw[hq];unfold b7;rw[zaX];(have:∀q,q<=8->(1:Int)<=((256/2^q:Nat):Int):=by decide);exact this q (by omega)
        (go_wp2_with (go_at_call 36;refine(aU _ _ _ _).mono ?_;rintro e w' ⟨rfl,rfl⟩));(go_quiet ((go_at_call 72;exact zbO (kN _ _ o1 o2))));go_wp2_with fail
        · (go_ret);have hne:=‹(xs[k].addr%b7 xs[k].bits !=0)=true›;rw[bne_iff_ne]at hne;(have hbad:aq xs[k]=4:=by unfold aq;rw[if_pos ⟨o1,o2,o3,o4⟩,if_neg hne]);exact⟨ei (by rw[HS.out,gy xs k hlt (by rw[hbad];decide)];exact hbad.symm),ag HB.out _⟩
        · have heq:=‹(xs[k].addr%b7 xs[k].bits !=0)=false›;(have hbad:aq xs[k]=0:=by unfold aq;rw[if_pos ⟨o1,o2,o3,o4⟩,if_pos (by simpa using heq)]);have HBAD:=zaa hbad;clear hbad heq;have hnext:∀j,(h:j<xs.length)->j<k+1->0<=xs[j].bits/\xs[j].bits<=8/\0<=xs[j].addr/\xs[j].addr<=255:=by
           intro j hj hjk;by_cases e:j=k
           · subst e;exact⟨o1,o2,o3,o4⟩
           · exact HALL.out j hj (by omega)
          have HN:=zaa hnext;clear hnext;rcases zaG k with h0|h0
          · subst h0;(go_quiet (fail));(go_wp2);(go_roundw);(case rel=>exact⟨1,by omega,by go_num,ag HB.out _,HN.out,by rw[HS.out];exact gw xs hlt HBAD.out⟩);case measure=>simp[intOf];omega
          · obtain⟨m,rfl⟩:∃m,k=m+1:=⟨k-1,by omega⟩;(have hd:decide ((0:Int)<(m:Int)+1)=true:=by rw[decide_eq_true_iff];omega);(have hm:m<xs.length:=by omega);(have q2:(m:Int)<(xs.length:Int):=by omega);obtain⟨g1,g2,_,_⟩:=(H.out.below hB).pref hm;obtain⟨p1,p2,p3,p4⟩:=HALL.out m hm (by omega);by_cases hx:10*xs[m].addr+xs[m].bits<10*xs[m+1].addr+xs[m+1].bits
            · have HO:=zaa ((aF xs[m] xs[m+1]).2 (by omega));(have t5:decide (10*xs[m+1].addr+xs[m+1].bits<=10*xs[m].addr+xs[m].bits)=false:=by rw[decide_eq_false_iff_not];omega);clear hx;(go_quiet (fail));(go_wp2);(go_roundw);(case rel=>exact⟨m+1+1,by omega,by go_num,ag HB.out _,HN.out,by rw[HS.out];exact gO xs m hlt HBAD.out HO.out⟩);case measure=>simp[intOf];omega
            · (have ho:ak xs[m] xs[m+1]=false:=by rw[Bool.eq_false_iff];intro e;rw[aF]at e;omega);have HO:=zaa ho;(have t5:decide (10*xs[m+1].addr+xs[m+1].bits<=10*xs[m].addr+xs[m].bits)=true:=by rw[decide_eq_true_iff];omega);clear hx ho;(go_quiet (fail));(go_wp2);(go_ret);exact⟨ei (by rw[HS.out,fI xs m hlt HBAD.out HO.out]),by first|exact ag HB.out _|exact ag (ag HB.out _) _⟩
      · (have hbad:aq xs[k]=2:=by unfold aq;rw[if_neg hok]);have HBAD:=zaa hbad;(have hdis:xs[k].bits<0∨8<xs[k].bits∨xs[k].addr<0∨255<xs[k].addr:=by omega);clear hbad hok;rcases hdis with hx|hx|hx|hx;all_goals
         (go_wp2_with (go_at_call 36;refine(aU _ _ _ _).mono ?_;rintro e w' ⟨rfl,rfl⟩));all_goals first
          | (go_ret;exact⟨ei (by rw[HS.out,gy xs k hlt (by rw[HBAD.out];decide)];exact HBAD.out.symm),HB.out⟩)
          | (exfalso;simp at*;omega)
    · (go_wp2_with fail);(go_ret);exact⟨ei (by rw[HS.out,lS xs k (by omega)]),hB⟩
end
end Go.Proofs.YtojojpjldkpmoaaGreatDoor
