/-
  
-/
import Derived.Test.YtojojpjldkpmoaaGreatDoorGTxB
import Derived.Test.YtojojpjldkpmoaaGreatDoorGDoB
set_option linter.unusedVariables false
set_option linter.unusedSimpArgs false
set_option maxHeartbeats 16000000
set_option maxRecDepth 100000
namespace Go.Proofs.YtojojpjldkpmoaaGreatDoor
section
open Go Go.RowKit
section
variable {α:Type} {bad:α->Int} {ord:α->α->Bool}
theorem m9(l:List α):∀(n k:Nat),br bad ord l n k=0->k+n=l.length->∀i,k<=i->(h:i<l.length)->bad l[i]=0/\(∀j,(hj:j+1=i)->ord (l[j]'(by omega)) l[i]=true)
 | 0,k,_,hk,i,hi,h=>by omega
 | n+1,k,hs,hk,i,hi,h=>by
   (have hlt:k<l.length:=by omega);have hb:bad l[k]=0:=by
    rcases Classical.em (bad l[k]=0)with e|e
    · exact e
    · have:=gy (bad:=bad) (ord:=ord) l k hlt e;rw[show l.length-k=n+1 by omega,hs]at this;exact absurd this.symm e
   have hnext:br bad ord l n (k+1)=0/\∀j,(hj:j+1=k)->ord (l[j]'(by omega)) l[k]=true:=by
    rcases zaG k with h0|h0
    · subst h0;have:=gw (bad:=bad) (ord:=ord) l hlt hb;rw[show l.length-0=n+1 by omega,hs,show l.length-1=n by omega]at this;exact⟨this.symm,fun j hj=>by omega⟩
    · obtain⟨m,rfl⟩:∃m,k=m+1:=⟨k-1,by omega⟩;rcases ho:ord l[m] l[m+1]with _|_
      · have:=fI (bad:=bad) (ord:=ord) l m hlt hb ho;rw[show l.length-(m+1)=n+1 by omega,hs]at this;cases this
      · have:=gO (bad:=bad) (ord:=ord) l m hlt hb ho;rw[show l.length-(m+1)=n+1 by omega,hs,show l.length-(m+1+1)=n by omega]at this;refine⟨this.symm,fun j hj=> ?_⟩;(obtain rfl:j=m:=by omega);exact ho
   rcases zbF k i with hki|hki
   · exact m9 l n (k+1) hnext.1 (by omega) i hki h
   · (obtain rfl:i=k:=by omega);exact⟨hb,hnext.2⟩
end
theorem ef{l:List cY}(h:aw l=0):∀i,(hi:i<l.length)->0<=l[i].node/\l[i].node<=11/\1<=l[i].cost/\l[i].cost<=1000:=by
 intro i hi;have h1:=(m9 l (l.length-0) 0 h (by omega) i (zap _) hi).1;unfold eg at h1;split at h1
 · assumption
 · cases h1
theorem lQ{l:List cY}(h:aw l=0):∀i,(hi:i+1<l.length)->l[i].node<l[i+1].node:=by
 intro i hi;have h1:=(m9 l (l.length-0) 0 h (by omega) (i+1) (zap _) hi).2 i rfl;unfold dK at h1;exact of_decide_eq_true h1
theorem nW{l:List cY}(h:aw l=0):∀(i:Nat) (hi:i<l.length),(i:Int)<=l[i].node
 | 0,hi=>(ef h 0 hi).1
 | i+1,hi=>by
   have h1:=nW h i (by omega);have h2:=lQ h i hi;omega
theorem lR{l:List cY}(h:aw l=0):l.length<=12:=by
 rcases zbF 12 l.length with h1|h1
 · have h2:=nW h 12 h1;have h3:=(ef h 12 h1).2.1;omega
 · exact h1
theorem jL{l:List ae}(h:ai l=0):l.length<=6:=by
 unfold ai at h;split at h
 · cases h
 · omega
theorem lV{l:List ae}(h:ai l=0):∀i,(hi:i<l.length)->0<=l[i].bits/\l[i].bits<=8/\0<=l[i].addr/\l[i].addr<=255:=by
 intro i hi;have h0:=jL h;unfold ai at h;rw[if_neg (by omega)]at h;have h1:=(m9 l (l.length-0) 0 h (by omega) i (zap _) hi).1;unfold aq at h1;split at h1
 · assumption
 · cases h1
theorem il(m:Nat):∀l:List (List UInt8),(∀x∈l,x.length<=m)->(Lib.join l [44]).length<=l.length*(m+1)
 | [],_=>by simp[Lib.join_nil]
 | [x],h=>by rw[Lib.join_one];have:=h x (by simp);simp;omega
 | x::y::l,h=>by
   (have e:Lib.join (x::y::l) [44]=x++44::Lib.join (y::l) [44]:=by simp[Lib.join,List.intercalate]);have h1:=il m (y::l) (fun z hz=>h z (by simp[hz]));have h2:=h x (by simp);rw[e,zaq,zaD,zaD,zco];omega
theorem ie(b:UInt8)(x y:Int)(hx:0<=x)(hx2:x<=1000)(hy:0<=y)(hy2:y<=1000):(cl b x y).length<=20:=by
 unfold cl;have h1:=cm 4 x.toNat (by omega);have h2:=cm 4 y.toNat (by omega);simp;omega
theorem lg{n:Int}(h:0<=n):Lib.itoa n=Lib.decDigits n.toNat:=by
 obtain⟨m,rfl⟩:=zaZ h;rw[li];rfl
theorem tP(b:UInt8)(x y:Int):bOf (Lib.decDigits x.toNat)++⟨#[b]⟩++bOf (Lib.decDigits y.toNat)=bOf (cl b x y):=by
 unfold cl bOf;rw[Go.ByteArray.mk_append_mk (Lib.decDigits x.toNat) [b],Go.ByteArray.mk_append_mk];simp
def eX(l:List (List UInt8))(k:Nat):List UInt8:=Lib.join (l.take k) [44]
theorem mO{l:List (List UInt8)}(h:0<l.length):eX l 1=l[0]:=by
 unfold eX;rw[zar h];simp[Lib.join_one]
theorem pG{l:List (List UInt8)}{k:Nat}(hk:0<k)(h:k<l.length):eX l (k+1)=eX l k++[44]++l[k]:=by
 unfold eX;rw[zar h,zF,if_neg (by intro e;have:=congrArg List.length e;rw[zat,zaW]at this;omega)]
theorem rD(l:List (List UInt8)){k:Nat}(h:l.length<=k):eX l k=Lib.join l [44]:=by
 unfold eX;rw[zaO h]
def mP(xs:List ae)(e:Ending):Prop:=e= .returned (.tuple #[.string (if ai xs=0 then bOf (oF xs)else⟨#[]⟩),.int .i64 (ai xs)])
theorem xI{xs:List ae}(h:ai xs=0):mP xs (.returned (.tuple #[.string (bOf (oF xs)),.int .i64 0])):=by unfold mP;rw[if_pos h,h]
theorem AL{xs:List ae}(h:ai xs≠0):mP xs (.returned (.tuple #[.string ⟨#[]⟩,.int .i64 (ai xs)])):=by unfold mP;rw[if_neg h]
theorem ua(v:Value)(l:List (List UInt8))(w:World)(h:Sl bs w v (l.map bOf))(hl:l.length<=100)(hx:∀x∈l,x.length<=20):
  Calls Tryz.prog 92 #[v,.string ⟨#[44]⟩] w fun e w'=>e= .returned (.string (bOf (Lib.join l [44])))/\Below w.heap.size w w':=by
 obtain⟨A,c,hv,h1,h2,h3⟩:=h;subst hv;rcases zaG l.length with h0|h0
 · have:l=[]:=zaH h0;subst this;refine(Tryz.strings_Join_none A c ⟨#[44]⟩ w).mono ?_;rintro e w' ⟨rfl,rfl⟩;exact⟨rfl,zac _ _⟩
 · obtain⟨b,off,cs,e1,_,e3,_,_⟩:=h3 0 (bOf l[0]) (by rw[zbN,zad h0];rfl);subst e1;(have hm:(l.map bOf).map (·.data.toList)=l:=by rw[List.map_map];(conv=>rhs;rw[<-List.map_id l]);apply List.map_congr_left;intro x _;exact cG x);have hj:=il 20 l hx;have hc:=Tryz.strings_Join b off c (l.map bOf) ⟨#[44]⟩ w (fun j x hx=>by
    obtain⟨b',off',cs',e1',_,_,e4',e5'⟩:=h3 j x hx;injection e1' with e1';injection e1' with e6 e7;subst e6 e7;obtain⟨rfl,_⟩:=e4';have:=e5' 0 _ rfl
    simpa [bs,dw]using this) e3 (by rw[zaI];omega) h1 (by rw[hm];show(Lib.join l [44]).length<=_;omega)
   rw[hm]at hc;exact hc
theorem iU{w2 w4:World}{u v2:Value}{n:Nat}{o:Obj}(hn:n<w2.heap.size)(hg:al (w2.alloc o) u w4 v2)(hu:∀k,u.ownBlock=some k->k<n):∀i,w4.cell? ⟨n,i,none⟩=w2.cell? ⟨n,i,none⟩:=by
 intro i;apply zav;show w4.heap[n]? =w2.heap[n]?;rw[hg.grown.block n (by simp;omega) (fun e=>by have:=hu n e.symm;omega)];exact zbf _ _ _ hn
theorem pN(v:Value)(xs:List ae)(w:World)(h:Sl aA w v xs)(hE:qd w):
  Calls Tryz.prog 57 #[v] w fun e w'=>mP xs e/\Below w.heap.size w w':=by
 have hl:=h.len_le;obtain⟨A,c,rfl⟩:=h.form;have H:=zaa h;have HE:=zaa hE;have HCK:=zaa (d7 _ xs w h);clear h hE;by_cases hc:ai xs=0
 · have HC:=zaa hc;have hn6:=jL hc;have HALL:=zaa (lV hc);rw[hc]at HCK;clear hc;(go_enter Tryz.func57,Tryz.ntmps57);(go_wp2_with (go_at_call 53;refine HCK.out.mono ?_;rintro e w1 ⟨rfl,hb1⟩;have HB1:=zaa hb1;clear hb1));have HV1:=zaa (H.out.below HB1.out);(go_loopw [5,15] (fun o i wr=>∃k:Nat,k<=xs.length/\i= .int .i64 k/\OwR bs 9 w1.heap.size wr o (((xs.take k).map eT).map bOf)/\Below w1.heap.size w1 wr) (fun _ i _=>xs.length-(intOf i).toNat));(case atStart=>exact⟨0,zap _,rfl,OwR.nil _ _ (zab _),zac _ _⟩);case round=>
    obtain⟨k,hk,rfl,ho,hB⟩:=hrel;have HO:=zaa ho;have HB:=zaa hB;clear ho hB;by_cases hlt:k<xs.length
    · obtain⟨b,off,rfl,hb⟩:=HV1.out.at_ hlt;obtain⟨f1,f2,i1,i2⟩:=(HV1.out.below HB.out).pref hlt;obtain⟨a1,a2,a3,a4⟩:=HALL.out k hlt;have HT:=zaa (show eT xs[k]=cl 47 xs[k].addr xs[k].bits from rfl);have hsuc:((xs.take (k+1)).map eT).map bOf=((xs.take k).map eT).map bOf++[bOf (eT xs[k])]:=by
       rw[zar hlt,zbe,zbe];rfl
      rw[HT.out]at hsuc;have HSUC:=zaa hsuc;(have hn1:(((xs.take k).map eT).map bOf).length+1<=1000000000000:=by rw[zaI,zaI,zat];omega);have HN1:=zaa hn1;have hpl:=ie 47 xs[k].addr xs[k].bits a3 (by omega) a1 (by omega);have ea:=lg a3;have eb:=lg a1;have la:=cm 4 xs[k].addr.toNat (by omega);have lb:=cm 4 xs[k].bits.toNat (by omega);generalize xs[k].addr=p at*;generalize xs[k].bits=q at*;have hpc:=tP 47 p q;have HIA:=zaa (fun w h=>im p w i1 h);have HIB:=zaa (fun w h=>im q w i2 h);rw[ea]at HIA;rw[eb]at HIB;have HPL:=zaa hpl;(have za:(bOf (Lib.decDigits p.toNat)).size<=5:=by rw[bf];exact la);(have zb:(bOf (Lib.decDigits q.toNat)).size<=5:=by rw[bf];exact lb);have r1:∀w,(Op.stringOp .add (bOf (Lib.decDigits p.toNat)) ⟨#[47]⟩).run Tryz.prog w= .ok (.string (bOf (Lib.decDigits p.toNat)++⟨#[47]⟩)) w:=fun w=>run_string_add_sum w _ _ (by show _+1<=_;omega);have r2:∀w,(Op.stringOp .add (bOf (Lib.decDigits p.toNat)++⟨#[47]⟩) (bOf (Lib.decDigits q.toNat))).run Tryz.prog w= .ok (.string (bOf (cl 47 p q))) w:=fun w=>by
       rw[run_string_add_sum w _ _ (by rw[ByteArray.size_append];show _+1+_<=_;omega),hpc]
      have hz1:w1.heap.size<=wr.heap.size:=HB.out.size;(have hwf:(bOf (cl 47 p q)).size<=maxLen:=by rw[bf];unfold maxLen;omega);have HWF:=zaa hwf;have HOWN:=zaa (fun k (h:Value.ownBlock u5=some k)=>(HO.out.base_le k h).2);clear ea eb la lb hpc hpl hsuc hn1 a1 a2 a3 a4 i1 i2 hwf;have hcl:∀w',Below (wr.heap.size+1) (wr.alloc (.cells #[.int .i64 p,.int .i64 q] 32)) w'->w'.cell? ⟨wr.heap.size,0,none⟩=some (.int .i64 p)/\w'.cell? ⟨wr.heap.size,1,none⟩=some (.int .i64 q)/\qd w'/\Below w1.heap.size w1 w'/\OwR bs 9 w1.heap.size w' u5 (((xs.take k).map eT).map bOf)/\wr.heap.size<w'.heap.size:=by
       intro w' hb';have hq:Below wr.heap.size wr w':=((zac _ _).alloc (zab _) _).trans (hb'.mono (by omega));refine⟨?_,?_,(HE.out.below HB1.out).below (HB.out.trans (hq.mono hz1)),HB.out.trans (hq.mono hz1),HO.out.keep hq,by have:=hb'.size;simp at this;omega⟩
       · rw[hb'.cell (p:=⟨wr.heap.size,0,none⟩) (by simp),zah _ _ _ _ rfl];rfl
       · rw[hb'.cell (p:=⟨wr.heap.size,1,none⟩) (by simp),zah _ _ _ _ rfl];rfl
      have HCL:=zaa hcl;have HB0:=zaa (zac (wr.heap.size+1) (wr.alloc (.cells #[.int .i64 p,.int .i64 q] 32))).drew;clear hcl;(go_wp2_with fail);go_region_held3 (fun w'=>w'.cell? ⟨wr.heap.size,0,none⟩=some (.int .i64 p)/\w'.cell? ⟨wr.heap.size,1,none⟩=some (.int .i64 q)) (first|go_keep|exact⟨k1,k2⟩)
       (first
        | (go_at_call 59;refine(HIA.out _ (HCL.out _ (by first|exact HBB.out|exact HB0.out)).2.2.1).mono ?_;rintro e w2 ⟨rfl,hb2⟩;have HBB:=zaa (Below.trans (by first|exact HBB.out|exact HB0.out) (hb2.mono (HCL.out _ (by first|exact HBB.out|exact HB0.out)).2.2.2.2.2));clear hb2;obtain⟨k1,k2,_⟩:=HCL.out _ HBB.out)
        | (go_at_call 59;refine(HIB.out _ (HCL.out _ (by first|exact HBB.out|exact HB0.out)).2.2.1).mono ?_;rintro e w2 ⟨rfl,hb2⟩;have HBB:=zaa (Below.trans (by first|exact HBB.out|exact HB0.out) (hb2.mono (HCL.out _ (by first|exact HBB.out|exact HB0.out)).2.2.2.2.2));clear hb2;obtain⟨k1,k2,_⟩:=HCL.out _ HBB.out)
        | (refine eA (base:=w1.heap.size) fN (by rfl) (.tmp 19) (.tmp 28) (by rfl) (au (HCL.out _ HBB.out).2.2.2.2.1 _) (aN (r:=bs) (cs:=[.string (bOf (cl 47 p q))]) (x:=bOf (cl 47 p q)) rfl ⟨rfl,HWF.out⟩) (fun _ _ h=>h) (by rfl) (by rfl) HN1.out (by decide) ?_;intro v2 w4 ho2 hg2;have HG2:=zaa hg2;have k1:=(iU (HCL.out _ HBB.out).2.2.2.2.2 hg2 HOWN.out 0).trans (HCL.out _ HBB.out).1;have k2:=(iU (HCL.out _ HBB.out).2.2.2.2.2 hg2 HOWN.out 1).trans (HCL.out _ HBB.out).2.1;clear hg2))
      all_goals
       have hb4:=(au (HCL.out _ HBB.out).2.2.2.2.1 (.cells #[.string (bOf (cl 47 p q))] 9)).below_grown ((HCL.out _ HBB.out).2.2.2.1.alloc (HCL.out _ HBB.out).2.2.2.1.size (.cells #[.string (bOf (cl 47 p q))] 9)) HG2.out.grown;have HB4:=zaa hb4;have HO2:=zaa ho2;clear hb4 ho2 k1 k2;(go_wp2_with fail);(go_roundw);(case rel=>exact⟨k+1,by omega,by go_num,by rw[HSUC.out];exact HO2.out,HB4.out⟩);case measure=>simp[intOf];omega
    · have hte:xs.take k=xs:=zaO (by omega);rw[hte]at HO;have hj:=fun w h=>ua u5 (xs.map eT) w h (by rw[zaI];omega) (fun x hx=>by
       obtain⟨p,hp,rfl⟩:=zbR.1 hx;obtain⟨i,hi,rfl⟩:=zau hp;obtain⟨a1,a2,a3,a4⟩:=HALL.out i hi
       exact ie 47 _ _ a3 (by omega) a1 (by omega))
      have HJ:=zaa hj;clear hj hte;(go_wp2_with (go_at_call 92;refine(HJ.out _ (HO.out.sl (by decide))).mono ?_;rintro e w3 ⟨rfl,hb3⟩));(go_ret2);exact⟨xI HC.out,HB1.out.trans ((HB.out.trans (hb3.mono HB.out.size)).mono HB1.out.size)⟩
 · (have hcb:(ai xs==0)=false:=by rw[beq_eq_false_iff_ne];exact hc);have HC:=zaa hc;clear hc;(go_enter Tryz.func57,Tryz.ntmps57);(go_wp2_with (go_at_call 53;refine HCK.out.mono ?_;rintro e w1 ⟨rfl,hb1⟩));(go_ret2);exact⟨AL HC.out,hb1⟩
theorem eF(S T:List UInt8)(h:S.length+T.length<=9223372036854775807)(w:World):(Op.stringOp .add (bOf S) (bOf T)).run Tryz.prog w= .ok (.string (bOf (S++T))) w:=by
 rw[run_string_add_sum w _ _ (by rw[bf,bf];exact h),yC]
theorem iy(S:List UInt8)(c:UInt8)(h:S.length+1<=9223372036854775807)(w:World):(Op.stringOp .add (bOf S) ⟨#[c]⟩).run Tryz.prog w= .ok (.string (bOf (S++[c]))) w:=eF S [c] h w
theorem nw{n:Int}(h0:0<=n)(h1:n<1000000000000)(w:World):Calls Tryz.prog 43 #[.int .i64 n] w fun e w'=>e= .returned (.string (bOf (Lib.decDigits n.toNat)))/\Below w.heap.size w w':=by
 obtain⟨m,rfl⟩:=zaZ h0;exact ny m w (by omega)
theorem rC{l:List (List UInt8)}(h:∀x∈l,x.length<=20)(hl:l.length<=20)(k:Nat):(eX l k).length<=420:=by
 unfold eX;have h1:=il 20 (l.take k) (fun x hx=>h x (zbk hx));have h2:(l.take k).length<=20:=by rw[zat];omega
 have h3:(l.take k).length*(20+1)<=20*21:=zcv h2 (zab _);omega
theorem pZ(v:Value)(xs:List ae)(w:World)(h:Sl aA w v xs):
  Calls Tryz.prog 41 #[v] w fun e w'=>mP xs e/\Below w.heap.size w w':=by
 have hl:=h.len_le;obtain⟨A,c,rfl⟩:=h.form;have H:=zaa h;have HCK:=zaa (dS _ xs w h);clear h;by_cases hc:ai xs=0
 · have HC:=zaa hc;have hn6:=jL hc;have HALL:=zaa (lV hc);rw[hc]at HCK;clear hc;have hal:∀k,(eX (xs.map eT) k).length<=420:=rC (fun x hx=>by
    obtain⟨p,hp,rfl⟩:=zbR.1 hx;obtain⟨i,hi,rfl⟩:=zau hp;obtain⟨a1,a2,a3,a4⟩:=HALL.out i hi
    exact ie 47 _ _ a3 (by omega) a1 (by omega)) (by rw[zaI];omega)
   have HAL:=zaa hal;clear hal;(go_enter Tryz.func41,Tryz.ntmps41);(go_wp2_with (go_at_call 39;refine HCK.out.mono ?_;rintro e w1 ⟨rfl,hb1⟩;have HB1:=zaa hb1;clear hb1));have HV1:=zaa (H.out.below HB1.out);(go_loopw [5,6] (fun o i wr=>∃k:Nat,k<=xs.length/\i= .int .i64 k/\o= .string (bOf (eX (xs.map eT) k))/\Below w1.heap.size w1 wr) (fun _ i _=>xs.length-(intOf i).toNat));(case atStart=>exact⟨0,zap _,rfl,rfl,zac _ _⟩);case round=>
    obtain⟨k,hk,rfl,rfl,hB⟩:=hrel;have HB:=zaa hB;have hsl:=HAL.out k;clear hB;by_cases hlt:k<xs.length
    · obtain⟨b,off,rfl,hb⟩:=HV1.out.at_ hlt;obtain⟨f1,f2,i1,i2⟩:=(HV1.out.below HB.out).pref hlt;obtain⟨a1,a2,a3,a4⟩:=HALL.out k hlt;have DP:=zaa (fun w=>nw a3 (by omega) w);have DQ:=zaa (fun w=>nw a1 (by omega) w);have la:=cm 4 xs[k].addr.toNat (by omega);have lb:=cm 4 xs[k].bits.toNat (by omega);(have hlk:k<(xs.map eT).length:=by rw[zaI];exact hlt);(have hxk:(xs.map eT)[k]=cl 47 xs[k].addr xs[k].bits:=by rw[zbW];rfl);(have hlti:(k:Int)<(xs.length:Int):=by omega);(have hk0:(0:Int)<=(k:Int):=by omega);rcases zaG k with h0|h0
      · subst h0;have hsuc:=mO hlk;rw[hxk]at hsuc;have HSUC:=zaa (show eX (xs.map eT) (0+1)=[]++cl 47 xs[0].addr xs[0].bits by rw[hsuc];rfl);clear hsuc hlk hxk;generalize xs[0].addr=p at*;generalize xs[0].bits=q at*;obtain⟨S,hS⟩:∃S:List UInt8,S=[]:=⟨_,rfl⟩;(have hS0:eX (xs.map eT) 0=S:=by rw[hS];rfl);rw[<-hS]at HSUC;(have hSl:S.length<=420:=by rw[hS];simp);rw[hS0]at hsl⊢;clear hS hS0;simp only[Nat.zero_mul,zbH]at f1 f2;(go_wp2_with fail);obtain⟨T1,hT1⟩:∃T,T=S++Lib.decDigits p.toNat:=⟨_,rfl⟩;obtain⟨T2,hT2⟩:∃T,T=T1++[47]:=⟨_,rfl⟩;obtain⟨T3,hT3⟩:∃T,T=S++cl 47 p q:=⟨_,rfl⟩;(have hl1:T1.length<=430:=by rw[hT1,zaq];omega);(have hl2:T2.length<=431:=by rw[hT2,zaq];show _+1<=_;omega);(have R1:∀w,(Op.stringOp .add (bOf S) (bOf (Lib.decDigits p.toNat))).run Tryz.prog w= .ok (.string (bOf T1)) w:=by rw[hT1];exact eF S (Lib.decDigits p.toNat) (by omega));(have R2:∀w,(Op.stringOp .add (bOf T1) ⟨#[47]⟩).run Tryz.prog w= .ok (.string (bOf T2)) w:=by rw[hT2];exact iy T1 47 (by omega));have R3:∀w,(Op.stringOp .add (bOf T2) (bOf (Lib.decDigits q.toNat))).run Tryz.prog w= .ok (.string (bOf T3)) w:=by
         (have hpe:T2++Lib.decDigits q.toNat=T3:=by rw[hT3,hT2,hT1];unfold cl;simp);rw[<-hpe];exact eF T2 (Lib.decDigits q.toNat) (by omega)
        rw[<-hT3]at HSUC;clear hT1 hT2 hT3 hl1 hl2;have cA:∀d os,Calls Tryz.prog 43 #[.int .i64 p] (Sort.grow (redrawn wr d) os) fun e w''=>e= .returned (.string (bOf (Lib.decDigits p.toNat)))/\∃p:Regrown,w''=Sort.grow (redrawn wr p.d) p.os:=fun d os=>Calls.regrown_of (DP.out _);have cB:∀d os,Calls Tryz.prog 43 #[.int .i64 q] (Sort.grow (redrawn wr d) os) fun e w''=>e= .returned (.string (bOf (Lib.decDigits q.toNat)))/\∃p:Regrown,w''=Sort.grow (redrawn wr p.d) p.os:=fun d os=>Calls.regrown_of (DQ.out _);have g1:=cell_regrown f1;have g2:=cell_regrown f2;refine wp_region_quiet_below (by kernel_rfl) (by kernel_rfl) ?_;(repeat(quiet_step (fail)));(quiet_step (exact cA _ _));(repeat(quiet_step (fail)));(quiet_step (exact cB _ _));(repeat(quiet_step (fail)));refine wpQuiet_nil ?_;intro _ hw';obtain⟨⟨dq,osq⟩,hw''⟩:=hw';subst hw'';clear cA cB g1 g2 R1 R2 R3;(go_wp2_with fail);(go_roundw);(case rel=>exact⟨0+1,by omega,by go_num,by rw[HSUC.out],HB.out.trans ((below_regrown wr dq osq).mono HB.out.size)⟩);case measure=>simp[intOf];omega
      · have hsuc:=pG h0 hlk;rw[hxk]at hsuc;have HSUC:=zaa hsuc;(have hk0':(0:Int)<(k:Int):=by omega);clear hsuc hlk hxk;generalize xs[k].addr=p at*;generalize xs[k].bits=q at*;generalize eX (xs.map eT) k=S0 at*;have RS:=iy S0 44 (by omega);(go_wp2_with fail);clear RS;(have hSl:(S0++[44]).length<=421:=by rw[zaq];show _+1<=_;omega);generalize S0++[44]=S at*;obtain⟨T1,hT1⟩:∃T,T=S++Lib.decDigits p.toNat:=⟨_,rfl⟩;obtain⟨T2,hT2⟩:∃T,T=T1++[47]:=⟨_,rfl⟩;obtain⟨T3,hT3⟩:∃T,T=S++cl 47 p q:=⟨_,rfl⟩;(have hl1:T1.length<=430:=by rw[hT1,zaq];omega);(have hl2:T2.length<=431:=by rw[hT2,zaq];show _+1<=_;omega);(have R1:∀w,(Op.stringOp .add (bOf S) (bOf (Lib.decDigits p.toNat))).run Tryz.prog w= .ok (.string (bOf T1)) w:=by rw[hT1];exact eF S (Lib.decDigits p.toNat) (by omega));(have R2:∀w,(Op.stringOp .add (bOf T1) ⟨#[47]⟩).run Tryz.prog w= .ok (.string (bOf T2)) w:=by rw[hT2];exact iy T1 47 (by omega));have R3:∀w,(Op.stringOp .add (bOf T2) (bOf (Lib.decDigits q.toNat))).run Tryz.prog w= .ok (.string (bOf T3)) w:=by
         (have hpe:T2++Lib.decDigits q.toNat=T3:=by rw[hT3,hT2,hT1];unfold cl;simp);rw[<-hpe];exact eF T2 (Lib.decDigits q.toNat) (by omega)
        rw[<-hT3]at HSUC;clear hT1 hT2 hT3 hl1 hl2;have cA:∀d os,Calls Tryz.prog 43 #[.int .i64 p] (Sort.grow (redrawn wr d) os) fun e w''=>e= .returned (.string (bOf (Lib.decDigits p.toNat)))/\∃p:Regrown,w''=Sort.grow (redrawn wr p.d) p.os:=fun d os=>Calls.regrown_of (DP.out _);have cB:∀d os,Calls Tryz.prog 43 #[.int .i64 q] (Sort.grow (redrawn wr d) os) fun e w''=>e= .returned (.string (bOf (Lib.decDigits q.toNat)))/\∃p:Regrown,w''=Sort.grow (redrawn wr p.d) p.os:=fun d os=>Calls.regrown_of (DQ.out _);have g1:=cell_regrown f1;have g2:=cell_regrown f2;refine wp_region_quiet_below (by kernel_rfl) (by kernel_rfl) ?_;(repeat(quiet_step (fail)));(quiet_step (exact cA _ _));(repeat(quiet_step (fail)));(quiet_step (exact cB _ _));(repeat(quiet_step (fail)));refine wpQuiet_nil ?_;intro _ hw';obtain⟨⟨dq,osq⟩,hw''⟩:=hw';subst hw'';clear cA cB g1 g2 R1 R2 R3;(go_wp2_with fail);(go_roundw);(case rel=>exact⟨k+1,by omega,by go_num,by rw[HSUC.out],HB.out.trans ((below_regrown wr dq osq).mono HB.out.size)⟩);case measure=>simp[intOf];omega
    · have hte:=rD (xs.map eT) (k:=k) (by rw[zaI];omega);have HTE:=zaa hte;clear hte;(go_wp2_with fail);(go_ret2);exact⟨by rw[HTE.out];exact xI HC.out,HB1.out.trans (HB.out.mono HB1.out.size)⟩
 · (have hcb:(ai xs==0)=false:=by rw[beq_eq_false_iff_ne];exact hc);have HC:=zaa hc;clear hc;(go_enter Tryz.func41,Tryz.ntmps41);(go_wp2_with (go_at_call 39;refine HCK.out.mono ?_;rintro e w1 ⟨rfl,hb1⟩));(go_ret2);exact⟨AL HC.out,hb1⟩
end
end Go.Proofs.YtojojpjldkpmoaaGreatDoor
