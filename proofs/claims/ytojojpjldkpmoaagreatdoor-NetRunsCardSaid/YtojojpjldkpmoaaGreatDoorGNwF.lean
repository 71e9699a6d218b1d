/-
  
-/
import Derived.Test.YtojojpjldkpmoaaGreatDoorGStM
import Derived.Test.YtojojpjldkpmoaaGreatDoorGTaB
import Derived.Test.YtojojpjldkpmoaaGreatDoorGDoW
import Derived.Test.YtojojpjldkpmoaaGreatDoorGNwC
import Derived.Test.YtojojpjldkpmoaaGreatDoorGPaA
import Derived.Test.YtojojpjldkpmoaaGreatDoorGDoG
import Derived.Test.YtojojpjldkpmoaaGreatDoorGDoH
import Derived.Test.YtojojpjldkpmoaaGreatDoorGDoS
import Derived.Test.YtojojpjldkpmoaaGreatDoorGTbG
import Derived.Test.YtojojpjldkpmoaaGreatDoorGNtN
import Derived.Test.YtojojpjldkpmoaaGreatDoorGDoB
set_option linter.unusedVariables false
set_option linter.unusedSimpArgs false
set_option maxHeartbeats 16000000
set_option maxRecDepth 100000
namespace Go.Proofs.YtojojpjldkpmoaaGreatDoor
section
open Go.RowKit Go.Deep
open Go Go.RowKit Go.Deep
open Go Go.RowKit Go.Deep
end
section
open Go Go.RowKit Go.Deep
def fZ(N:Nat)(w:World):Prop:=∃w0,Env w0/\w0.heap.size<=N/\Below w0.heap.size w0 w
theorem fZ.env{N:Nat}{w:World}(h:fZ N w):Env w:=by
 obtain⟨w0,h1,_,h3⟩:=h;exact h1.below h3
theorem fZ.grown{N:Nat}{w w':World}(h:fZ N w)(hg:w.grownBy w' (some N))(hN:N<=w.heap.size):fZ N w':=by
 obtain⟨w0,h1,h2,h3⟩:=h;exact⟨w0,h1,h2,h3.trans ((mE hg hN).mono h2)⟩
theorem fZ.below{N:Nat}{w w':World}(h:fZ N w)(hb:Below w.heap.size w w')(hN:N<=w.heap.size):fZ N w':=h.grown (am N hb) hN
theorem OwR.grownN{α:Type}{r:Rep α}{E base N:Nat}{w w':World}{v:Value}{xs:List α}(h:OwR r E base w v xs)(hg:w.grownBy w' (some N))(hb:N<base)
  (hf:∀(S S':Nat->Prop) (cs:List Value) (y:α),r.holds w S cs y->r.holds w S' cs y):OwR r E base w' v xs:=
 h.kept hg (by
  rcases e:v.ownBlock with _|q
  · exact .inl rfl
  · right;intro e2;injection e2 with e2;have:=(h.base_le q e).1;omega) (fun cs y hy=>hf _ _ cs y hy)
theorem zd{st:List ab}{a:Nat}{key value:ByteArray}(h:(cD st a key value).2.2≠0):cD st a key value=(st,[],(cD st a key value).2.2):=by
 unfold cD at h⊢;split at h
 · exact absurd rfl h
 · rename_i h1;rw[if_neg h1];split at h
   · rename_i h2;rw[if_pos h2]
   · exact absurd rfl h
structure Lq(W w:World)(B:Nat)(d:Bool)(o:Value)(L:List cY):Prop where
 gr:W.grownBy w (some B)
 c0:w.cell? ⟨B,0,none⟩=some (.bool d)
 c1:w.cell? ⟨B,1,none⟩=some o
 fz:∀j,w.frozen? ⟨B,j,none⟩=false
 ow:OwR dg 99 W.heap.size w o L
theorem Lq.grow{W w w4:World}{B:Nat}{d:Bool}{o v:Value}{L:List cY}{ob:Obj}(h:Lq W w B d o L)(hB:B<W.heap.size)(hg:al (w.alloc ob) o w4 v):
  W.grownBy w4 (some B)/\w4.heap[B]? =w.heap[B]? /\w4.cell? ⟨B,1,none⟩=some o/\w4.frozen? ⟨B,1,none⟩=false:=by
 have hob:=h.ow.base_le;have hsz:=h.gr.size;have hbl:∀q,q<W.heap.size->w4.heap[q]? =w.heap[q]? :=fun q hq=>by
  rw[hg.grown.block q (by simp;omega) (fun e=>by have:=(hob q e.symm).1;omega)];exact zbf _ _ _ (by omega)
 have h4:=hg.grown.size;simp at h4;refine⟨⟨hg.grown.os.trans h.gr.os,hg.grown.tape.trans h.gr.tape,hg.grown.output.trans h.gr.output,by omega,fun q hq hne=>(hbl q hq).trans (h.gr.block q hq hne)⟩,hbl _ hB,?_,?_⟩
 · exact(zav (w:=w) (hbl B hB)).trans h.c1
 · exact(zaK (w:=w) (hbl B hB)).trans (h.fz _)
theorem Lq.next{W w w4:World}{B:Nat}{d:Bool}{o v:Value}{L L':List cY}{ob:Obj}(h:Lq W w B d o L)(hB:B<W.heap.size)(hg:al (w.alloc ob) o w4 v)(ho:OwR dg 99 W.heap.size w4 v L'):
  Lq W (w4.setCell ⟨B,1,none⟩ v) B d v L':=by
 obtain⟨g1,g2,g3,g4⟩:=h.grow hB hg;have hc:∀o',w4.cell? ⟨B,o',none⟩=w.cell? ⟨B,o',none⟩:=fun o'=>zav g2;refine⟨⟨g1.os,g1.tape,g1.output,by simp[World.setCell];exact g1.size,fun q hq hne=> ?_⟩,?_,?_,fun j=> ?_,?_⟩
 · rw[zao _ _ _ _ (by show q≠B;exact fun e=>hne (by rw[e]))];exact g1.block q hq hne
 · rw[zaj _ _ _ _ (by intro e2;injection e2 with _ e3 _;omega),hc];exact h.c0
 · exact zaJ _ _ _ (by rw[g3];rfl)
 · rw[zaz];exact(zaK (w:=w) g2).trans (h.fz j)
 · exact dW ho (p:=⟨B,1,none⟩) hB _ (fun _ _ h=>h)
theorem Lq.start(w:World)(d:Bool)(T:TypeId):Lq (w.alloc (.cells #[.bool d,.slice none 0 0] T)) (w.alloc (.cells #[.bool d,.slice none 0 0] T)) w.heap.size d (.slice none 0 0) []:=
 ⟨zaV _ _,by rw[zah _ _ _ _ rfl];rfl,by rw[zah _ _ _ _ rfl];rfl,fun j=>zaL _ _ _ _ rfl,OwR.nil _ _ (zab _)⟩
theorem bC.row{X:Nat->Prop}{w:World}{N:Nat}{x:Net}(h:bC X w N x){a:Nat}(ha:a<12):∃vs:List Value,(∀k,k<12->vs.toArray[k]? =some (.int .i64 (x.co a k)))/\
  w.rangeAt N (48+a*12) vs/\(Tryz.prog.info? 48).map (·.size)=some vs.length:=by
 refine⟨((List.range 12).map fun k=>Value.int .i64 (x.co a k)),fun k hk=> ?_,?_,by kernel_rfl⟩
 · rw[zaB,zbN,zcj hk];rfl
 · intro j v hv;have hj:j<12:=by
    have:=(zaT.1 hv).1;simpa using this
   rw[zbN,zcj hj]at hv;injection hv with hv;subst hv;exact h.co a j ha hj
theorem jf(f:Nat->Int):∀j,(bI f j).length<=j
 | 0=>zab _
 | j+1=>by
   have:=jf f j;unfold bI;split
   · simp;omega
   · omega
theorem pC{w w':World}(h:w.grownBy w' none):Below w.heap.size w w':=⟨h.os,h.tape,h.output,h.size,fun k hk=>h.block k hk (by simp)⟩
theorem Sl.str1{w:World}{b off c n:Nat}{xs:List ByteArray}(h:Sl bs w (.slice (some ⟨b,off,none⟩) n c) xs){k:Nat}(hk:k<xs.length):w.cell? ⟨b,off+k,none⟩=some (.string xs[k])/\xs[k].size<=maxLen:=by
 obtain⟨cs,⟨rfl,hw⟩,hc⟩:=h.cell hk;have:=hc 0 _ rfl;exact⟨by simpa [bs,dw]using this,hw⟩
theorem CD{w:World}{base ty:Nat}{v1 v2:Value}{k1 k2:List ByteArray}(h1:OwR bs 9 base w v1 k1)(f1:Ax v1 k1)(h2:Sl bs w v2 k2)(f2:Ax v2 k2):
  ∃v' w',(Builtin.append_ #[55,55] ty #[v1,v2]).run Tryz.prog w= .ok v' w'/\OwR bs 9 base w' v' (k1++k2)/\Below w.heap.size w w':=by
 have hbase:=h1.choose_spec.2.2.2;rcases f1 with⟨rfl,rfl⟩|⟨g1,x1,rfl,rfl⟩
 · obtain⟨v',w',r1,r2,r3⟩:=yE (ty:=ty) h1 h2 (by rcases f2 with⟨_,rfl⟩|⟨_,_,_,rfl⟩<;>simp);exact⟨v',w',r1,r2,pC r3.grown⟩
 · obtain⟨i,z,q1,q2,q3,q4,q5⟩:=nu.info;rcases f2 with⟨rfl,rfl⟩|⟨g2,x2,rfl,rfl⟩
   · refine⟨.slice (some ⟨g1,0,none⟩) 1 1,w,?_,by rw[zbM];exact h1,zac _ _⟩;simp[Builtin.append_,run_underlying nu.ht,sizeOf,typeInfo,q1,Builtin.lenOf,Builtin.firstCells,storeCells]
   · have hw2:=Sl.str1 h2 (k:=0) (by simp);have hw1:=Sl.str1 (h1.sl (by decide)) (k:=0) (by simp);simp only[zbH,zaf]at hw1 hw2;obtain⟨v',w',r1,r2,r3⟩:=run_append_arg_grows (P:=Tryz.prog) w 55 ty 9 i z 1 16 nu.ht q1 q2 q3 q4 q5 (by decide) ⟨g1,0,none⟩ 1 1 [.string x1] rfl (fun j u hu=>by
      rcases j with _|j
      · simp at hu;subst hu;exact hw1.1
      · simp at hu) ⟨g2,0,none⟩ 1 1 [.string x2] rfl (fun j u hu=>by
      rcases j with _|j
      · simp at hu;subst hu;exact hw2.1
      · simp at hu) (by decide) (by unfold maxLen;decide) (by decide)
     refine⟨v',w',r1,⟨[[.string x1],[.string x2]],rfl,fun n cs x hc hx=> ?_,?_,zax hbase r3.size⟩,pC r3⟩
     · match n,hc,hx with
       | 0,hc,hx=>simp at hc hx;subst hc hx;exact⟨rfl,hw1.2⟩
       | 1,hc,hx=>simp at hc hx;subst hc hx;exact⟨rfl,hw2.2⟩
       | n+2,hc,hx=>simp at hc
     · exact⟨r2.1,r2.2.imp id (fun⟨g,cap,cur,a1,a2,a3⟩=>⟨g,cap,cur,a1,zax hbase a2,a3⟩)⟩
theorem sM{ops:Array Oper}{rest:List Oper}{o:Oper}{a:Act}{Q:Exit->Act->World->Prop}{w:World}{base:Nat}(hgd:o.guard=none)(s x:Operand)
  (ho:o.op= .call {callee:= .builtin .append,args:= #[s,x],argTypes:= #[55,55]}) {v1 v2:Value} {k1 k2:List ByteArray}
  (h1:OwR bs 9 base w v1 k1) (f1:Ax v1 k1) (h2:Sl bs w v2 k2) (f2:Ax v2 k2) (hs:a.eval s=v1) (hx:a.eval x=v2)
  (h:∀v' w',OwR bs 9 base w' v' (k1++k2)->Below w.heap.size w w'->wpList Tryz.prog ops Q rest (a.put o.dst v') w'):wpList Tryz.prog ops Q (o::rest) a w:=
 wpList_plain hgd fun _ hK=>by
  obtain⟨v',w',hrun,h2,h3⟩:=CD (ty:=o.type) h1 f1 h2 f2;unfold Oper.wp execOp;simp only[ho,resolve,invoke,builtin,zbK,zbJ,Result.andThen_ok,zbn,zbc,zbB,hs,hx,hrun];exact hK _ _ (h v' w' h2 h3)
theorem qo(x:Net)(a:Nat)(y z:Nd):(x.setN a y).setN a z=x.setN a z:=by
 unfold Net.setN;congr 1;funext i;by_cases e:i=a<;>simp[e]
theorem ly{n:Nat}(h:n<12):(Lib.decDigits n).length<=20:=zax (cm 1 n (by show _<100;omega)) (by omega)
theorem iL{n:Nat}(h:n<12):(bQ n).size<=100/\(dO n).size<=100:=by
 have:=ly h;unfold bQ dO;rw[bf,bf,zaq,zaD,zaD];simp;omega
theorem zo{X:Nat->Prop}(N a:Nat)(x:Net)(w:World)(h:bC X w N x)(ha:a<12)(hx:bg x)(hE:fZ N w):
  Calls Tryz.prog 31 #[.pointer (some ⟨N,0,none⟩),.int .i64 (a:Nat)] w (CO X N (dv x a) w):=by
 have HM:=zaa h;have HX:=zaa hx;have HE:=zaa hE;have ha0:(0:Int)<=(a:Int):=zai a;have ha1:(a:Int)<12:=by omega
 have HA12:=zaa ha;have f1:=(h.nd a ha).dr;obtain⟨d,hd⟩:∃d,(x.nd a).dr=d:=⟨_,rfl⟩;rw[hd]at f1;have HD:=zaa hd;have HLQ:=zaa (Lq.start w d 97);have hal:=(zac w.heap.size w).alloc (zab _) (.cells #[.bool d,.slice none 0 0] 97);have HAL:=zaa hal;obtain⟨vs,hvs,hrow,hinf⟩:=(h.below hal).row ha;have HLD:=zaa hrow;have HVS:=zaa hvs;have HIF:=zaa hinf;have hNw:=h.lt;clear h hx hE hd hvs hrow hinf hal;go_enter Tryz.func31,Tryz.ntmps31
 go_wp2_with (refine wpList_load_mid rfl 48 (.tmp 27) rfl N (48+a*12) rfl vs _ HLD.out Tryz.underlying48 rfl HIF.out ?_)
 obtain⟨AB,hAB⟩:∃B,B=w.heap.size:=⟨_,rfl⟩;obtain⟨W,hW⟩:∃x,x=w.alloc (.cells #[.bool d,.slice none 0 0] 97):=⟨_,rfl⟩;rw[<-hAB,<-hW]at HLQ;rw[<-hW]at HAL;rw[<-hAB,<-hW];have HWS:=zaa (show AB<W.heap.size by rw[hW,hAB];simp);have HNA:=zaa (show N<AB by omega);have HAW:=zaa (show w.heap.size<=AB by omega);clear hW hAB HLD HIF f1;go_loopw [29] (fun u wr=>∃(j:Nat) (o:Value),j<=12/\u= .int .i64 j/\Lq W wr AB d o (bI (x.co a) j)) (fun u _=>12-(intOf u).toNat)
 case atStart=>exact⟨0,_,zap _,rfl,HLQ.out⟩
 case round=>
  obtain⟨j,o,hj,rfl,hlp⟩:=hrel;have HL3:=zaa hlp;obtain⟨Ao,no,co,rfl⟩:=ap hlp.ow (by decide);have y1:=hlp.c1;have y0:=hlp.c0;clear hlp HLQ;by_cases hlj:j<12
  · (have hji:(j:Int)<12:=by omega);have hj0:(0:Int)<=(j:Int):=zai j;have hix:∀w',(Instr.index 48 (.agg vs.toArray) (.int .i64 (j:Int))).run Tryz.prog w'= .ok (.int .i64 (x.co a j)) w':=fun w'=>rP vs.toArray (x.co a) HVS.out hlj w';obtain⟨cb1,cb2⟩:=HX.out.co a j;have hsl:(bI (x.co a) j).length<=j:=jf _ _;have HST:=zaa (show bI (x.co a) (j+1)=if 0<x.co a j then bI (x.co a) j++[⟨j,x.co a j⟩]else bI (x.co a) j from rfl);obtain⟨L,hL⟩:∃L,L=bI (x.co a) j:=⟨_,rfl⟩;rw[<-hL]at HL3 hsl HST;obtain⟨cj,hcj⟩:∃c,c=x.co a j:=⟨_,rfl⟩;rw[<-hcj]at HST cb1 cb2;simp only[<-hcj]at hix;clear hL hcj;by_cases hc0:0<cj
    · have HS1:=zaa (HST.out.trans (if_pos hc0));have HOA:=zaa (au HL3.out.ow (.cells #[.int .i64 (j:Int),.int .i64 cj] 99));have HONE:=zaa (aN (r:=dg) (w:=wr) (B:=wr.heap.size) (cs:=[.int .i64 (j:Int),.int .i64 cj]) (x:=⟨j,cj⟩) (E:=99) rfl ⟨rfl,(by show inR (j:Int);unfold inR;omega),(by show inR cj;unfold inR;omega)⟩);have y4:(wr.alloc (.cells #[.int .i64 (j:Int),.int .i64 cj] 99)).cell? ⟨AB,1,none⟩=some (.slice Ao no co):=aa ((zac _ _).alloc (zab _) _) y1;clear y0;(go_wp2_with (at_builtin;refine aR (base:=W.heap.size) gp rfl (.tmp 36) (.tmp 40) rfl HOA.out HONE.out (fun _ _ h=>h) rfl rfl (by simp;omega) (by decide) ?_;intro v2 w4 ho2 hg2;obtain⟨A9,n9,c9,rfl⟩:=ap ho2 (by decide);obtain⟨_,_,z1,z2⟩:=HL3.out.grow HWS.out hg2;have HN4:=zaa (HL3.out.next HWS.out hg2 ho2);clear ho2 hg2 y1 y4));(go_roundw);(case rel=>exact⟨j+1,_,by omega,by go_num,by rw[HS1.out];exact HN4.out⟩);case measure=>simp[intOf];omega
    · have HS1:=zaa (HST.out.trans (if_neg hc0));clear y0 y1;(go_wp2_with fail);(go_roundw);(case rel=>exact⟨j+1,_,by omega,by go_num,by rw[HS1.out];exact HL3.out⟩);case measure=>simp[intOf];omega
  · (obtain rfl:j=12:=by omega);have HB4:=zaa ((HAL.out.grown HL3.out.gr HAL.out.size (fun q e=>by injection e with e;have:=HAW.out;omega)));have hsa:=tn d (.slice Ao no co) (bI (x.co a) 12) wr (HL3.out.ow.sl (by decide)) (HE.out.env.below HB4.out).tab;unfold vm at hsa;rw[jg (HX.out.co a),if_pos rfl,<-HD.out]at hsa;have HSA:=zaa (show Calls Tryz.prog 56 #[.agg #[.bool d,.slice Ao no co]] wr fun e w'=>e= .returned (.tuple #[.string (dB x a),.int .i64 0])/\Below wr.heap.size wr w' by rw[<-HD.out];exact hsa);clear hsa HVS HL3;(go_wp2_with fail);refine HSA.out.mono ?_;rintro e w5 ⟨rfl,hb5⟩;have HB5:=zaa (HB4.out.trans (hb5.mono HB4.out.size));clear hb5 y0 y1 HSA HB4 HAL;have HM5:=zaa (HM.out.below HB5.out);obtain⟨vp,o1,o2⟩:=(HM5.out.nd a HA12.out).pf;have hsp:=pN vp (x.nd a).pf w5 o2.sl (HE.out.env.below HB5.out).tab;unfold mP at hsp;rw[(HX.out.nd a HA12.out).pf,if_pos rfl]at hsp;have HSP:=zaa (show Calls Tryz.prog 57 #[vp] w5 fun e w'=>e= .returned (.tuple #[.string (fe x a),.int .i64 0])/\Below w5.heap.size w5 w' from hsp);obtain⟨Ap,cp,hvp⟩:=o2.sl.form;subst hvp;have HTA:=zaa (show(dB x a).size<=maxLen by have:=nJ HX.out a;unfold maxLen;omega);have HTP:=zaa (show(fe x a).size<=maxLen by have:=nI HX.out HA12.out;unfold maxLen;omega);have HKA:=zaa (show(bQ a).size<=maxLen by have:=(iL HA12.out).1;unfold maxLen;omega);have HKP:=zaa (show(dO a).size<=maxLen by have:=(iL HA12.out).2;unfold maxLen;omega);have HTS:=zaa (show dv x a=if(cD (x.nd a).st a (bQ a) (dB x a)).2.2≠0 then(x,[],(cD (x.nd a).st a (bQ a) (dB x a)).2.2)else
     if(cD (cD (x.nd a).st a (bQ a) (dB x a)).1 a (dO a) (fe x a)).2.2≠0 then(x,[],(cD (cD (x.nd a).st a (bQ a) (dB x a)).1 a (dO a) (fe x a)).2.2)else
     (x.setN a {x.nd a with st:=(cD (cD (x.nd a).st a (bQ a) (dB x a)).1 a (dO a) (fe x a)).1},
      (cD (x.nd a).st a (bQ a) (dB x a)).2.1++(cD (cD (x.nd a).st a (bQ a) (dB x a)).1 a (dO a) (fe x a)).2.1,0)from rfl)
    generalize dB x a=sA at*;generalize fe x a=sP at*;have hr1:=fun w=>sn a (ly HA12.out) w;have hr2:=fun w=>oW a (ly HA12.out) w;have HIT:=zaa (fun w' (hE:Env w')=>((im (a:Int) w' (by unfold inR;omega) hE.tab).mono (fun e w'' ⟨he,hb'⟩=>⟨(by rw[he,li]),hb'⟩):Calls Tryz.prog 59 #[.int .i64 (a:Int)] w' fun e w''=>e= .returned (.string (bOf (Lib.decDigits a)))/\Below w'.heap.size w' w''));clear hsp o2;(go_wp2_with fail);refine HSP.out.mono ?_;rintro e w6 ⟨rfl,hb6⟩;have HB6:=zaa (HB5.out.trans (hb6.mono HB5.out.size));have HM6:=zaa (HM.out.below HB6.out);obtain⟨vo,o3,o4⟩:=(HM6.out.nd a HA12.out).st;have HO4:=zaa o4;obtain⟨Ao2,co2,hvo⟩:=o4.formA;subst hvo;clear hb6 o1 HSP HM5 HB5 o4;(go_wp2_with fail);refine(HIT.out _ (HE.out.env.below HB6.out)).mono ?_;rintro e w7 ⟨rfl,hb7⟩;have HB7:=zaa (HB6.out.trans (hb7.mono HB6.out.size));have HM7:=zaa (HM.out.below HB7.out);have HO5:=zaa (HO4.out.below hb7);obtain⟨stx,hstx⟩:∃s,s=(x.nd a).st:=⟨_,rfl⟩;have HPU:=zaa (tU N a (bQ a) sA x w7 HM7.out HA12.out HKA.out HTA.out);rw[<-hstx]at HPU HTS HO5;have HSTX:=zaa hstx;obtain⟨s1,k1,n1,hp1⟩:∃s1 k1 n1,cD stx a (bQ a) sA=(s1,k1,n1):=⟨_,_,_,rfl⟩;have HP1:=zaa hp1;rw[hp1]at HPU HTS;clear hb7 o3 HB6 HM6 HO4 hp1;(go_wp2_with fail);refine HPU.out.mono ?_;rintro e w8 ⟨vk1,rfl,hk1,hf1,hm8,hg8⟩;have HF1:=zaa hf1;obtain⟨Ak1,nk1,ck1,rfl⟩:=ap hk1 (by decide);have hz7:=HB7.out.size;have HK1:=zaa (hk1.lower hz7);have HG8:=zaa ((am N HB7.out).trans hg8);have HM8:=zaa hm8;have HO6:=zaa (HO5.out.grownN hg8);clear hk1 hg8 hm8 hz7 hf1 HPU HO5;by_cases hn1:n1=0
    · subst hn1;have HE8:=zaa (HE.out.grown HG8.out (by omega));have HTS2:=zaa (HTS.out.trans (if_neg (by simp)));(go_wp2_with fail);refine(HIT.out _ HE8.out.env).mono ?_;rintro e w9 ⟨rfl,hb9⟩;have HM9:=zaa (HM8.out.below hb9);have HG9:=zaa (HG8.out.trans (am N hb9));have HK9:=zaa (HK1.out.keep hb9);have HO9:=zaa (HO6.out.below hb9);have hpu:=tU N a (dO a) sP (x.setN a {x.nd a with st:=s1}) w9 HM9.out HA12.out HKP.out HTP.out;rw[bo]at hpu;have HPU:=zaa hpu;obtain⟨s2,k2,n2,hp2⟩:∃s2 k2 n2,cD s1 a (dO a) sP=(s2,k2,n2):=⟨_,_,_,rfl⟩;have HP2:=zaa hp2;simp only[hp2]at HPU HTS2;clear hb9 hpu hp2 HG8 HM8 HO6 HK1 HE8 HTS;(go_wp2_with fail);refine HPU.out.mono ?_;rintro e w10 ⟨vk2,rfl,hk2,hf2,hm10,hg10⟩;have HF2:=zaa hf2;obtain⟨Ak2,nk2,ck2,rfl⟩:=ap hk2 (by decide);have HG10:=zaa (HG9.out.trans hg10);have HM10:=zaa hm10;have HK10:=zaa (HK9.out.grownN hg10 hNw (fun _ _ _ _ h=>h));have HO10:=zaa (HO9.out.grownN hg10);have HK2:=zaa hk2;clear hk2 hm10 hg10 hf2 HPU HG9 HM9 HK9 HO9;by_cases hn2:n2=0
      · subst hn2;have HTS3:=zaa (HTS2.out.trans (if_neg (by simp)));have hm:=HM10.out;simp only[bo,qo]at hm;have HM11:=zaa hm;clear hm HTS2;(go_wp2_with (at_builtin;refine sM (base:=w.heap.size) rfl (.tmp 106) (.tmp 107) rfl HK10.out HF1.out (HK2.out.sl (by decide)) HF2.out rfl rfl ?_;intro v11 w11 ho11 hb11));(go_ret2);exact iK HTS3.out (ho11.slG (by decide) (fun _ _ _ _ h=>h)) (HM11.out.below hb11) (HG10.out.trans (am N hb11))
      · (have hnb2:(n2 !=0)=true:=by simpa using hn2);have HTS3:=zaa (HTS2.out.trans (if_pos hn2));have HRS:=zaa ((HM10.out.setSt HA12.out HO10.out));obtain⟨vx,g1,_⟩:=(HM10.out.nd a HA12.out).st;have g2:=HM10.out.fz (a*4);have HMX:=zaa (show bC X (w10.setCell ⟨N,a*4,none⟩ (.slice Ao2 stx.length co2)) N x by
         have h9:=HRS.out;simp only[bo,qo]at h9;rw[HSTX.out,jG]at h9;rw[HSTX.out]
         exact h9)
        have HGX:=zaa (HG10.out.trans (ba w10 N (a*4) (.slice Ao2 stx.length co2)));rw[hstx]at HMX HGX;clear HRS hn2 HTS2;(go_wp2_with fail);(go_ret2);exact iK HTS3.out (SlF.nil _ _ _) HMX.out HGX.out
    · (have hnb:(n1 !=0)=true:=by simpa using hn1);have HTS2:=zaa (HTS.out.trans (if_pos hn1));have hs1:s1=stx:=by
       have h9:=zd (st:=stx) (a:=a) (key:=bQ a) (value:=sA) (by rw[HP1.out];exact hn1);rw[HP1.out]at h9;injection h9
      have HM9:=zaa (show bC X w8 N x by
       have h9:=HM8.out;rw[hs1,HSTX.out,jG]at h9
       exact h9)
      clear hs1 hn1;(go_wp2_with fail);(go_ret2);exact iK HTS2.out (SlF.nil _ _ _) HM9.out HG8.out
end
end Go.Proofs.YtojojpjldkpmoaaGreatDoor
