/-
  
-/
import Derived.Test.YtojojpjldkpmoaaGreatDoorGNwA
import Derived.Test.YtojojpjldkpmoaaGreatDoorGPaZ
import Derived.Test.YtojojpjldkpmoaaGreatDoorGTbF
import Derived.Test.YtojojpjldkpmoaaGreatDoorGNtN
import Derived.Test.YtojojpjldkpmoaaGreatDoorGTbG
import Derived.Test.YtojojpjldkpmoaaGreatDoorGTaB
import Derived.Test.YtojojpjldkpmoaaGreatDoorGNwG
import Derived.Test.YtojojpjldkpmoaaGreatDoorGPaA
import Derived.Test.YtojojpjldkpmoaaGreatDoorGTaE
import Derived.Test.YtojojpjldkpmoaaGreatDoorGStP
import Derived.Test.YtojojpjldkpmoaaGreatDoorGDoF
import Derived.Test.YtojojpjldkpmoaaGreatDoorGTbE
import Derived.Test.YtojojpjldkpmoaaGreatDoorGTbC
import Derived.Test.YtojojpjldkpmoaaGreatDoorGShf
import Derived.Test.YtojojpjldkpmoaaGreatDoorGDoG
import Derived.Deep.RegionHeld3
import Derived.Test.YtojojpjldkpmoaaGreatDoorGNwF
set_option linter.unusedVariables false
set_option linter.unusedSimpArgs false
set_option maxHeartbeats 16000000
set_option maxRecDepth 100000
namespace Go.Proofs.YtojojpjldkpmoaaGreatDoor
section
open Go Go.RowKit Go.Deep
theorem SlR.formD{α:Type}{r:Rep α}{w:World}{S:Nat->Prop}{v:Value}{xs:List α}(h:SlR r w S v xs):∃A c,v= .slice A xs.length c:=by
 obtain⟨A,c,e,_⟩:=h;exact⟨A,c,e⟩
theorem sY{st:List ab}{a:Nat}(h:OkS st)(ha:a<12):cU st (a:Int)=(cH st a 12,0):=by
 unfold cU;rw[if_neg (by rw[h.check];simp),if_pos (by simp;omega)];rfl
theorem j8{xs:List af}(h:ah xs=0):aE xs:=zaR.2 fun i j hi hj hij=>og h hij hj
theorem zV{r:af}(h:dG r):vn r:=⟨h.pre,h.len,h.wf⟩
theorem tV{X:Nat->Prop}(N a:Nat)(x:Net)(w:World)(h:bC X w N x)(ha:a<12)(hx:bg x)(hE:Env w):
  Calls Tryz.prog 34 #[.pointer (some ⟨N,0,none⟩),.int .i64 (a:Nat)] w (yK X N (lx x a) (.returned (.int .i64 0)) w):=by
 have HM:=zaa h;have ha0:(0:Int)<=(a:Int):=zai a;have ha1:(a:Int)<12:=by omega
 have HA12:=zaa ha;obtain⟨v,c0,s0⟩:=(h.nd a ha).st;obtain⟨vt,t0,q0⟩:=(h.nd a ha).tb;have hok:=(hx.nd a ha).st;have htb:=(hx.nd a ha).tb;have hdec:lx x a=x.setN a {x.nd a with tb:=cH (x.nd a).st a 12}:=rfl;obtain⟨st,hst⟩:∃st,st=(x.nd a).st:=⟨_,rfl⟩;rw[<-hst]at s0 hok hdec;obtain⟨tb,htbe⟩:∃tb,tb=(x.nd a).tb:=⟨_,rfl⟩;rw[<-htbe]at q0 htb;obtain⟨A,c,rfl⟩:=s0.formD;obtain⟨At,ct,rfl⟩:=q0.formD;have htab:=yQ (.slice A st.length c) st (a:Int) w s0.sl (by unfold inR;omega) hE;rw[sY hok ha]at htab;obtain⟨T,hT⟩:∃T,T=cH st a 12:=⟨_,rfl⟩;have htc:ah T=0:=by rw[hT];exact yy ha
 have htl:T.length<=72:=by rw[hT];have:=ni st a 12;omega
 have hset:∀r∈dM tb T,vn r:=fun r hr=>zV (lp (xs:=st) ha 12 (zab _) r (by rw[<-hT];exact(zbu.1 hr).1));have hsl:(dM tb T).length<=400:=zax (zbC _ _) (by omega);have hpd:gg tb (dM tb T) (cP tb T)=T:=wi (j8 htb) (j8 htc);have hdf:mH tb T=(dM tb T,cP tb T,0):=yu htb htc;rw[<-hT]at htab hdec;have HD:=zaa hdec;have HT:=zaa htab;have HQ:=zaa (SlN.sl q0);have HTB:=zaa htb;have HSET:=zaa hset;have HSL:=zaa hsl;have HPD:=zaa hpd;have HDF:=zaa hdf;have HTC:=zaa htc;clear h hx hE s0 q0 hok htb hdec hst htbe htab hT htc htl hset hsl hpd hdf;go_enter Tryz.func34,Tryz.ntmps34
 go_wp2_with fail
 refine HT.out.mono ?_;rintro e w1 ⟨v1,rfl,ho1,hb1⟩;obtain⟨A1,n1,c1,rfl⟩:=ap ho1 (by decide);have HB1:=zaa hb1;have HO1:=zaa ho1;have t1:=aa hb1 t0;have HDI:=zaa (Cm (.slice At tb.length ct) (.slice A1 n1 c1) tb T w1 (HQ.out.below hb1) (ho1.sl (by decide)));unfold pK at HDI;rw[HDF.out]at HDI;clear ho1 hb1;go_wp2_with fail
 refine HDI.out.mono ?_;rintro e w2 ⟨v2,u2,rfl,hs2,hp2,hb2⟩;obtain⟨A2,c2,hv2⟩:=hs2.form;obtain⟨A3,c3,hu2⟩:=hp2.form;subst hv2 hu2;have HB2:=zaa (HB1.out.trans (hb2.mono HB1.out.size));have t2:=aa hb2 t1;have HPA:=zaa (wj (.slice At tb.length ct) (.slice A2 (dM tb T).length c2) (.slice A3 (cP tb T).length c3) tb (dM tb T) (cP tb T) w2 (HQ.out.below HB2.out) hs2 hp2 HTB.out HSET.out HSL.out);unfold EO se at HPA;rw[HPD.out,HTC.out,if_pos rfl]at HPA;have hz2:=HB2.out.size;clear hs2 hp2 hb2;go_wp2_with fail
 refine HPA.out.mono ?_;rintro e w3 ⟨v3,rfl,ho3,hb3⟩;obtain⟨A4,c4,rfl⟩:=ho3.formD;have HB3:=zaa (HB2.out.trans (hb3.mono HB2.out.size));have HS:=zaa ((HM.out.below HB3.out).setTb HA12.out (ho3.toN (by have:=HM.out.lt;omega) (fun k hk=>HM.out.top k (by omega))));obtain⟨vx,g1,_⟩:=((HM.out.below HB3.out).nd a HA12.out).tb;have g2:=(HM.out.below HB3.out).fz (a*4+3);have HG:=zaa ((am N HB3.out).trans (ba w3 N (a*4+3) (.slice A4 T.length c4)));clear ho3 hb3 hz2;go_wp2_with fail
 go_ret
 exact⟨rfl,by rw[HD.out];exact HS.out,HG.out⟩
end
section
open Go.RowKit Go.Sort
def ec(xs:List af)(addr:Int)(w:World)(e:Ending)(w':World):Prop:=
 ∃v',e= .returned (.tuple #[.agg #[.int .i64 (bX xs addr).1.pre.addr,.int .i64 (bX xs addr).1.pre.bits,.bool (bX xs addr).1.here,.int .i64 (bX xs addr).1.cost,v'],.int .i64 (bX xs addr).2])/\
  Sl aI w' v' (bX xs addr).1.hops/\Below w.heap.size w w'
theorem fL{xs:List af}{addr:Int}{w w':World}{v':Value}{r:af}{n:Int}(h:bX xs addr=(r,n))(hs:Sl aI w' v' r.hops)(hb:Below w.heap.size w w'):
  ec xs addr w (.returned (.tuple #[.agg #[.int .i64 r.pre.addr,.int .i64 r.pre.bits,.bool r.here,.int .i64 r.cost,v'],.int .i64 n])) w':=by
 refine⟨v',?_,?_,hb⟩
 · rw[h]
 · rw[h];exact hs
def uV:Option Nat->Int
 | none=> -1
 | some j=>(j:Int)
theorem b5{w w1:World}(h:Below w.heap.size w w1)(a b c d e:Value):
  Below w.heap.size w (((((w1.setCell ⟨w.heap.size,0,none⟩ a).setCell ⟨w.heap.size,1,none⟩ b).setCell ⟨w.heap.size,2,none⟩ c).setCell ⟨w.heap.size,3,none⟩ d).setCell ⟨w.heap.size,4,none⟩ e):=
 ((((h.setCell (zab _) _).setCell (zab _) _).setCell (zab _) _).setCell (zab _) _).setCell (zab _) _
theorem Sl.five{w:World}{v:Value}{xs:List Int}{B:Nat}(h:SlR aI w (fun k=>k<w.heap.size/\k≠B) v xs)(a b c d e:Value):
  Sl aI (((((w.setCell ⟨B,0,none⟩ a).setCell ⟨B,1,none⟩ b).setCell ⟨B,2,none⟩ c).setCell ⟨B,3,none⟩ d).setCell ⟨B,4,none⟩ e) v xs:=by
 refine SlR.keep h (fun k hk=> ?_) (fun k hk=> ?_)
 · iterate 5 rw[zao _ _ _ k hk.2]
 · simpa [World.setCell]using hk.1
theorem OwR.slB{E base:Nat}{w:World}{v:Value}{xs:List Int}(h:OwR aI E base w v xs):SlR aI w (fun k=>k<w.heap.size/\base<=k) v xs:=by
 obtain⟨A,c,rfl,h1,h2,h3⟩:=h.sl (by decide);refine⟨A,c,rfl,h1,h2,fun i x hx=> ?_⟩;obtain⟨b,off,cs,rfl,hS,hb,hh,hc⟩:=h3 i x hx;exact⟨b,off,cs,rfl,⟨hb,(h.base_le b rfl).1⟩,hb,hh,hc⟩
theorem wB(v:Value)(xs:List af)(addr:Int)(w:World)(h:Sl aB w v xs):Calls Tryz.prog 70 #[v,.int .i64 addr] w (ec xs addr w):=by
 have hB0:Below w.heap.size w (w.alloc (.cells #[.int .i64 0,.int .i64 0,.bool false,.int .i64 0,.slice none 0 0] 130)):=(zac _ _).alloc (zab _) _;have H0:=zaa (h.below hB0);have hlen:=h.len_le;obtain⟨A,c,rfl⟩:=h.form;have H:=zaa h;clear h hB0;go_enter Tryz.func70,Tryz.ntmps70
 go_wp2_with fail
 refine(eS _ xs _ H0.out).mono ?_;rintro r w1 ⟨rfl,hb1⟩;obtain⟨hA,hN,hM,hS⟩:=aT hb1;have HA:=zaa hA;clear hA hb1 H0;by_cases hc:ah xs=0
 · (have t1:(ah xs !=0)=false:=by simp[hc]);have hok:=fk hc;have hl2:=hok.1;have HOK:=zaa hok.2;have HC:=zaa hc;clear hok hc;by_cases ha:addr<0∨255<addr
   · have HL:=zaa (oS HC.out ha);have hfin:∀{w'},Below w.heap.size w w'->ec xs addr w (.returned (.tuple #[.agg #[.int .i64 0,.int .i64 0,.bool false,.int .i64 0,.slice none 0 0],.int .i64 2])) w':=fun hb=>fL HL.out (Sl.nil _ _) hb;have HF:=zaa (hfin (b5 HA.out (.int .i64 0) (.int .i64 0) (.bool false) (.int .i64 0) (.slice none 0 0)));clear hfin;rcases ha with ha|ha
     · (go_wp2_with fail);exact bodyPost_ret (v:= .tuple #[.agg #[.int .i64 0,.int .i64 0,.bool false,.int .i64 0,.slice none 0 0],.int .i64 2]) (by simp[results,Tryz.results70,go_sem,hN,hS]) rfl HF.out
     · (go_wp2_with fail);exact bodyPost_ret (v:= .tuple #[.agg #[.int .i64 0,.int .i64 0,.bool false,.int .i64 0,.slice none 0 0],.int .i64 2]) (by simp[results,Tryz.results70,go_sem,hN,hS]) rfl HF.out
   · (have a1:0<=addr:=by omega);(have a2:addr<=255:=by omega);(have a3:¬ addr<0:=by omega);(have a4:¬ 255<addr:=by omega);clear ha;(go_wp2_with fail);(go_loopw [7,8,9,25] (fun s7 _ _ s25 wr=>∃k:Nat,k<=xs.length/\s25= .int .i64 k/\s7= .int .i64 (uV (cW xs addr k))/\Below w1.heap.size w1 wr) (fun _ _ _ s25 _=>xs.length-(intOf s25).toNat));(case atStart=>exact⟨0,zap _,rfl,rfl,zac _ _⟩);case round=>
      obtain⟨k,hk,rfl,rfl,hB⟩:=hrel;have hez:=hB.size;have HB:=zaa hB;have HBW:=zaa (HA.out.trans (hB.mono HA.out.size));have hNr:∀i,wr.cell? ⟨w.heap.size,i,none⟩= #[Value.int .i64 0,.int .i64 0,.bool false,.int .i64 0,.slice none 0 0][i]? :=fun i=>(bAt hB hS i).trans (hN i);have hMr:∀i,wr.frozen? ⟨w.heap.size,i,none⟩=false:=fun i=>(bFz hB hS i).trans (hM i);have hSr:w.heap.size<wr.heap.size:=zas hS hez;clear hB hN hM;obtain⟨bt,hbt⟩:∃bt,cW xs addr k=bt:=⟨_,rfl⟩;have HBT:=zaa hbt;rw[hbt];clear hbt;by_cases hlt:k<xs.length
      · obtain⟨b,off,rfl,hb⟩:=H.out.at_ hlt;obtain⟨hv,f1,f2,f3,f4,f5,hsl,hwf⟩:=(H.out.below HBW.out).route hlt;obtain⟨A2,c2,rfl⟩:=hsl.form;obtain⟨o1,o2,o3,o4⟩:=eH (dy (HOK.out k hlt)).1;have hand:=uZ addr xs[k].pre.bits o1 o2 a1 a2;(have hgk:xs.getD k bW=xs[k]:=by simp[List.getD,hlt]);have hstep:cW xs addr (k+1)=if fv addr xs[k]&&gV xs k bt then some k else bt:=by
         show(if fv addr (xs.getD k bW)&&gV xs k (cW xs addr k)then some k else cW xs addr k)=_;rw[hgk,HBT.out]
        have HST:=zaa hstep;(have o1':¬ xs[k].pre.bits<0:=by omega);clear hsl hwf hstep;have hbr:Below w1.heap.size w1 (wr.alloc (.cells #[.int .i64 xs[k].pre.addr,.int .i64 xs[k].pre.bits,.bool xs[k].here,.int .i64 xs[k].cost,.slice A2 xs[k].hops.length c2] 130)):=HB.out.alloc hez _;have HBR:=zaa hbr;have q2:0<=xs[k].pre.bits:=o1;clear hbr;rcases hmm:fv addr xs[k]with _|_
        · have hm:(addr-addr%b7 xs[k].pre.bits==xs[k].pre.addr)=false:=hmm;have HMM:=zaa hmm;clear hmm;(go_wp2_with fail);(go_quiet (fail));(go_wp2_with fail);(go_roundw);(case rel=>exact⟨k+1,by omega,by go_num,by rw[HST.out,HMM.out];rfl,ag HBR.out _⟩);case measure=>simp[intOf];omega
        · have hm:(addr-addr%b7 xs[k].pre.bits==xs[k].pre.addr)=true:=hmm;have HMM:=zaa hmm;clear hmm;rcases bt with _|j
          · have hbn:uV none= -1:=rfl;(go_wp2_with fail);(go_quiet (fail));(go_wp2_with fail);(go_roundw);(case rel=>exact⟨k+1,by omega,by go_num,by rw[HST.out,HMM.out];rfl,ag HBR.out _⟩);case measure=>simp[intOf];omega
          · have hbn:uV (some j)=(j:Int):=rfl;obtain⟨hjk,_,_⟩:=ix xs addr k j HBT.out;(have hjl:j<xs.length:=by omega);(have hgj:xs.getD j bW=xs[j]:=by simp[List.getD,hjl]);have HGJ:=zaa hgj;have HGK:=zaa hgk;obtain⟨_,g1,g2,z3,z4,z5,z6,z7⟩:=(H.out.below HBW.out).route hjl;have r0:(0:Int)<=(j:Int):=zai _;(have r1:(j:Int)<(xs.length:Int):=by omega);(have r2:decide ((j:Int)<0)=false:=by rw[decide_eq_false_iff_not];omega);(have hbwj:b<wr.heap.size:=by have:=HBW.out.size;omega);clear z3 z4 z5 z6 z7 hgj hgk;by_cases hlb:xs[j].pre.bits<xs[k].pre.bits
            · (have r3:decide (xs[j].pre.bits<xs[k].pre.bits)=true:=by rw[decide_eq_true_iff];exact hlb);have hbb:gV xs k (some j)=decide (xs[j].pre.bits<xs[k].pre.bits):=by
               show decide ((xs.getD j bW).pre.bits<(xs.getD k bW).pre.bits)=_;rw[HGJ.out,HGK.out]
              rw[r3]at hbb;have HBB:=zaa hbb;clear hbb;(go_wp2_with fail);(go_quiet (fail));(go_wp2_with fail);(go_roundw);(case rel=>exact⟨k+1,by omega,by go_num,by rw[HST.out,HMM.out,HBB.out];rfl,ag HBR.out _⟩);case measure=>simp[intOf];omega
            · (have r3:decide (xs[j].pre.bits<xs[k].pre.bits)=false:=by rw[decide_eq_false_iff_not];exact hlb);have hbb:gV xs k (some j)=decide (xs[j].pre.bits<xs[k].pre.bits):=by
               show decide ((xs.getD j bW).pre.bits<(xs.getD k bW).pre.bits)=_;rw[HGJ.out,HGK.out]
              rw[r3]at hbb;have HBB:=zaa hbb;clear hbb;(go_wp2_with fail);(go_quiet (fail));(go_wp2_with fail);(go_roundw);(case rel=>exact⟨k+1,by omega,by go_num,by rw[HST.out,HMM.out,HBB.out];rfl,ag HBR.out _⟩);case measure=>simp[intOf];omega
      · (have hkk:k=xs.length:=by omega);rcases bt with _|j
        · (have hbn:uV none<0:=by decide);have HL:=zaa (qM HC.out ⟨a1,a2⟩ (by rw[<-hkk];exact HBT.out));have hfin:∀{w'},Below w.heap.size w w'->ec xs addr w (.returned (.tuple #[.agg #[.int .i64 0,.int .i64 0,.bool false,.int .i64 0,.slice none 0 0],.int .i64 6])) w':=fun hb=>fL HL.out (Sl.nil _ _) hb;have HF:=zaa (hfin (b5 HBW.out (.int .i64 0) (.int .i64 0) (.bool false) (.int .i64 0) (.slice none 0 0)));clear hfin hkk;(go_wp2_with fail);exact bodyPost_ret (v:= .tuple #[.agg #[.int .i64 0,.int .i64 0,.bool false,.int .i64 0,.slice none 0 0],.int .i64 6]) (by simp[results,Tryz.results70,go_sem,hNr,hSr]) rfl HF.out
        · have hbn:uV (some j)=(j:Int):=rfl;obtain⟨hjk,_,_⟩:=ix xs addr k j HBT.out;(have hjl:j<xs.length:=by omega);have HL:=zaa (qL HC.out ⟨a1,a2⟩ (by rw[<-hkk];exact HBT.out) hjl);obtain⟨b,off,rfl,hb⟩:=H.out.at_ hjl;obtain⟨hv,f1,f2,f3,f4,f5,hsl,hwf⟩:=(H.out.below HBW.out).route hjl;have hcop:=iR xs[j] hv wr hsl (by have:=(dy (HOK.out j hjl)).2;omega);obtain⟨A2,c2,rfl⟩:=hsl.form;have HCOP:=zaa hcop;have r0:(0:Int)<=(j:Int):=zai _;(have r1:(j:Int)<(xs.length:Int):=by omega);(have r2:¬ ((j:Int)<0):=by omega);clear hkk hsl hwf hcop;(go_wp2_with fail);refine HCOP.out.mono ?_;rintro e w2 ⟨v1,rfl,ho1,hb2⟩;obtain⟨A3,c3,rfl⟩:=ho1.form;have hN2:∀i,w2.cell? ⟨w.heap.size,i,none⟩= #[Value.int .i64 0,.int .i64 0,.bool false,.int .i64 0,.slice none 0 0][i]? :=fun i=>(bAt hb2 hSr i).trans (hNr i);have hM2:∀i,w2.frozen? ⟨w.heap.size,i,none⟩=false:=fun i=>(bFz hb2 hSr i).trans (hMr i);have hS2:w.heap.size<w2.heap.size:=zas hSr hb2.size;have hfin:=fL HL.out (Sl.five (B:=w.heap.size) (SlR.keep ho1.slB (fun _ _=>rfl) (fun k hk=>⟨hk.1,by have:=hk.2;omega⟩)) (.int .i64 xs[j].pre.addr) (.int .i64 xs[j].pre.bits) (.bool xs[j].here) (.int .i64 xs[j].cost) (.slice A3 xs[j].hops.length c3)) (b5 (HBW.out.trans (hb2.mono HBW.out.size)) _ _ _ _ _);have HF:=zaa hfin;clear hb2 ho1 hNr hMr hfin;(go_wp2_with fail);exact bodyPost_ret (v:= .tuple #[.agg #[.int .i64 xs[j].pre.addr,.int .i64 xs[j].pre.bits,.bool xs[j].here,.int .i64 xs[j].cost,.slice A3 xs[j].hops.length c3],.int .i64 0]) (by simp[results,Tryz.results70,go_sem,hN2,hS2]) rfl HF.out
 · (have t1:(ah xs !=0)=true:=by simp[hc]);have HL:=zaa (tY (addr:=addr) hc);have hfin:∀{w'},Below w.heap.size w w'->ec xs addr w (.returned (.tuple #[.agg #[.int .i64 0,.int .i64 0,.bool false,.int .i64 0,.slice none 0 0],.int .i64 (ah xs)])) w':=fun hb=>fL HL.out (Sl.nil _ _) hb;have HF:=zaa (hfin (b5 HA.out (.int .i64 0) (.int .i64 0) (.bool false) (.int .i64 0) (.slice none 0 0)));clear hc hfin;(go_wp2_with fail);exact bodyPost_ret (v:= .tuple #[.agg #[.int .i64 0,.int .i64 0,.bool false,.int .i64 0,.slice none 0 0],.int .i64 (ah xs)]) (by simp[results,Tryz.results70,go_sem,hN,hS]) rfl HF.out
theorem SlR.route{w:World}{S:Nat->Prop}{b off c n:Nat}{xs:List af}(h:SlR aB w S (.slice (some ⟨b,off,none⟩) n c) xs){k:Nat}(hk:k<xs.length):
  ∃v,w.cell? ⟨b,off+k*5,none⟩=some (.int .i64 xs[k].pre.addr)/\w.cell? ⟨b,off+k*5+1,none⟩=some (.int .i64 xs[k].pre.bits)/\w.cell? ⟨b,off+k*5+2,none⟩=some (.bool xs[k].here)/\
   w.cell? ⟨b,off+k*5+3,none⟩=some (.int .i64 xs[k].cost)/\w.cell? ⟨b,off+k*5+4,none⟩=some v/\SlR aI w S v xs[k].hops/\xs[k].wf:=by
 obtain⟨A',c',hv,_,_,h3⟩:=h;injection hv with e1 e2 e3;subst e1;obtain⟨b',off',cs,hA,_,hb,⟨v,rfl,hs,hw⟩,hc⟩:=h3 k xs[k] (zad hk);injection hA with hA;injection hA with g1 g2;subst g1 g2;exact⟨v,hc 0 _ rfl,hc 1 _ rfl,hc 2 _ rfl,hc 3 _ rfl,hc 4 _ rfl,hs,hw⟩
theorem SlR.form{α:Type}{r:Rep α}{w:World}{S:Nat->Prop}{v:Value}{xs:List α}(h:SlR r w S v xs):∃A c,v= .slice A xs.length c:=by
 obtain⟨A,c,hv,_⟩:=h;exact⟨A,c,hv⟩
end
section
open Go
theorem BL{xs:List af}{addr:Int}{r:af}(h:ah xs=0)(hl:bX xs addr=(r,0)):r∈xs:=by
 unfold bX at hl;rw[if_neg (by simp[h])]at hl;split at hl
 · injection hl with _ e;cases e
 · split at hl
   · injection hl with _ e;cases e
   · rename_i j hb;obtain⟨h1,_⟩:=ix xs addr xs.length j hb;injection hl with e _;rw[<-e,zay,zad h1];exact zaw h1
theorem qS{l:List Int}:∀(n k:Nat),k+n=l.length->cz l n k=true->∀i,(h:i<l.length)->k<=i->0<=l[i]/\l[i]<=11
 | 0,k,hk,_,i,hi,hki=>by omega
 | n+1,k,hk,h,i,hi,hki=>by
   unfold cz at h;(have hkl:k<l.length:=by omega);rw[zad hkl]at h;simp only[Bool.and_eq_true,decide_eq_true_eq]at h;by_cases e:i=k
   · subst e;exact⟨h.1.1.1,h.1.1.2⟩
   · exact qS n (k+1) (by omega) h.2 i hi (by omega)
theorem vP{r:af}(h:aX r=0)(hh:r.here=false):0<r.hops.length/\r.hops.length<=12/\∀i,(h:i<r.hops.length)->0<=r.hops[i]/\r.hops[i]<=11:=by
 have hl:=(dy h).2;unfold aX at h;split at h
 · rename_i hc;rw[Bool.and_eq_true]at hc;obtain⟨h1,h2⟩:=hc;unfold eh at h1;rw[hh]at h1;simp only[Bool.and_eq_true,decide_eq_true_eq,Bool.false_eq_true,if_false,Bool.not_eq_true',List.isEmpty_eq_false_iff]at h1;refine⟨List.length_pos_iff.2 h1.2,hl,fun i hi=>qS (l:=r.hops) r.hops.length 0 (by omega) (by unfold gZ at h2;simpa using h2) i hi (zap _)⟩
 · cases h
theorem qN{xs:List af}{addr:Int}{r:af}(h:ah xs=0)(hl:bX xs addr=(r,0))(hh:r.here=false):0<r.hops.length/\r.hops.length<=12/\∀i,(h:i<r.hops.length)->0<=r.hops[i]/\r.hops[i]<=11:=by
 obtain⟨i,hi,rfl⟩:=zau (BL h hl);exact vP ((fk h).2 i hi) hh
end
section
open Go Go.RowKit Go.Deep
def slN(v:Value):Nat:=match v with
 | .slice _ n _=>n
 | _=>0
def D3(X:Nat->Prop)(N:Nat)(x:Net)(r:List Int × Int × Int)(w:World)(e:Ending)(w':World):Prop:=
 ∃vp,e= .returned (.tuple #[vp,.int .i64 r.2.1,.int .i64 r.2.2])/\SlF aI w.heap.size w' vp r.1/\bC X w' N x/\Below w.heap.size w w'
theorem nC{X:Nat->Prop}{N:Nat}{x:Net}{r:List Int × Int × Int}{p:List Int}{c n:Int}(hr:r=(p,c,n)){w w':World}{vp:Value}(h1:SlF aI w.heap.size w' vp p)(h2:bC X w' N x)(h3:Below w.heap.size w w'):
 D3 X N x r w (.returned (.tuple #[vp,.int .i64 c,.int .i64 n])) w':=⟨vp,by rw[hr],by rw[hr];exact h1,h2,h3⟩
theorem ye{w:World}{base B:Nat}{k:Int}(hk:inR k)(hb:base<=w.heap.size)(hB:B=w.heap.size):OwR aI 3 base (w.alloc (.cells #[.int .i64 k] 3)) (.slice (some ⟨B,0,none⟩) 1 1) [k]:=by
 subst hB;have h1:[k].length<=maxLen:=zak rfl;exact OwR.lit1 (f:=Value.int .i64) (xs:=[k]) rfl (fun y hy S=>⟨rfl,by simp at hy;subst hy;exact hk⟩) hb h1
theorem qg{x:Net}{addr:Int}{pick f a:Nat}{path:List Int}{cost:Int}{r:af}(hl:bX (x.nd a).tb addr=(r,0))(hh:r.here=false)(hp:¬ 12<path.length){i y:Nat}(hi:i=pick%r.hops.length)(hil:i<r.hops.length)(hy:r.hops[i]=(y:Int))(hc:x.co a y≠0):
  dQ x addr pick (f+1) path cost a=dQ x addr pick f (path++[(y:Int)]) (cost+x.co a y) y:=by
 have hg:r.hops.getD (pick%r.hops.length) 0=(y:Int):=by rw[<-hi,zay,zad hil];exact hy
 rw[dQ];rw[hl,if_neg (by simp),if_neg (by simp[hh]),if_neg hp];simp only[hg,zaX];rw[if_neg hc]
theorem sO{x:Net}{addr:Int}{pick f a:Nat}{path:List Int}{cost:Int}{r:af}(hl:bX (x.nd a).tb addr=(r,0))(hh:r.here=false)(hp:¬ 12<path.length){i y:Nat}(hi:i=pick%r.hops.length)(hil:i<r.hops.length)(hy:r.hops[i]=(y:Int))(hc:x.co a y=0):
  dQ x addr pick (f+1) path cost a=([],0,6):=by
 have hg:r.hops.getD (pick%r.hops.length) 0=(y:Int):=by rw[<-hi,zay,zad hil];exact hy
 rw[dQ];rw[hl,if_neg (by simp),if_neg (by simp[hh]),if_neg hp];simp only[hg,zaX];rw[if_pos hc]
theorem qh{x:Net}{addr:Int}{pick f a:Nat}{path:List Int}{cost:Int}{r:af}(hl:bX (x.nd a).tb addr=(r,0))(hh:r.here=false)(hp:12<path.length):
  dQ x addr pick (f+1) path cost a=([],0,10):=by
 rw[dQ];rw[hl,if_neg (by simp),if_neg (by simp[hh]),if_pos hp]
theorem qi{x:Net}{addr:Int}{pick f a:Nat}{path:List Int}{cost:Int}{r:af}(hl:bX (x.nd a).tb addr=(r,0))(hh:r.here=true):
  dQ x addr pick (f+1) path cost a=(path,cost,0):=by
 rw[dQ];rw[hl,if_neg (by simp),if_pos (by simp[hh])]
theorem xE{x:Net}{addr:Int}{pick f a:Nat}{path:List Int}{cost:Int}{r:af}{n:Int}(hl:bX (x.nd a).tb addr=(r,n))(hn:n≠0):
  dQ x addr pick (f+1) path cost a=([],0,n):=by
 rw[dQ];rw[hl,if_pos (by simpa using hn)]
theorem zm{X:Nat->Prop}(N a:Nat)(addr pick:Int)(x:Net)(w:World)(h:bC X w N x)(ha:a<12)(hx:bg x)(hadd:inR addr)(hpk:inR pick):
  Calls Tryz.prog 35 #[.pointer (some ⟨N,0,none⟩),.int .i64 (a:Nat),.int .i64 addr,.int .i64 pick] w (D3 X N x (du x a addr pick) w):=by
 have HM:=zaa h;have HX:=zaa hx;have ha0:(0:Int)<=(a:Int):=zai a;have ha1:(a:Int)<12:=by omega
 have HA12:=zaa ha;by_cases hp:pick<0
 · have HL:=zaa (show du x a addr pick=([],0,2)by unfold du;rw[if_pos hp]);clear h hx;(go_enter Tryz.func35,Tryz.ntmps35);(go_wp2_with fail);(go_ret3);exact nC HL.out (SlF.nil _ _ _) HM.out (zac _ _)
 · obtain⟨p,rfl⟩:∃p:Nat,pick=p:=⟨pick.toNat,by omega⟩;have HL:=zaa (show du x a addr p=dQ x addr p 13 [(a:Int)] 0 a by unfold du;rw[if_neg hp];rfl);have hp0:(0:Int)<=(p:Int):=zai p;unfold inR at hpk;clear h hx;(go_enter Tryz.func35,Tryz.ntmps35);(go_wp2_with fail);obtain⟨W,hW⟩:∃x,x=w.alloc (.cells #[.int .i64 (a:Int)] 3):=⟨_,rfl⟩;have HOW:=zaa (show OwR aI 3 w.heap.size W (.slice (some ⟨w.heap.size,0,none⟩) 1 1) [(a:Int)]by rw[hW];exact ye (by unfold inR;omega) (zab _) rfl);have HBW:=zaa (show Below w.heap.size w W by rw[hW];exact(zac _ _).alloc (zab _) _);rw[<-hW];clear hW;go_loopw [1,11,12,13,14,15] (fun s1 s11 s12 _ _ _ wr=>∃(b f:Nat) (path:List Int) (cost:Int),s1= .int .i64 b/\b<12/\s12= .int .i64 cost/\0<=cost/\cost<=1000*(path.length:Int)/\path.length+f=13/\1<=path.length/\OwR aI 3 w.heap.size wr s11 path/\Below w.heap.size w wr/\
    du x a addr p=dQ x addr p (f+1) path cost b) (fun _ s11 _ _ _ _ _=>14-slN s11)
   (case atStart=>exact⟨a,12,[(a:Int)],0,rfl,HA12.out,rfl,zbZ _,by simp,rfl,by simp,HOW.out,HBW.out,HL.out⟩);case round=>
    obtain⟨b,f,path,cost,rfl,hb12,rfl,hc0,hc1,hpf,hp1,ho,hb,hw⟩:=hrel;obtain⟨A1,n1,c1,rfl⟩:=ap ho (by decide);(have hn1:n1=path.length:=by obtain⟨A,c,e⟩:=(ho.sl (by decide)).form;injection e);subst hn1;have HO:=zaa ho;have HB:=zaa hb;have HW:=zaa hw;have HB12:=zaa hb12;have hb0:(0:Int)<=(b:Int):=zai b;(have hb1:(b:Int)<12:=by omega);obtain⟨vt,t0,q0⟩:=(HM.out.nd b hb12).tb;have htb:=(HX.out.nd b hb12).tb;have t1:=aa hb t0;have HTB:=zaa htb;have HLK:=zaa (wB vt (x.nd b).tb addr wr (SlN.sl (q0.below hb)));(obtain⟨At,nt,ct,rfl⟩:∃A n c,vt= .slice A n c:=by obtain⟨A,c,e,_⟩:=q0;exact⟨A,_,c,e⟩);obtain⟨r,n,hr⟩:∃r n,bX (x.nd b).tb addr=(r,n):=⟨_,_,rfl⟩;have HR:=zaa hr;unfold ec at HLK;rw[hr]at HLK;clear ho hb hw q0 htb t0 hr;(go_wp2_with fail);refine HLK.out.mono ?_;rintro e w1 ⟨vh,rfl,hs1,hbl⟩;have HB1:=zaa (HB.out.trans (hbl.mono HB.out.size));have HO1:=zaa (HO.out.keep hbl);obtain⟨Ah,ch,rfl⟩:=hs1.form;have HS1:=zaa hs1;clear hbl hs1 t1;by_cases hn:n=0
    · subst hn;cases hh:r.here with
      | true=>
        have HE:=zaa (HW.out.trans (qi HR.out hh));(go_wp2_with fail);(go_ret3);exact nC HE.out ((HO1.out.slG (by decide) (fun _ _ _ _ h=>h)).below ((zac _ _).alloc (zab _) _)) (HM.out.below (HB1.out.alloc HB1.out.size _)) (HB1.out.alloc HB1.out.size _)
      | false=>
        by_cases hl13:12<path.length
        · have HE:=zaa (HW.out.trans (qh HR.out hh hl13));(go_wp2_with fail);(go_ret3);exact nC HE.out (SlF.nil _ _ _) (HM.out.below (HB1.out.alloc HB1.out.size _)) (HB1.out.alloc HB1.out.size _)
        · obtain⟨hp2,hp3,hp4⟩:=qN HTB.out HR.out hh;obtain⟨i,hi,hil⟩:∃i:Nat,i=p%r.hops.length/\i<r.hops.length:=⟨_,rfl,Nat.mod_lt _ hp2⟩;obtain⟨y,hy,hy12⟩:∃y:Nat,r.hops[i]=(y:Int)/\y<12:=⟨r.hops[i].toNat,by have:=hp4 i hil;omega,by have:=hp4 i hil;omega⟩;obtain⟨bh,oh,hAh,hbh⟩:=HS1.out.at_ hil;subst hAh;have fh:=(HS1.out.int hil).1;rw[hy]at fh;have hrem:(p:Int).tmod (r.hops.length:Int)=(i:Int):=by
           rw[hi,zby hp0,Int.natCast_emod]
          (have hlz:¬ (r.hops.length:Int)=0:=by omega);(have hii:(i:Int)<(r.hops.length:Int):=by omega);have hi0:(0:Int)<=(i:Int):=zai i;have hy0:(0:Int)<=(y:Int):=zai y;(have hy1:(y:Int)<12:=by omega);(have hl14:¬ (12:Int)<(path.length:Int):=by omega);have co1:=aa HB1.out (HM.out.co b y HB12.out hy12);have cb:=HX.out.co b y;have hal:=(zac w1.heap.size w1).alloc (zab _) (.cells #[.int .i64 r.pre.addr,.int .i64 r.pre.bits,.bool false,.int .i64 r.cost,.slice (some ⟨bh,oh,none⟩) r.hops.length ch] 130);(have b4:(w1.alloc (.cells #[.int .i64 r.pre.addr,.int .i64 r.pre.bits,.bool false,.int .i64 r.cost,.slice (some ⟨bh,oh,none⟩) r.hops.length ch] 130)).cell? ⟨w1.heap.size,4,none⟩=some (.slice (some ⟨bh,oh,none⟩) r.hops.length ch):=by rw[zah _ _ _ _ rfl];rfl);have fh2:=aa hal fh;have HAL:=zaa hal;have HO2:=zaa (HO1.out.keep hal);have HB2:=zaa (HB1.out.trans (hal.mono HB1.out.size));by_cases hc:x.co b y=0
          · have HE:=zaa (HW.out.trans (sO HR.out hh hl13 hi hil hy hc));rw[hc]at co1;have co2:=aa hal co1;clear hal hi hil hp4 hc hp2 hp3 hy fh cb;(go_wp2_with fail);(go_quiet (fail));obtain⟨q1,rfl⟩:∃m,m=nq:=⟨nq,rfl⟩;(go_wp2_with fail);(go_ret3);exact nC HE.out (SlF.nil _ _ _) (HM.out.below (ag HB2.out q1)) (ag HB2.out q1)
          · have HE:=zaa (HW.out.trans (qg (f:=f) HR.out hh hl13 hi hil hy hc));(have hcb:(x.co b y==0)=false:=by rw[beq_eq_false_iff_ne];exact hc);have co2:=aa hal co1;obtain⟨z,hz⟩:∃z,x.co b y=z:=⟨_,rfl⟩;rw[hz]at co1 co2 cb hcb HE;have hz0:=cb.1;have hz1:=cb.2;have HIY:=zaa (show inR (y:Int)by unfold inR;omega);have HPL:=zaa (show path.length<=1000000 by omega);clear hal hi hil hp4 hc hp2 hp3 hy fh cb hz;(go_wp2_with fail);(go_quiet (fail));obtain⟨q1,rfl⟩:∃m,m=nq:=⟨nq,rfl⟩;(go_wp2_with (at_builtin;refine fF (base:=w.heap.size) (y:=(y:Int)) (cs:=[.int .i64 (y:Int)]) (S:=fun _=>False) fD rfl (.tmp 74) (.tmp 76) rfl (HO2.out.keep (ag (zac _ _) q1)) ⟨rfl,HIY.out⟩ (fun _ h=>h.elim) rfl rfl (by first|rfl|simp) HPL.out (by decide) ?_;intro v5 w5 ho5 hg5;obtain⟨A5,c5,e5⟩:=Sl.form (ho5.sl (by decide));subst e5));(go_roundw);case rel=>
             refine⟨y,f-1,path++[(y:Int)],cost+z,by go_num,by omega,by go_num,by omega,by simp;omega,by simp;omega,by simp,(by have h9:=ho5;rw[zaq]at h9;exact h9),?_,?_⟩
             · exact(au (HO2.out.keep (ag (zac _ _) q1)) _).below_grown ((ag HB2.out q1).alloc (ag HB2.out q1).size _) hg5.grown
             · rw[HE.out];congr 1;omega
            case measure=>simp only[slN,zaq,zaD,zaW];omega
    · (have hnb:(n !=0)=true:=by simpa using hn);have HE:=zaa (HW.out.trans (xE HR.out hn));(go_wp2_with fail);(go_ret3);exact nC HE.out (SlF.nil _ _ _) (HM.out.below (HB1.out.alloc HB1.out.size _)) (HB1.out.alloc HB1.out.size _)
theorem zp{X:Nat->Prop}(N a:Nat)(p:ae)(x:Net)(w:World)(h:bC X w N x)(ha:a<12)(hx:bg x):
  Calls Tryz.prog 30 #[.pointer (some ⟨N,0,none⟩),.int .i64 (a:Nat),.agg #[.int .i64 p.addr,.int .i64 p.bits]] w (yK X N (fg x a p).1 (.returned (.int .i64 (fg x a p).2)) w):=by
 have HM:=zaa h;have ha0:(0:Int)<=(a:Int):=zai a;have ha1:(a:Int)<12:=by omega
 have HA12:=zaa ha;have hpf:=(hx.nd a ha).pf;obtain⟨hpl,_,hpo⟩:=bi hpf;have hal:=(zac w.heap.size w).alloc (zab _) (.cells #[.int .i64 p.addr,.int .i64 p.bits] 32);obtain⟨v,c0,s0⟩:=(h.nd a ha).pf;obtain⟨xs,hxs⟩:∃l,l=(x.nd a).pf:=⟨_,rfl⟩;rw[<-hxs]at s0 hpl hpo;have HXS:=zaa hxs;obtain⟨A,c,rfl⟩:=s0.sl.form;have c1:=aa hal c0;have b0:(w.alloc (.cells #[.int .i64 p.addr,.int .i64 p.bits] 32)).cell? ⟨w.heap.size,0,none⟩=some (.int .i64 p.addr):=by rw[zah _ _ _ _ rfl];rfl
 have b1:(w.alloc (.cells #[.int .i64 p.addr,.int .i64 p.bits] 32)).cell? ⟨w.heap.size,1,none⟩=some (.int .i64 p.bits):=by rw[zah _ _ _ _ rfl];rfl
 have HAL:=zaa hal;have HSL:=zaa s0.sl;obtain⟨W,hW⟩:∃x,x=w.alloc (.cells #[.int .i64 p.addr,.int .i64 p.bits] 32):=⟨_,rfl⟩;rw[<-hW]at c1 b0 b1 HAL;have HIX:=zaa (fun w' (hb:Below w.heap.size w w')=>mC (.slice A xs.length c) xs p w' (HSL.out.below hb));have HPL:=zaa hpl;obtain⟨i,hi⟩:∃i,i=mW xs p:=⟨_,rfl⟩;rw[<-hi]at HIX;have HT:=zaa (show fg x a p=if inP xs p=true then(x.setN a {x.nd a with pf:=xs.filter fun q=> !bA q p},0)else(x,6)by rw[hxs];rfl);rcases o5 xs p with⟨h1,h2,_⟩|⟨k,hk,h1,h2,h3⟩
 · rw[<-hi]at h1;subst h1;have HT2:=zaa (HT.out.trans (if_neg (by rw[h2];simp)));clear h hx hpf hpl hpo hal c0 s0 hxs hi h2 HT;(go_enter Tryz.func30,Tryz.ntmps30);(go_wp2_with fail);rw[<-hW];clear hW;obtain⟨B,hB⟩:∃B,B=w.heap.size:=⟨_,rfl⟩;have HBZ:=zaa hB;have HBS:=zaa (show∀w',Below B w w'->B<=w'.heap.size from fun w' hb=>by rw[hB];exact hb.size);rw[<-hB]at b0 b1 HAL HIX⊢;clear hB;(go_region_with (go_at_call 54;refine(HIX.out _ HAL.out.drew).mono ?_;rintro e w2 ⟨rfl,hb2⟩;have HB2:=zaa (HAL.out.drew.trans (hb2.mono (HBS.out _ HAL.out.drew)));clear hb2));all_goals
    (go_wp2_with fail);(go_ret);have h9:=HB2.out;rw[HBZ.out]at h9;exact⟨by rw[HT2.out];rfl,by rw[HT2.out];exact HM.out.below h9,am N h9⟩
 · rw[<-hi]at h1;subst h1;have HT2:=zaa (HT.out.trans ((if_pos h2).trans (by rw[lr p xs k hk hpo h3])));have HK:=zaa hk;have hk0:(0:Int)<=(k:Int):=zai k;(have hkn:¬ (k:Int)<0:=by omega);(have hk6:(k:Int)<6:=by omega);have HWR:=zaa (show IntKind.i64.wrap ((k:Int)+1)=(k:Int)+1 by rw[IntKind.wrap_i64];omega);have HCL:=zaa (fun w' (hb:Below w.heap.size w w')=>px (.slice A xs.length c) xs w' (HSL.out.below hb) (by have:=HPL.out;omega));have hNw:=h.lt;have HDE:=zaa (show∀v3 w3 base,OwR aA 32 base w3 v3 xs->Calls Tryz.prog 55 #[v3,.int .i64 (k:Int),.int .i64 ((k:Int)+1)] w3 fun e w'=>∃v',e= .returned v'/\SlF aA base w' v' (xs.eraseIdx k)/\Below base w3 w' from fun v3 w3 base ho=>by
    have h9:=uD v3 xs k (k+1) base rfl w3 ho hk (by omega);(have e9:((k+1:Nat):Int)=(k:Int)+1:=by omega);rw[e9]at h9
    exact h9)
   clear h hx hpf hpl hpo hal c0 s0 hxs hi h2 h3 hk HT;(go_enter Tryz.func30,Tryz.ntmps30);(go_wp2_with fail);rw[<-hW];clear hW;obtain⟨B,hB⟩:∃B,B=w.heap.size:=⟨_,rfl⟩;have HBZ:=zaa hB;have HBS:=zaa (show∀w',Below B w w'->B<=w'.heap.size from fun w' hb=>by rw[hB];exact hb.size);rw[<-hB]at b0 b1 HAL HIX HCL hNw⊢;clear hB;have HC1:=zaa c1;have HNB:=zaa hNw;have HMB:=zaa (fun w' (hb:Below B w w')=>HM.out.below (by rw[HBZ.out]at hb;exact hb));(go_region_with (go_at_call 54;refine(HIX.out _ HAL.out.drew).mono ?_;rintro e w2 ⟨rfl,hb2⟩;have HB2:=zaa (HAL.out.drew.trans (hb2.mono (HBS.out _ HAL.out.drew)));clear hb2));all_goals
    obtain⟨vz,hz1,hz2⟩:=((HMB.out _ HB2.out).nd a HA12.out).pf;(have c2:w2.cell? ⟨N,a*4+2,none⟩=some (.slice A xs.length c):=by rw[HB2.out.cell (p:=⟨N,a*4+2,none⟩) HNB.out,<-HAL.out.cell (p:=⟨N,a*4+2,none⟩) HNB.out];exact HC1.out);clear hz1 hz2;(go_wp2_with fail);go_region_with (first
     | (go_at_call 50;refine(HCL.out _ HB2.out.drew).mono ?_;rintro e w3 ⟨v3,rfl,ho3,hb3⟩;obtain⟨A3,c3,e3⟩:=Sl.form (ho3.sl (by decide));subst e3;have HB3:=zaa (HB2.out.drew.trans (hb3.mono (HBS.out _ HB2.out.drew)));have HO3:=zaa ho3;clear ho3 hb3)
     | (go_at_call 55;rw[HWR.out];refine(HDE.out _ _ _ HO3.out).mono ?_;rintro e w4 ⟨v4,rfl,hs4,hb4⟩;obtain⟨A4,c4,e4⟩:=Sl.form hs4.sl;subst e4;have HB4:=zaa (HB3.out.trans (hb4.mono (HBS.out _ HB2.out.drew)));obtain⟨vz,z1,_⟩:=((HMB.out _ HB4.out).nd a HA12.out).pf;have z2:=(HMB.out _ HB4.out).fz (a*4+2);have HS4:=zaa (hs4.mono (HBS.out _ HB2.out.drew));clear hs4 hb4))
    all_goals
     have hm:=(HMB.out _ HB4.out).setPf HA12.out (HS4.out.toN HNB.out (fun k hk=>HM.out.top k (by rw[<-HBZ.out];exact hk)));have h9:=HB4.out;rw[HBZ.out]at h9;have HG:=zaa ((am N h9).trans (ba w4 N (a*4+2) (.slice A4 (xs.eraseIdx k).length c4)));have HS:=zaa hm;clear hm h9 z1 z2;(go_wp2_with fail);(go_ret);exact⟨by rw[HT2.out];rfl,by rw[HT2.out];exact HS.out,HG.out⟩
end
section
open Go
theorem yg:∀(l:List ae) (p:ae) (j:Nat),j<=l.length->(∀i,(h:i<l.length)->i<j->ak p l[i]=false)->(∀i,(h:i<l.length)->i=j->ak p l[i]=true)->ej l p=l.take j++p::l.drop j
 | [],p,j,hj,_,_=>by
   simp at hj;subst hj;rfl
 | q::l,p,0,hj,h1,h2=>by
   have:=h2 0 (by simp) rfl;simp only[zaf]at this;unfold ej;rw[if_pos this];rfl
 | q::l,p,j+1,hj,h1,h2=>by
   have:=h1 0 (by simp) (by omega);simp only[zaf]at this;unfold ej;rw[if_neg (by rw[this];simp)];rw[yg l p j (by simpa using hj) (fun i hi hij=>by
    have:=h1 (i+1) (by simpa using hi) (by omega)
    simpa using this) (fun i hi hij=>by
    have:=h2 (i+1) (by simpa using hi) (by omega)
    simpa using this)]
   rfl
theorem p5{a b c:ae}(h1:ak a b=true)(h2:ak b c=true):ak a c=true:=by
 unfold ak at h1 h2⊢;simp only[Bool.or_eq_true,Bool.and_eq_true,decide_eq_true_eq,beq_iff_eq]at h1 h2⊢;omega
theorem zH{l:List ae}(hl:l.Pairwise fun a b=>ak a b=true){p:ae}{j:Nat}(hj:j<=l.length)(h1:∀i,(h:i<l.length)->j<=i->ak p l[i]=true)(h2:∀i,(h:i<l.length)->i+1=j->ak p l[i]=false):
  ej l p=l.take j++p::l.drop j:=by
 refine yg l p j hj (fun i hi hij=> ?_) (fun i hi hij=>h1 i hi (by omega));by_cases e:i+1=j
 · exact h2 i hi e
 · (have hk:j-1<l.length:=by omega);have h3:=h2 (j-1) hk (by omega);have h4:=zaR.1 hl i (j-1) hi hk (by omega);cases hx:ak p l[i]with
   | false=>rfl
   | true=>
     have:=p5 hx h4;rw[h3]at this;cases this
theorem yS{α:Type}{l:List α}{p:α}{j:Nat}(hj:j+1<=l.length):((l.take (j+1)++p::l.drop (j+1)).set (j+1) (l[j]'(by omega))).set j p=l.take j++p::l.drop j:=by
 have h1:(l.take (j+1)).length=j+1:=by simp;omega
 have h2:(l.take j).length=j:=by simp;omega
 rw[List.set_append_right _ _ (by omega),h1,Nat.sub_self,zan,zar (by omega:j<l.length),zbm,List.set_append_right _ _ (by omega),h2,Nat.sub_self,List.drop_eq_getElem_cons (by omega:j<l.length)];rfl
end
section
open Go
open Go Go.RowKit Go.Deep
end
section
open Go Go.RowKit Go.Deep
theorem OwR.setFlat{α:Type}{k:Nat}{enc:α->List Value}{ok:α->Prop}{h1:∀x,(enc x).length=k}{h2:∀x,∀u∈enc x,u.oneCell'=true}{E base:Nat}{w:World}{g n cap:Nat}{xs:List α}
  (h:OwR (dw k enc ok h1 h2) E base w (.slice (some ⟨g,0,none⟩) n cap) xs) {i j:Nat} (hi:i<xs.length) (hj:j<k) {u:Value} (hu:u.oneCell'=true) {y:α} (hy:enc y=(enc xs[i]).set j u) (hok:ok y):
  OwR (dw k enc ok h1 h2) E base (w.setCell ⟨g,i*k+j,none⟩ u) (.slice (some ⟨g,0,none⟩) n cap) (xs.set i y):=by
 obtain⟨css,c1,c2,c3⟩:=h.css;have hi':i<css.length:=by omega
 have s:OwR (jz k) E base (w.setCell ⟨g,i*k+j,none⟩ u) (.slice (some ⟨g,0,none⟩) n cap) (css.set i (css[i].set j u)):=OwR.setRaw (k:=k) c3 hi' hj hu;refine OwR.of_css (css:=css.set i (css[i].set j u)) (by simp[c1]) (fun m cs x hcs hx=> ?_) s;by_cases e:m=i
 · subst e;rw[zbs (by omega)]at hcs hx;injection hcs with hcs;injection hx with hx;subst hcs hx;have:=c2 m css[m] xs[m] (zad hi') (zad hi);exact⟨by rw[this.1,hy],hok⟩
 · rw[zaF (fun x=>e x.symm)]at hcs hx;exact c2 m cs x hcs hx
theorem qU(a b:ae)(w:World):
  Calls Tryz.prog 52 #[.agg #[.int .i64 a.addr,.int .i64 a.bits],.agg #[.int .i64 b.addr,.int .i64 b.bits]] w fun e w'=>e= .returned (.int .i64 (dp a b))/\Below w.heap.size w w':=by
 have hB:Below w.heap.size w ((w.alloc (.cells #[.int .i64 a.addr,.int .i64 a.bits] 32)).alloc (.cells #[.int .i64 b.addr,.int .i64 b.bits] 32)):=((zac _ _).alloc (zab _) _).alloc (by simp) _;have HB:=zaa hB;clear hB;go_enter Tryz.func52,Tryz.ntmps52
 go_wp2
 · (go_ret);exact⟨ei (by unfold dp;rw[if_pos (by simpa using‹(a.addr !=b.addr)=true›)]),HB.out⟩
 · (go_ret);exact⟨ei (by unfold dp;rw[if_neg (by simpa using‹(a.addr !=b.addr)=false›)]),HB.out⟩
theorem OwR.setPref{base:Nat}{w:World}{g n cap:Nat}{xs:List ae}(h:OwR aA 32 base w (.slice (some ⟨g,0,none⟩) n cap) xs){i:Nat}(hi:i<xs.length){y:ae}(hy:inR y.addr/\inR y.bits):
  OwR aA 32 base ((w.setCell ⟨g,i*2,none⟩ (.int .i64 y.addr)).setCell ⟨g,i*2+1,none⟩ (.int .i64 y.bits)) (.slice (some ⟨g,0,none⟩) n cap) (xs.set i y):=by
 have hok:inR xs[i].addr/\inR xs[i].bits:=by
  obtain⟨css,c1,c2,_⟩:=h.css;exact(c2 i (css[i]'(by omega)) xs[i] (zad (by omega)) (zad hi)).2
 have s1:=OwR.setFlat h hi (j:=0) (by decide) (u:= .int .i64 y.addr) rfl (y:=⟨y.addr,xs[i].bits⟩) rfl ⟨hy.1,hok.2⟩;have s2:=OwR.setFlat s1 (i:=i) (by simpa using hi) (j:=1) (by decide) (u:= .int .i64 y.bits) rfl (y:=y) (by simp) hy;rw[List.set_set]at s2;exact s2
structure eO(l:List ae)(p:ae)(L:List ae)(j:Nat):Prop where
 le:j<=l.length
 eq:L=l.take j++p::l.drop j
 up:∀i,(h:i<l.length)->j<=i->dp p l[i]<0
theorem eO.start(l:List ae)(p:ae):eO l p (l++[p]) l.length:=⟨zab _,by simp,fun i h hi=>by omega⟩
theorem eO.down{l:List ae}{p:ae}{L:List ae}{j:Nat}(h:eO l p L (j+1))(hj:j<l.length)(hc:dp p l[j]<0):eO l p ((L.set (j+1) l[j]).set j p) j:=by
 refine⟨by omega,?_,fun i hi hij=> ?_⟩
 · rw[h.eq];exact yS (by omega)
 · by_cases e:i=j
   · subst e;exact hc
   · exact h.up i hi (by omega)
theorem eO.get{l:List ae}{p:ae}{L:List ae}{j:Nat}(h:eO l p L (j+1))(hj:j<l.length):L[j]? =some l[j]/\L[j+1]? =some p/\L.length=l.length+1:=by
 have hl:=h.le;rw[h.eq];have h1:(l.take (j+1)).length=j+1:=by simp;omega
 refine⟨?_,?_,by simp;omega⟩
 · rw[zbi (by omega),zbo,if_pos (by omega),zad hj]
 · rw[zba (by omega),h1,Nat.sub_self];rfl
def sK(base:Nat)(l:List ae)(p:ae)(v:Value)(w:World)(e:Ending)(w':World):Prop:=
 e= .returned (.tuple #[])/\(∃L j,OwR aA 32 base w' v L/\eO l p L j/\∀i,(h:i<l.length)->i+1=j->0<=dp p l[i])/\Below base w w'
theorem eO.len{l:List ae}{p:ae}{L:List ae}{j:Nat}(h:eO l p L j):L.length=l.length+1:=by
 have:=h.le;rw[h.eq];simp;omega
theorem ue(v:Value)(l:List ae)(p:ae)(base:Nat)(w:World)(h:OwR aA 32 base w v (l++[p]))(hl:l.length<=11)(hs:∀i,(h:i+1<l.length)->0<=dp (l[i+1]) (l[i]'(by omega)))(hp:inR p.addr/\inR p.bits)(hli:∀q∈l,inR q.addr/\inR q.bits):
  Calls Tryz.prog 127 #[v,.int .i64 0,.int .i64 ((l.length:Int)+1),.func (.func 52) #[] #[]] w (sK base l p v w):=by
 obtain⟨A,c,hv⟩:=(h.sl (by decide)).form;subst hv;obtain⟨g,rfl,hgb,hgw,hgf⟩:=h.atN (by simp);have HGB:=zaa hgb;have hbw:=h.choose_spec.2.2.2;have HO:=zaa h;have HS:=zaa hs;have HP:=zaa hp;have HLI:=zaa hli;have HFZ:=zaa (show∀w' L,OwR aA 32 base w' (.slice (some ⟨g,0,none⟩) (l++[p]).length c) L->L.length=l.length+1->∀j,w'.frozen? ⟨g,j,none⟩=false from fun w' L ho hL=>by
  have h9:=ho;rw[show(l++[p]).length=L.length by rw[hL];simp]at h9;obtain⟨g',e,_,_,h10⟩:=h9.atN (by omega);injection e with e;injection e with e _ _
  subst e;exact h10)
 obtain⟨m,hm⟩:∃m,m=l.length:=⟨_,rfl⟩;have HM:=zaa hm;have hLE:(l++[p]).length=m+1:=by rw[hm];simp
 obtain⟨n,hn⟩:∃n,n=(l++[p]).length:=⟨_,rfl⟩;have hnm:n=m+1:=by omega
 rw[<-hn]at HO HFZ;rw[<-hn,<-hm];have e1:((m:Int)+1)=(n:Int):=by omega
 rw[e1];have hn12:n<=12:=by omega
 have HNM:=zaa hnm;clear h hs hp hli hgf hm hLE hn e1 hnm hl;go_enter Tryz.func127,Tryz.ntmps127
 go_wp2_with fail
 go_loopw [8,9] (fun s8 _ wr=>∃(k:Nat) (L:List ae),s8= .int .i64 k/\1<=k/\k<=n/\OwR aA 32 base wr (.slice (some ⟨g,0,none⟩) n c) L/\Below base w wr/\L.length=n/\(k<n->L=l++[p])/\(k=n->∃j,eO l p L j/\∀i,(h:i<l.length)->i+1=j->0<=dp p l[i])) (fun s8 _ _=>n-(intOf s8).toNat)
 case atStart=>
  refine⟨1,l++[p],by first|rfl|go_num,zab _,by have:=HNM.out;omega,HO.out,zac _ _,by rw[HNM.out,HM.out];simp,fun _=>rfl,fun e=>⟨l.length,eO.start l p,fun i hi=> ?_⟩⟩;have:=HNM.out;have:=HM.out;omega
 case round=>
  obtain⟨k,L,rfl,hk1,hkn,ho,hb,hLl,hA,hZ⟩:=hrel;have HO1:=zaa ho;have HB1:=zaa hb;have HLL:=zaa hLl;have HZ:=zaa hZ;have HA:=zaa hA;clear ho hb hZ hA hLl HO;have hk0:(0:Int)<(k:Int):=by omega
  have hkN:0<k:=by omega
  by_cases hlt:k<n
  · (have hki:(k:Int)<(n:Int):=by omega);have hEq:=HA.out hlt;subst hEq;by_cases hlast:k=m
    · have HKM:=zaa hlast;have hst:=eO.start l p;rw[<-HM.out]at hst;obtain⟨L0,hL0⟩:∃L0,L0=l++[p]:=⟨_,rfl⟩;rw[<-hL0]at hst HO1;have HST:=zaa hst;clear hst hL0 HZ HA HLL hlast;(go_wp2_with fail);(go_loopw [9] (fun s9 wq=>∃(j:Nat) (L:List ae),s9= .int .i64 j/\j<=m/\OwR aA 32 base wq (.slice (some ⟨g,0,none⟩) n c) L/\eO l p L j/\Below base w wq) (fun s9 _=>(intOf s9).toNat));(case atStart=>exact⟨m,L0,by rw[HKM.out],zab _,HO1.out,HST.out,HB1.out⟩);case round=>
       obtain⟨j,L,rfl,hjm,ho,hin,hb⟩:=hrel;have HO2:=zaa ho;have HI2:=zaa hin;have HB2:=zaa hb;clear ho hin hb HO1 HST;by_cases hj:j=0
       · have HIZ:=zaa (show∃j,eO l p L j/\∀i,(h:i<l.length)->i+1=j->0<=dp p l[i]from⟨j,HI2.out,fun i _ h=>by omega⟩);(have hj0:(0<j)=False:=by simp;omega);(have hjd:decide (0<j)=false:=by simp;omega);clear hj;(go_wp2_with fail);(go_quiet (fail));have HB5:=zaa (ag HB2.out nq);have HO5:=zaa (HO2.out.keep (ag (zac _ _) nq));(go_wp2_with fail);(go_roundw);(case rel=>exact⟨k+1,L,by go_num,by omega,by have:=HNM.out;have:=HKM.out;omega,HO5.out,HB5.out,by have:=HI2.out.len;have:=HNM.out;have:=HM.out;omega,fun h=>by have:=HNM.out;have:=HKM.out;omega,fun _=>HIZ.out⟩);case measure=>simp[intOf];omega
       · obtain⟨jp,hjp⟩:∃jp,j=jp+1:=⟨j-1,by omega⟩;(have hj0:(0:Int)<(j:Int):=by omega);(have hjN:0<j:=by omega);(have hj1:(j:Int)-1=(jp:Int):=by omega);have hjp0:(0:Int)<=(jp:Int):=zai jp;have hnm':=HNM.out;(have hjn:(j:Int)<(n:Int):=by omega);(have hjpn:(jp:Int)<(n:Int):=by omega);(have hwp:IntKind.i64.wrap (jp:Int)=(jp:Int):=by rw[IntKind.wrap_i64];omega);have hml:=HM.out;(have hjl:jp<l.length:=by omega);obtain⟨g1,g2,g3⟩:=(show eO l p L (jp+1)by rw[<-hjp];exact HI2.out).get hjl;(have hLn:L.length=n:=by omega);obtain⟨q,hq⟩:∃q,q=l[jp]:=⟨_,rfl⟩;rw[<-hq]at g1;have HQ:=zaa hq;have HQI:=zaa (show inR q.addr/\inR q.bits by rw[hq];exact HLI.out _ (zaw hjl));have ho2:=HO2.out;rw[<-hLn]at ho2;obtain⟨f1,f2,x1,x2⟩:=(Sl.pref (ho2.sl (by decide)) (k:=jp) (by omega));obtain⟨f3,f4,x3,x4⟩:=(Sl.pref (ho2.sl (by decide)) (k:=j) (by omega));have e1:L[jp]'(by omega)=q:=by
          have:=g1;rw[zad (by omega)]at this;injection this
         have e2:L[j]'(by omega)=p:=by
          have:=g2;rw[<-hjp,zad (by omega)]at this;injection this
         rw[e1]at f1 f2;rw[e2]at f3 f4;simp only[zbb]at f1 f2 f3 f4;have z:=HFZ.out _ L HO2.out g3;have HJP:=zaa hjp;have HJL:=zaa hjl;have HLN:=zaa hLn;clear x1 x2 x3 x4;clear ho2 g1 g2 g3 e1 e2 hq hLn hnm' hml hjp;have l1:=cell_regrown f1;have l2:=cell_regrown f2;have l3:=cell_regrown f3;have l4:=cell_regrown f4;obtain⟨WQ,hWQ⟩:∃m,m=wr:=⟨wr,rfl⟩;have cS:∀d os,Calls Tryz.prog 52 #[.agg #[.int .i64 p.addr,.int .i64 p.bits],.agg #[.int .i64 q.addr,.int .i64 q.bits]] (Sort.grow (redrawn wr d) os) fun e w''=>e= .returned (.int .i64 (dp p q))/\∃q:Regrown,w''=Sort.grow (redrawn wr q.d) q.os:=fun d os=>Calls.regrown_of (qU p q _);clear hWQ;(go_wp2_with fail);refine wp_region_quiet_below (by kernel_rfl) (by kernel_rfl) ?_;(repeat(quiet_step (fail)));(quiet_step (exact cS _ _));(repeat(quiet_step (fail)));refine wpQuiet_nil ?_;intro _ hw';obtain⟨⟨dq,osq⟩,hw''⟩:=hw';subst hw'';have HB5:=zaa (HB2.out.trans ((below_regrown _ dq osq).mono (zax hbw HB2.out.size)));have HO5:=zaa (HO2.out.keep (below_regrown _ dq osq));have HBR:=zaa (below_regrown wr dq osq);clear cS l1 l2 l3 l4;generalize Sort.grow (redrawn wr dq) osq=w5 at HB5 HO5 HBR⊢;by_cases hc:dp p q<0
         · have HDN:=zaa (show eO l p ((L.set j q).set jp p) jp by
            have h9:=(show eO l p L (jp+1)by rw[<-HJP.out];exact HI2.out).down HJL.out (by rw[<-HQ.out];exact hc);rw[<-HQ.out,<-HJP.out]at h9
            exact h9)
           have z5:=HFZ.out w5 L HO5.out (by rw[HLN.out,HNM.out,HM.out]);have z1:=z5 (j*2);have z2:=z5 (j*2+1);have z3:=z5 (jp*2);have z4:=z5 (jp*2+1);have f1:=aa HBR.out f1;have f2:=aa HBR.out f2;have f3:=aa HBR.out f3;have f4:=aa HBR.out f4;(have hne1:¬ (j*2=jp*2):=by have:=HJP.out;omega);(have hne2:¬ (j*2+1=jp*2):=by have:=HJP.out;omega);(have hne3:¬ (j*2=jp*2+1):=by have:=HJP.out;omega);(have hne4:¬ (j*2+1=jp*2+1):=by have:=HJP.out;omega);have hne5:¬ (jp*2=j*2):=fun e=>hne1 e.symm;have hne6:¬ (jp*2=j*2+1):=fun e=>hne2 e.symm;have hne7:¬ (jp*2+1=j*2):=fun e=>hne3 e.symm;have hne8:¬ (jp*2+1=j*2+1):=fun e=>hne4 e.symm;have hs1:=OwR.setPref (w:=w5) HO5.out (i:=j) (by rw[HLN.out];omega) HQI.out;have hs2:=OwR.setPref hs1 (i:=jp) (by rw[zbL,HLN.out];omega) HP.out;have HS2:=zaa (hs2.keep (zac _ _).drew);clear z5 hs1 hs2 z;(go_wp2_with fail);(go_region_with (fail));all_goals
            (go_wp2_with fail);(go_roundw);(case rel=>exact⟨jp,_,by go_num,by omega,HS2.out,HDN.out,((((HB5.out.setCell (p:=⟨g,j*2,none⟩) HGB.out _).setCell (p:=⟨g,j*2+1,none⟩) HGB.out _).setCell (p:=⟨g,jp*2,none⟩) HGB.out _).setCell (p:=⟨g,jp*2+1,none⟩) HGB.out _).drew⟩);case measure=>have:=HJP.out;simp[intOf];omega
         · have HIZ:=zaa (show∃j,eO l p L j/\∀i,(h:i<l.length)->i+1=j->0<=dp p l[i]from⟨j,HI2.out,fun i hi h=>by
            (have:i=jp:=by have:=HJP.out;omega)
            subst this;rw[<-HQ.out];omega⟩)
           (go_wp2_with fail);(go_roundw);(case rel=>exact⟨k+1,L,by go_num,by omega,by have:=HNM.out;have:=HKM.out;omega,HO5.out,HB5.out,HLN.out,fun h=>by have:=HNM.out;have:=HKM.out;omega,fun _=>HIZ.out⟩);case measure=>simp[intOf];omega
    · obtain⟨kp,hkp⟩:∃kp,k=kp+1:=⟨k-1,by omega⟩;(have hj1:(k:Int)-1=(kp:Int):=by omega);have hjp0:(0:Int)<=(kp:Int):=zai kp;have hnm':=HNM.out;(have hjpn:(kp:Int)<(n:Int):=by omega);(have hwp:IntKind.i64.wrap (kp:Int)=(kp:Int):=by rw[IntKind.wrap_i64];omega);have hml:=HM.out;(have hkl:k<l.length:=by omega);have hcmp:¬ dp (l[k]'hkl) (l[kp]'(by omega))<0:=by
       have h9:=HS.out kp (by omega);simp only[<-hkp]at h9;omega
      have ho2:=HO1.out;rw[<-HLL.out]at ho2;obtain⟨f1,f2,x1,x2⟩:=(Sl.pref (ho2.sl (by decide)) (k:=kp) (by simp;omega));obtain⟨f3,f4,x3,x4⟩:=(Sl.pref (ho2.sl (by decide)) (k:=k) (by simp;omega));have e1:(l++[p])[kp]'(by simp;omega)=l[kp]'(by omega):=List.getElem_append_left (by omega);have e2:(l++[p])[k]'(by simp;omega)=l[k]'hkl:=List.getElem_append_left hkl;rw[e1]at f1 f2;rw[e2]at f3 f4;simp only[zbb]at f1 f2 f3 f4;obtain⟨x,hx⟩:∃x,x=l[k]'hkl:=⟨_,rfl⟩;obtain⟨y,hy⟩:∃y,y=l[kp]'(by omega):=⟨_,rfl⟩;rw[<-hx]at f3 f4 hcmp;rw[<-hy]at f1 f2 hcmp;obtain⟨L0,hL0⟩:∃L0,L0=l++[p]:=⟨_,rfl⟩;have HL0:=zaa hL0;have HKN:=zaa (show k+1<n∨k+1=n by omega);have HLN0:=zaa (show L0.length=n by rw[hL0];exact HLL.out);have HKF:=zaa (show k+1<n by omega);rw[<-hL0]at HO1;have F1:=zaa f1;have F2:=zaa f2;have F3:=zaa f3;have F4:=zaa f4;have HBW:=zaa (show wr=wr from rfl);clear x1 x2 x3 x4;clear ho2 e1 e2 hx hy hkp hnm' hml hlast HZ HA HLL hL0 f1 f2 f3 f4;obtain⟨WR,rfl⟩:∃m,m=wr:=⟨wr,rfl⟩;(go_wp2_with fail);(go_loopw [9] (fun s9 wq=>s9= .int .i64 k/\wq=WR) (fun s9 _=>0));(case atStart=>exact⟨rfl,rfl⟩);case round=>
       obtain⟨rfl,rfl⟩:=hrel;have HO2:=zaa HO1.out;have HB2:=zaa HB1.out;have l1:=cell_regrown F1.out;have l2:=cell_regrown F2.out;have l3:=cell_regrown F3.out;have l4:=cell_regrown F4.out;obtain⟨WQ,hWQ⟩:∃m,m=wr:=⟨wr,rfl⟩;have cS:∀d os,Calls Tryz.prog 52 #[.agg #[.int .i64 x.addr,.int .i64 x.bits],.agg #[.int .i64 y.addr,.int .i64 y.bits]] (Sort.grow (redrawn wr d) os) fun e w''=>e= .returned (.int .i64 (dp x y))/\∃q:Regrown,w''=Sort.grow (redrawn wr q.d) q.os:=fun d os=>Calls.regrown_of (qU x y _);clear hWQ;(go_wp2_with fail);refine wp_region_quiet_below (by kernel_rfl) (by kernel_rfl) ?_;(repeat(quiet_step (fail)));(quiet_step (exact cS _ _));(repeat(quiet_step (fail)));refine wpQuiet_nil ?_;intro _ hw';obtain⟨⟨dq,osq⟩,hw''⟩:=hw';subst hw'';have HB5:=zaa (HB2.out.trans ((below_regrown _ dq osq).mono (zax hbw HB2.out.size)));have HO5:=zaa (HO2.out.keep (below_regrown _ dq osq));have HBR:=zaa (below_regrown wr dq osq);clear cS l1 l2 l3 l4;generalize Sort.grow (redrawn wr dq) osq=w5 at HB5 HO5 HBR⊢;(go_wp2_with fail);(go_roundw);(case rel=>exact⟨k+1,L0,by go_num,by omega,by have:=HKF.out;omega,HO5.out,HB5.out,HLN0.out,fun _=>HL0.out,fun h=>by have:=HKF.out;omega⟩);case measure=>simp[intOf];omega
  · (obtain rfl:k=n:=by omega);have HZ2:=zaa (HZ.out rfl);clear HZ HA;(go_wp2_with fail);(go_end0);obtain⟨j,h1,h2⟩:=HZ2.out;exact⟨rfl,⟨L,j,HO1.out,h1,h2⟩,HB1.out⟩
theorem Di(v:Value)(l:List ae)(p:ae)(base:Nat)(lim:Int)(w:World)(h:OwR aA 32 base w v (l++[p]))(hl:l.length<=11)(hs:∀i,(h:i+1<l.length)->0<=dp (l[i+1]) (l[i]'(by omega)))(hp:inR p.addr/\inR p.bits)(hli:∀q∈l,inR q.addr/\inR q.bits):
  Calls Tryz.prog 89 #[v,.int .i64 0,.int .i64 ((l.length:Int)+1),.int .i64 lim,.func (.func 52) #[] #[]] w (sK base l p v w):=by
 have HS:=zaa (ue v l p base w h hl hs hp hli);obtain⟨n,hn⟩:∃n:Int,n=(l.length:Int)+1:=⟨_,rfl⟩;rw[<-hn]at HS⊢;have hn12:n<=12:=by omega
 have hn0:0<=n:=by omega
 obtain⟨A,n0,c,rfl⟩:=ap h (by decide);clear h hl hs hp hli hn;obtain⟨W,hW⟩:∃W,W=w:=⟨w,rfl⟩;go_enter Tryz.func89,Tryz.ntmps89
 go_wp2_with fail
 go_loopw [1,2] (fun s1 s2 wr=>s1= .int .i64 0/\s2= .int .i64 n/\wr=w) (fun _ _ _=>0)
 case atStart=>exact⟨rfl,rfl,rfl⟩
 case round=>
  obtain⟨rfl,rfl,rfl⟩:=hrel;go_wp2_with fail
  refine HS.out.mono ?_;rintro e w1 hd;have HD:=zaa hd;obtain⟨rfl,_,_⟩:=hd;go_wp2_with fail
  go_end0
  exact HD.out
theorem rK(v:Value)(l:List ae)(p:ae)(base:Nat)(w:World)(h:OwR aA 32 base w v (l++[p]))(hl:l.length<=11)(hs:∀i,(h:i+1<l.length)->0<=dp (l[i+1]) (l[i]'(by omega)))(hp:inR p.addr/\inR p.bits)(hli:∀q∈l,inR q.addr/\inR q.bits):
  Calls Tryz.prog 51 #[v,.func (.func 52) #[] #[]] w (sK base l p v w):=by
 have HS:=zaa (fun lim=>Di v l p base lim w h hl hs hp hli);obtain⟨A,c,hv⟩:=(h.sl (by decide)).form;subst hv;obtain⟨n,hn⟩:∃n:Nat,n=(l++[p]).length:=⟨_,rfl⟩;have e1:(l.length:Int)+1=(n:Int):=by rw[hn];simp
 rw[e1]at HS;rw[<-hn]at HS⊢;have hn12:n<=12:=by rw[hn];simp;omega
 have hn0:(0:Int)<=(n:Int):=zai n;have hn13:(n:Int)<=12:=by omega
 have HL:=zaa (fun w=>Tryz.bits_Len (n:Int) w hn0 (by omega));clear h hl hs hp hli hn e1;go_enter Tryz.func51,Tryz.ntmps51
 go_wp2_with fail
 refine(HL.out _).mono ?_;rintro e w1 ⟨rfl,rfl⟩;go_wp2_with fail
 refine(HS.out _).mono ?_;rintro e w2 hd;have HD:=zaa hd;obtain⟨rfl,_,_⟩:=hd;go_wp2_with fail
 go_end0
 exact HD.out
theorem xd{l:List ae}(h:ai l=0):∀i,(h:i+1<l.length)->0<=dp (l[i+1]) (l[i]'(by omega)):=by
 intro i hi;obtain⟨_,hb,ho⟩:=bi h;have h1:=d6 (a:=l[i+1]) (b:=l[i]'(by omega)) (hb _ (zaw _)) (hb _ (zaw _));have h2:=zaR.1 ho i (i+1) (by omega) hi (by omega);by_cases h3:dp l[i+1] (l[i]'(by omega))<0
 · have h4:=h1.1.1 h3;have a1:=(aF _ _).1 h2;have a2:=(aF _ _).1 h4;omega
 · omega
theorem ze{l:List ae}(h:ai l=0):∀q∈l,inR q.addr/\inR q.bits:=fun q hq=>by
 have:=eH ((bi h).2.1 q hq);unfold inR;omega
theorem BS{l:List ae}{p:ae}{L:List ae}{j:Nat}(hl:ai l=0)(hp:aq p=0)(h:eO l p L j)(h2:∀i,(h:i<l.length)->i+1=j->0<=dp p l[i]):L=ej l p:=by
 obtain⟨_,hb,ho⟩:=bi hl;rw[zH ho h.le (fun i hi hij=>((d6 hp (hb _ (zaw hi))).1.1 (h.up i hi hij))) (fun i hi hij=>by
  have h1:=h2 i hi hij;have h3:=(d6 hp (hb _ (zaw hi))).1;rw[Bool.eq_false_iff];intro e;have:=h3.2 e
  omega)]
 exact h.eq
theorem zr{X:Nat->Prop}(N a:Nat)(p:ae)(x:Net)(w:World)(h:bC X w N x)(ha:a<12)(hx:bg x)(hp:inR p.addr/\inR p.bits):
  Calls Tryz.prog 29 #[.pointer (some ⟨N,0,none⟩),.int .i64 (a:Nat),.agg #[.int .i64 p.addr,.int .i64 p.bits]] w (yK X N (ew x a p).1 (.returned (.int .i64 (ew x a p).2)) w):=by
 have HM:=zaa h;have ha0:(0:Int)<=(a:Int):=zai a;have ha1:(a:Int)<12:=by omega
 have HA12:=zaa ha;have HP:=zaa hp;have hpf:=(hx.nd a ha).pf;have hal:=(zac w.heap.size w).alloc (zab _) (.cells #[.int .i64 p.addr,.int .i64 p.bits] 32);obtain⟨v,c0,s0⟩:=(h.nd a ha).pf;obtain⟨xs,hxs⟩:∃l,l=(x.nd a).pf:=⟨_,rfl⟩;rw[<-hxs]at s0 hpf;have HXS:=zaa hxs;have HPF:=zaa hpf;have hpl:=(bi hpf).1;obtain⟨A,c,rfl⟩:=s0.sl.form;have c1:=aa hal c0;have b0:(w.alloc (.cells #[.int .i64 p.addr,.int .i64 p.bits] 32)).cell? ⟨w.heap.size,0,none⟩=some (.int .i64 p.addr):=by rw[zah _ _ _ _ rfl];rfl
 have b1:(w.alloc (.cells #[.int .i64 p.addr,.int .i64 p.bits] 32)).cell? ⟨w.heap.size,1,none⟩=some (.int .i64 p.bits):=by rw[zah _ _ _ _ rfl];rfl
 have HAL:=zaa hal;have HSL:=zaa s0.sl;obtain⟨W,hW⟩:∃x,x=w.alloc (.cells #[.int .i64 p.addr,.int .i64 p.bits] 32):=⟨_,rfl⟩;rw[<-hW]at c1 b0 b1 HAL;have HCL:=zaa (fun w' (hb:Below w.heap.size w w')=>px (.slice A xs.length c) xs w' (HSL.out.below hb) (by omega));have HLN:=zaa (show xs.length+[p].length<=1000000000000 by simp;omega);have HPL:=zaa hpl;have hNw:=h.lt;have HWZ:=zaa (show W.heap.size=w.heap.size+1 by rw[hW];simp);have HG:=zaa (show ew x a p=if ai [p]≠0 then(x,ai [p])else if ai (ej xs p)≠0 then(x,ai (ej xs p))else(x.setN a {x.nd a with pf:=ej xs p},0)by rw[hxs];rfl);clear h hx hpf hpl hal c0 s0 hxs hp;go_enter Tryz.func29,Tryz.ntmps29
 go_wp2_with fail
 rw[<-hW];clear hW;obtain⟨B,hB⟩:∃B,B=w.heap.size:=⟨_,rfl⟩;have HBZ:=zaa hB;have HBS:=zaa (show∀w',Below B w w'->B<=w'.heap.size from fun w' hb=>by rw[hB];exact hb.size);rw[<-hB]at b0 b1 HAL HCL hNw HWZ⊢;clear hB;have HNB:=zaa hNw;have HMB:=zaa (fun w' (hb:Below B w w')=>HM.out.below (by rw[HBZ.out]at hb;exact hb));have HKP:=zaa (show∀w',Below (B+1) W w'->w'.cell? ⟨B,0,none⟩=some (.int .i64 p.addr)/\w'.cell? ⟨B,1,none⟩=some (.int .i64 p.bits)/\w'.cell? ⟨N,a*4+2,none⟩=some (.slice A xs.length c)/\Below B w w' from fun w' hb=>by
  refine⟨?_,?_,?_,HAL.out.trans (hb.mono (by omega))⟩
  · rw[hb.cell (p:=⟨B,0,none⟩) (by show B<B+1;omega)];exact b0
  · rw[hb.cell (p:=⟨B,1,none⟩) (by show B<B+1;omega)];exact b1
  · rw[hb.cell (p:=⟨N,a*4+2,none⟩) (by show N<B+1;omega)];exact c1)
 have HB0:=zaa ((zac (B+1) W).drew);have HWD:=zaa (show B+1<=W.drew.heap.size by show B+1<=W.heap.size;have:=HWZ.out;omega);have HB1:=zaa ((zac (B+1) W).drew.alloc HWD.out (.cells #[.int .i64 p.addr,.int .i64 p.bits] 32));have HWD1:=zaa (show B+1<=(W.drew.alloc (.cells #[.int .i64 p.addr,.int .i64 p.bits] 32)).heap.size by rw[zbq];have:=HWD.out;omega);have HONE1:=zaa (show Sl aA (W.drew.alloc (.cells #[.int .i64 p.addr,.int .i64 p.bits] 32)) (.slice (some ⟨W.heap.size,0,none⟩) 1 1) [p]from SlR.keep (aN (r:=aA) (w:=W.drew) (B:=W.heap.size) (cs:=[.int .i64 p.addr,.int .i64 p.bits]) (x:=p) (E:=32) rfl ⟨rfl,HP.out⟩) (fun _ _=>rfl) (fun k hk=>by simpa using hk));go_region_held3 (fun w'=>w'.cell? ⟨B,0,none⟩=some (.int .i64 p.addr)/\w'.cell? ⟨B,1,none⟩=some (.int .i64 p.bits)/\w'.cell? ⟨N,a*4+2,none⟩=some (.slice A xs.length c)) (first|go_keep|exact⟨k1,k2,k3⟩)
  (first
   | (go_at_call 50;refine(HCL.out _ (HKP.out _ HB0.out).2.2.2).mono ?_;rintro e w2 ⟨v2,rfl,ho2,hb2⟩;obtain⟨A2,n2,c2,rfl⟩:=ap ho2 (by decide);have HB2:=zaa (HB0.out.trans (hb2.mono HWD.out));have HO2:=zaa (ho2.lower HWD.out);obtain⟨k1,k2,k3,_⟩:=HKP.out _ HB2.out;clear ho2 hb2)
   | (go_at_call 50;refine(HCL.out _ (HKP.out _ HB1.out).2.2.2).mono ?_;rintro e w2 ⟨v2,rfl,ho2,hb2⟩;obtain⟨A2,n2,c2,rfl⟩:=ap ho2 (by decide);have HB2:=zaa (HB1.out.trans (hb2.mono HWD1.out));have HO2:=zaa (ho2.lower HWD1.out);have HS2:=zaa (HONE1.out.below hb2);obtain⟨k1,k2,k3,_⟩:=HKP.out _ HB2.out;clear ho2 hb2)
   | (refine eA (base:=B+1) cK (by rfl) (.tmp 17) (.tmp 19) (by rfl) (au HO2.out _) (aN (r:=aA) (cs:=[.int .i64 p.addr,.int .i64 p.bits]) (x:=p) rfl ⟨rfl,HP.out⟩) (fun _ _ h=>h) (by rfl) (by rfl) HLN.out (by decide) ?_;intro v3 w3 ho3 hg3;have HO3:=zaa ho3;have hb3:Below (B+1) W w3:=((au HO2.out (.cells #[.int .i64 p.addr,.int .i64 p.bits] 32)).below_grown (HB2.out.alloc HO2.out.choose_spec.2.2.2 (.cells #[.int .i64 p.addr,.int .i64 p.bits] 32)) hg3.grown);have HB3:=zaa hb3;obtain⟨k1,k2,k3,_⟩:=HKP.out _ HB3.out;clear ho3 hg3 hb3)
   | (refine eA (base:=B+1) cK (by rfl) (.tmp 17) (.tmp 19) (by rfl) HO2.out HS2.out (fun _ _ h=>h) (by rfl) (by rfl) HLN.out (by decide) ?_;intro v3 w3 ho3 hg3;have HO3:=zaa ho3;have hb3:Below (B+1) W w3:=HO2.out.below_grown HB2.out hg3.grown;have HB3:=zaa hb3;obtain⟨k1,k2,k3,_⟩:=HKP.out _ HB3.out;clear ho3 hg3 hb3))
 all_goals
  have HSF:=zaa (rK v3 xs p (B+1) w3 HO3.out (by have:=HPL.out;omega) (xd HPF.out) HP.out (ze HPF.out));obtain⟨A3,n3,c3,rfl⟩:=ap HO3.out (by decide);clear k1 k2 k3;go_wp2_with fail
  refine HSF.out.mono ?_;rintro e w4 ⟨rfl,⟨L,j,ho4,hin,hlast⟩,hb4⟩;have HB4:=zaa (HB3.out.trans hb4);have HO4:=zaa ho4;have HIN:=zaa hin;have HLA:=zaa hlast;obtain⟨k1,k2,k3,hbw4⟩:=HKP.out _ HB4.out;have HBW4:=zaa hbw4;have HONE:=zaa (d7 (.slice (some ⟨w4.heap.size,0,none⟩) 1 1) [p] (w4.alloc (.cells #[.int .i64 p.addr,.int .i64 p.bits] 32)) (SlR.keep (aN (r:=aA) (w:=w4) (B:=w4.heap.size) (cs:=[.int .i64 p.addr,.int .i64 p.bits]) (x:=p) (E:=32) rfl ⟨rfl,HP.out⟩) (fun _ _=>rfl) (fun k hk=>by simpa using hk)));clear ho4 hin hlast hb4 HSF HO3 HB3 hbw4;go_wp2_with fail
  refine HONE.out.mono ?_;rintro e w5 ⟨rfl,hb5⟩;have hb45:=((zac w4.heap.size w4).alloc (zab _) (.cells #[.int .i64 p.addr,.int .i64 p.bits] 32)).trans (hb5.mono (by simp));have HB5:=zaa (HBW4.out.trans (hb45.mono (HBS.out _ HBW4.out)));have HO5:=zaa (HO4.out.keep hb45);clear hb5 hb45 k1 k2 k3;by_cases hc:ai [p]=0
  · have HCK:=zaa (d7 (.slice A3 n3 c3) L w5 (HO5.out.sl (by decide)));have HLI:=zaa (show L=ej xs p from BS HPF.out ((bi hc).2.1 p (by simp)) HIN.out HLA.out);have HG2:=zaa (HG.out.trans (if_neg (by rw[hc];simp)));rw[<-HLI.out]at HG2;(have hcb:(ai [p] !=0)=false:=by rw[hc];rfl);rw[hc]at hcb⊢;clear hc;(go_wp2_with fail);refine HCK.out.mono ?_;rintro e w6 ⟨rfl,hb6⟩;have HB6:=zaa (HB5.out.trans (hb6.mono (HBS.out _ HB5.out)));have HO6:=zaa (HO5.out.keep hb6);clear hb6;by_cases hd:ai L=0
    · have HG3:=zaa (HG2.out.trans (if_neg (by rw[hd];simp)));rw[hd];have hm:=(HMB.out _ HB6.out).setPf HA12.out ((HO6.out.slG (by decide) (fun _ _ _ _ h=>h)).toN (by have:=HNB.out;omega) (fun k hk=>HM.out.top k (by rw[<-HBZ.out];omega)));obtain⟨vz,z1,z3⟩:=((HMB.out _ HB6.out).nd a HA12.out).pf;have z2:=(HMB.out _ HB6.out).fz (a*4+2);have h9:=HB6.out;rw[HBZ.out]at h9;have HGR:=zaa ((am N h9).trans (ba w6 N (a*4+2) (.slice A3 n3 c3)));have HS:=zaa hm;clear hm h9 hd z3;(go_wp2_with fail);(go_ret);exact⟨by rw[HG3.out];rfl,by rw[HG3.out];exact HS.out,HGR.out⟩
    · have HG3:=zaa (HG2.out.trans (if_pos hd));(have hdb:(ai L !=0)=true:=by simpa using hd);have h9:=HB6.out;rw[HBZ.out]at h9;have HGR:=zaa h9;clear h9 hd;(go_wp2_with fail);(go_ret);exact⟨by rw[HG3.out];rfl,by rw[HG3.out];exact HMB.out _ HB6.out,am N HGR.out⟩
  · have HG3:=zaa (HG.out.trans (if_pos hc));(have hdb:(ai [p] !=0)=true:=by simpa using hc);have h9:=HB5.out;rw[HBZ.out]at h9;have HGR:=zaa h9;clear h9 hc;(go_wp2_with fail);(go_ret);exact⟨by rw[HG3.out];rfl,by rw[HG3.out];exact HMB.out _ HB5.out,am N HGR.out⟩
def ao.agg(c:ao):Value:= .agg #[.int .i64 c.kind,.int .i64 c.a,.int .i64 c.b,.int .i64 c.n,.int .i64 c.m,.int .i64 c.pre.addr,.int .i64 c.pre.bits,.string c.key,.string c.value]
def lK(X:Nat->Prop)(N:Nat)(r:Net × Rpl)(w:World)(e:Ending)(w':World):Prop:=
 ∃vp vk,e= .returned (.agg #[.int .i64 r.2.code,vp,.int .i64 r.2.cost,vk])/\SlF aI w.heap.size w' vp r.2.path/\SlF bs w.heap.size w' vk r.2.keys/\bC X w' N r.1/\w.grownBy w' (some N)
theorem bC.keepB{X X':Nat->Prop}{w w':World}{N:Nat}{x:Net}(h:bC X w N x)(hz:∀k,k<w.heap.size->Zn N X k->Zn N X' k)(hN:w'.heap[N]? =w.heap[N]?)(hk:∀k,k<w.heap.size->Zn N X k->w'.heap[k]? =w.heap[k]?)(hs:w.heap.size<=w'.heap.size)(hh:∀k,w'.heap.size<=k->¬ X' k):bC X' w' N x:=by
 have hc:∀o,w'.cell? ⟨N,o,none⟩=w.cell? ⟨N,o,none⟩:=fun o=>zav hN;have key:∀{α:Type} {r:Rep α} {v:Value} {l:List α},SlN r N X w v l->SlN r N X' w' v l:=fun h=>
  SlR.keep h (fun k hk'=>hk k hk'.1 hk'.2) (fun k hk'=>⟨zas hk'.1 hs,hz k hk'.1 hk'.2⟩)
 refine⟨hh,fun a ha=> ?_,fun a b ha hb=>(hc _).trans (h.co a b ha hb),fun i=>(zaK hN).trans (h.fz i),zas h.lt hs⟩;obtain⟨v0,a0,b0⟩:=(h.nd a ha).st;obtain⟨v2,a2,b2⟩:=(h.nd a ha).pf;obtain⟨v3,a3,b3⟩:=(h.nd a ha).tb;exact⟨⟨v0,(hc _).trans a0,key b0⟩,(hc _).trans (h.nd a ha).dr,⟨v2,(hc _).trans a2,key b2⟩,⟨v3,(hc _).trans a3,key b3⟩⟩
def kz(X:Nat->Prop)(w w':World)(k:Nat):Prop:=X k∨(w.heap.size<=k/\k<w'.heap.size)
theorem bC.gap{X:Nat->Prop}{w w':World}{N:Nat}{x:Net}(h:bC X w N x)(hb:Below w.heap.size w w'):bC (kz X w w') w' N x:=
 h.keepB (fun k hk hz=>⟨hz.1,fun e=>e.elim hz.2 (fun e=>by omega)⟩) (hb.block N h.lt) (fun k hk _=>hb.block k hk) hb.size (fun k hk e=>e.elim (h.top k (zax hb.size hk)) (fun e=>by omega))
theorem bC.setGap{X:Nat->Prop}{w:World}{N:Nat}{x:Net}(h:bC X w N x){B o:Nat}{u:Value}(h1:N<B)(h2:X B):bC X (w.setCell ⟨B,o,none⟩ u) N x:=
 h.keepB (fun k _ hz=>hz) (zao _ _ _ _ (show N≠B by omega)) (fun k _ hz=>zao _ _ _ _ (show k≠B from fun e=>hz.2 (e▸h2))) (by simp[World.setCell]) (by simpa [World.setCell]using h.top)
theorem SlF.setLow{α:Type}{r:Rep α}{b B o:Nat}{w:World}{u v:Value}{l:List α}(h:SlF r b w v l)(hB:B<b):SlF r b (w.setCell ⟨B,o,none⟩ u) v l:=
 SlR.keep h (fun k hk=>zao _ _ _ _ (show k≠B by have:=hk.2;omega)) (fun k hk=>⟨by simpa [World.setCell]using hk.1,hk.2⟩)
theorem wJ{w0 w:World}{N:Nat}(h:w0.grownBy w (some N)){B o:Nat}{u:Value}(hB:w0.heap.size<=B):w0.grownBy (w.setCell ⟨B,o,none⟩ u) (some N):=
 ⟨h.os,h.tape,h.output,by simpa [World.setCell]using h.size,fun k hk hne=>(zao _ _ _ _ (show k≠B by omega)).trans (h.block k hk hne)⟩
theorem bE(w:World)(a:Addr)(u:Value):(w.setCell a u).os=w.os:=rfl
theorem aZ(w:World)(a:Addr)(u:Value):(w.setCell a u).tape=w.tape:=rfl
theorem aL(w:World)(a:Addr)(u:Value):(w.setCell a u).output=w.output:=rfl
def dD:Array Value:= #[.int .i64 0,.slice none 0 0,.int .i64 0,.slice none 0 0]
structure kF(oz:Array Value)(w W:World)(A R O:Nat)(c:ao):Prop where
 b:Below w.heap.size w W
 sz:w.heap.size<=A/\A<R/\R<O/\O<W.heap.size
 a:∀i,W.cell? ⟨A,i,none⟩=c.cells.toArray[i]?
 r:∀i,W.cell? ⟨R,i,none⟩=dD[i]?
 o:∀i,W.cell? ⟨O,i,none⟩=oz[i]?
 fr:∀i,W.frozen? ⟨R,i,none⟩=false
 fo:∀i,W.frozen? ⟨O,i,none⟩=false
theorem CJ(w:World)(c:ao)(T U V:TypeId):kF dD w (((w.alloc (.cells c.cells.toArray T)).alloc (.cells dD U)).alloc (.cells dD V)) w.heap.size (w.heap.size+1) (w.heap.size+1+1) c:=by
 have z1:(w.alloc (.cells c.cells.toArray T)).heap.size=w.heap.size+1:=by simp
 have z2:((w.alloc (.cells c.cells.toArray T)).alloc (.cells dD U)).heap.size=w.heap.size+1+1:=by simp
 have b1:Below w.heap.size w (w.alloc (.cells c.cells.toArray T)):=(zac _ _).alloc (zab _) _;have b2:=(zac (w.alloc (.cells c.cells.toArray T)).heap.size (w.alloc (.cells c.cells.toArray T))).alloc (zab _) (.cells dD U);have b3:=(zac ((w.alloc (.cells c.cells.toArray T)).alloc (.cells dD U)).heap.size ((w.alloc (.cells c.cells.toArray T)).alloc (.cells dD U))).alloc (zab _) (.cells dD V);refine⟨(b1.trans (b2.mono (by omega))).trans (b3.mono (by omega)),⟨zab _,by omega,by omega,by rw[zbq,z2];omega⟩,fun i=> ?_,fun i=> ?_,fun i=> ?_,fun i=> ?_,fun i=> ?_⟩
 · rw[b3.cell (p:=⟨w.heap.size,i,none⟩) (by show w.heap.size<_;omega),b2.cell (p:=⟨w.heap.size,i,none⟩) (by show w.heap.size<_;omega)];exact zah _ _ _ _ rfl
 · rw[b3.cell (p:=⟨w.heap.size+1,i,none⟩) (by show w.heap.size+1<_;omega)];exact zah _ _ _ _ z1.symm
 · exact zah _ _ _ _ z2.symm
 · rw[b3.frozen (p:=⟨w.heap.size+1,i,none⟩) (by show w.heap.size+1<_;omega)];exact zaL _ _ _ _ z1.symm
 · exact zaL _ _ _ _ z2.symm
theorem kF.grown{oz:Array Value}{w W W':World}{A R O N:Nat}{c:ao}(h:kF oz w W A R O c)(hg:W.grownBy W' (some N))(hN:N<w.heap.size):
  (∀i,W'.cell? ⟨A,i,none⟩=c.cells.toArray[i]?)/\(∀i,W'.cell? ⟨R,i,none⟩=dD[i]?)/\(∀i,W'.cell? ⟨O,i,none⟩=oz[i]?)/\(∀i,W'.frozen? ⟨R,i,none⟩=false)/\(∀i,W'.frozen? ⟨O,i,none⟩=false):=by
 obtain⟨s1,s2,s3,s4⟩:=h.sz;have kA:=hg.block A (by omega) (fun e=>by injection e with e;omega);have kR:=hg.block R (by omega) (fun e=>by injection e with e;omega);have kO:=hg.block O s4 (fun e=>by injection e with e;omega);exact⟨fun i=>(zav kA).trans (h.a i),fun i=>(zav kR).trans (h.r i),fun i=>(zav kO).trans (h.o i),fun i=>(zaK kR).trans (h.fr i),fun i=>(zaK kO).trans (h.fo i)⟩
theorem ek{oz:Array Value}{N:Nat}{r:Net × Rpl}{w W W1 W2:World}{A R O:Nat}{X Y:Nat->Prop}{c:ao}(h:kF oz w W A R O c)(hX:∀k,X k->Y k)(hYR:Y R)(hYO:Y O)(hn:bC Y W1 N r.1)(hg:W.grownBy W1 (some N))(hN:N<w.heap.size)
  (hs:W1.heap.size<=W2.heap.size) (ho:W2.os=W1.os) (ht:W2.tape=W1.tape) (hu:W2.output=W1.output) (hk:∀k,k<W1.heap.size->k≠R->k≠O->W2.heap[k]? =W1.heap[k]?) {vp vk:Value} (hp:SlF aI W.heap.size W1 vp r.2.path) (hq:SlF bs W.heap.size W1 vk r.2.keys) {code cost:Int} (hc:code=r.2.code) (hd:cost=r.2.cost):
  lK X N r w (.returned (.agg #[.int .i64 code,vp,.int .i64 cost,vk])) W2:=by
 obtain⟨s1,s2,s3,s4⟩:=h.sz;have hz:=hg.size;have hws:=h.b.size;subst hc hd;refine⟨vp,vk,rfl,?_,?_,?_,?_⟩
 · exact SlR.keep hp (fun k hk'=>hk k hk'.1 (by have:=hk'.2;omega) (by have:=hk'.2;omega)) (fun k hk'=>⟨zas hk'.1 hs,zax hws hk'.2⟩)
 · exact SlR.keep hq (fun k hk'=>hk k hk'.1 (by have:=hk'.2;omega) (by have:=hk'.2;omega)) (fun k hk'=>⟨zas hk'.1 hs,zax hws hk'.2⟩)
 · exact hn.keepB (fun k _ hz'=>⟨hz'.1,fun e=>hz'.2 (hX k e)⟩) (hk N (by omega) (by omega) (by omega)) (fun k hk' hz'=>hk k hk' (fun e=>hz'.2 (e▸hYR)) (fun e=>hz'.2 (e▸hYO))) hs (fun k hk' e=>hn.top k (zax hs hk') (hX k e))
 · refine⟨by rw[ho,hg.os,h.b.os],by rw[ht,hg.tape,h.b.tape],by rw[hu,hg.output,h.b.output],by omega,fun k hk' hne=> ?_⟩;rw[hk k (by omega) (by omega) (by omega),hg.block k (by omega) hne,h.b.block k hk']
theorem kF.set2{w W:World}{A R O:Nat}{c:ao}(h:kF dD w W A R O c):kF #[.int .i64 2,.slice none 0 0,.int .i64 0,.slice none 0 0] w (W.setCell ⟨O,0,none⟩ (.int .i64 2)) A R O c:=by
 obtain⟨s1,s2,s3,s4⟩:=h.sz;have hne:∀{B i:Nat},B≠O->(W.setCell ⟨O,0,none⟩ (.int .i64 2)).cell? ⟨B,i,none⟩=W.cell? ⟨B,i,none⟩:=fun hB=>zaj _ _ _ _ (by intro e;injection e with e _ _;exact hB e.symm);refine⟨h.b.setCell (by show w.heap.size<=O;omega) _,⟨s1,s2,s3,by simpa [World.setCell]using s4⟩,fun i=>(hne (by omega)).trans (h.a i),fun i=>(hne (by omega)).trans (h.r i),fun i=> ?_,fun i=> ?_,fun i=> ?_⟩
 · by_cases e:i=0
   · subst e;exact zaJ _ _ _ (by rw[h.o 0];rfl)
   · rw[zaj _ _ _ _ (by intro e2;injection e2 with _ e3 _;omega),h.o i];obtain⟨j,rfl⟩:∃j,i=j+1:=⟨i-1,by omega⟩;rfl
 · rw[zaz];exact h.fr i
 · rw[zaz];exact h.fo i
theorem fE(w:World)(kd a b n m ad bt:Int)(key value:ByteArray):∃W3 A R O,A=w.heap.size/\R=w.heap.size+1/\O=w.heap.size+1+1/\
 (((w.alloc (.cells #[.int .i64 kd,.int .i64 a,.int .i64 b,.int .i64 n,.int .i64 m,.int .i64 ad,.int .i64 bt,.string key,.string value] 34)).alloc (.cells #[.int .i64 0,.slice none 0 0,.int .i64 0,.slice none 0 0] 57)).alloc (.cells #[.int .i64 0,.slice none 0 0,.int .i64 0,.slice none 0 0] 57))=W3/\
 kF dD w W3 A R O ⟨kd,a,b,n,m,⟨ad,bt⟩,key,value⟩:=⟨_,_,_,_,rfl,rfl,rfl,rfl,CJ w ⟨kd,a,b,n,m,⟨ad,bt⟩,key,value⟩ 34 57 57⟩
theorem sF{X:Nat->Prop}{N:Nat}{x:Net}{w w':World}{r:Net × Rpl}{n:Int}(h:bC X w N x)(hr:r=(x,⟨n,[],0,[]⟩))(hb:Below w.heap.size w w'):lK X N r w (.returned (.agg #[.int .i64 n,.slice none 0 0,.int .i64 0,.slice none 0 0])) w':=
 ⟨.slice none 0 0,.slice none 0 0,by rw[hr],by rw[hr];exact SlF.nil _ _ _,by rw[hr];exact SlF.nil _ _ _,by rw[hr];exact h.below hb,am N hb⟩
theorem xi(w:World)(a b c:Obj):Below w.heap.size w (((w.alloc a).alloc b).alloc c):=(((zac w.heap.size w).alloc (zab _) a).alloc (by simp) b).alloc (by simp;omega) c
end
end Go.Proofs.YtojojpjldkpmoaaGreatDoor
