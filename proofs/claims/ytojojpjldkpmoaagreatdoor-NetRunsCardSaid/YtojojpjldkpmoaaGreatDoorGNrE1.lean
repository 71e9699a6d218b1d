/-
  
-/
import Derived.Test.YtojojpjldkpmoaaGreatDoorGNrD
set_option linter.unusedVariables false
set_option linter.unusedSimpArgs false
set_option maxHeartbeats 16000000
set_option maxRecDepth 100000
namespace Go.Proofs.YtojojpjldkpmoaaGreatDoor
open Go Go.RowKit Go.Deep
theorem xA{X:Nat->Prop}(vs:List Value)(q:Nat)(b n m ad bt:Int)(key value:ByteArray)(x:Net)(w:World)(h:bZ X w vs x)(hx:bg x)(hX:∀k,w.heap.size<=k->¬ X k)(hE:Env w)(hc:(⟨1,q,b,n,m,⟨ad,bt⟩,key,value⟩:ao).wf)(hia:isN (q:Int)=true):
  Calls Tryz.prog 22 #[.agg vs.toArray,(⟨1,q,b,n,m,⟨ad,bt⟩,key,value⟩:ao).agG] w (ed X (aK x ⟨1,q,b,n,m,⟨ad,bt⟩,key,value⟩) w):=by
 have HX:=zaa hx;have HXX:=zaa hX;have HE:=zaa hE;have HC:=zaa hc;obtain⟨W,B,A,R,Q,O,hB,hA,hR,hQ,hO,hW,hWz,hg⟩:=iY X w vs x 1 q b n m ad bt key value h;have HB:=zaa hB;have HA:=zaa hA;have HR:=zaa hR;have HQ:=zaa hQ;have HO:=zaa hO;have HW:=zaa hW;obtain⟨ia0,ia1⟩:=(aV (q:Int)).1 hia;have hq:q<12:=by omega
 have HQ12:=zaa hq;obtain⟨W2,M,ms,hM,hms,hml,hmo,hrg,hth,hW2,hg2,hgm,hsz⟩:=kg hg hWz hq;have HM:=zaa hM;have HRG:=zaa hrg;have hz9:ms.toArray.size=16:=by simpa using hml
 have HTH:=zaa (show(W.alloc (.cells #[.slice none 0 0,.bool false,.slice none 0 0,.slice none 0 0,.int .i64 0,.int .i64 0,.int .i64 0,.int .i64 0,.int .i64 0,.int .i64 0,.int .i64 0,.int .i64 0,.int .i64 0,.int .i64 0,.int .i64 0,.int .i64 0] 50)).there W.heap.size 0 ms.toArray.size by rw[hz9,<-hM];exact hth);have HW2:=zaa hW2;have HG:=zaa hg2;have HGM:=zaa hgm;have HSZ:=zaa hsz;have HIF:=zaa (bu hml);have HIA:=zaa (bu hz9);have HONE:=zaa hmo;have HI:=zaa (aU 1 1 10 W);have HN:=zaa (be (q:Int) W hia);have p0:W.cell? ⟨A,0,none⟩=some (.int .i64 1):=hg.a.cell 0 _ rfl;have p1:W.cell? ⟨A,1,none⟩=some (.int .i64 (q:Int)):=hg.a.cell 1 _ rfl;have HA0:=zaa (cX (x:=x) (c:=⟨1,q,b,n,m,⟨ad,bt⟩,key,value⟩) (show ¬ ((1:Int)<1∨10<(1:Int))by decide) hia (a:=q) (k:=1) rfl rfl);obtain⟨wk,wa,wb,wn,wm,wad,wbt,wke,wva⟩:=HC.out;obtain⟨a0,a1,a2,a3,a4,a5,a6,a7,a8⟩:=HG.out.ac;obtain⟨o0,o1,o2,o3,y0,y1,y2,y3⟩:=HG.out.oc;obtain⟨hAO,hOA,hBO,hOB,hAB,hBA,hMO,hOM,hMB,hBM⟩:=HG.out.ne HGM.out;unfold ao.agG;clear hz9 hB hA hR hQ hO hW hWz hg hM hms hml hmo hrg hth hW2 hg2 hgm hsz h hx hX hE hc hia;go_enter Tryz.func22,Tryz.ntmps22
 go_wp2_with fail
 rw[HW.out,<-HO.out,<-HQ.out,<-HR.out,<-HA.out,<-HB.out];clear HW HO HQ HR HA HB;refine HI.out.mono ?_;rintro e w' ⟨rfl,rfl⟩;go_wp2_with fail
 refine HN.out.mono ?_;rintro e w' ⟨rfl,rfl⟩;go_wp2_with (first
  | (refine wpList_load_mid rfl 50 (.tmp 51) rfl B (q*16) rfl ms _ HRG.out Tryz.underlying50 rfl HIF.out ?_)
  | (refine wpList_store_mid rfl 50 (.tmp 7) (.tmp 52) rfl W.heap.size 0 ms.toArray rfl rfl HTH.out HIA.out (all_oneCell_toArray HONE.out) ?_;rw[<-HM.out,zaE,HW2.out])
  | fail)
 clear p0 p1;cases hib:isN b with
 | false=>
   have HNB:=zaa (be b W2 hib);have HA1:=zaa (HA0.out.trans (kX (.inl hib)));clear hib;refine HNB.out.mono ?_;rintro e w' ⟨rfl,rfl⟩;(go_wp2_with fail);have HGE:=zaa (HG.out.err (2));refine aQ HGE.out 419 420 rfl rfl rfl rfl rfl rfl rfl rfl rfl rfl rfl rfl rfl rfl rfl rfl rfl (by kernel_rfl) (by kernel_rfl) (by kernel_rfl) (by kernel_rfl) (by kernel_rfl) (by kernel_rfl) (by kernel_rfl) (by kernel_rfl) (fun _ _ d _ _ h=>by cases d<;>exact h) rfl rfl rfl rfl (zak rfl) (zak rfl) (by decide) (fun W9 hf=> ?_);(go_wp2_with fail);exact bodyPost_ret (ay HGE.out hf rfl rfl) rfl (az HGE.out hf (HA1.out) (SlF.nil _ _ _) (SlF.nil _ _ _) (fun k e=>by first|exact e|exact .inl e))
 | true=>
   have HNB:=zaa (be b W2 hib);have HIN:=zaa (aU n 1 1000 W2);obtain⟨ib0,ib1⟩:=(aV b).1 hib;obtain⟨k,rfl⟩:∃k:Nat,b=k:=⟨b.toNat,by omega⟩;have HK12:=zaa (show k<12 by omega);have HIB:=zaa hib;clear hib;by_cases hn:1<=n/\n<=1000
   · (have hb:(decide ((1:Int)<=n)&&decide (n<=1000))=true:=by simpa using hn);rw[hb]at HIN;clear hb;by_cases hqk:q=k
     · subst hqk;have HA1:=zaa (HA0.out.trans (pV HIB.out hn rfl));clear hn;refine HNB.out.mono ?_;rintro e w' ⟨rfl,rfl⟩;(go_wp2_with fail);refine HIN.out.mono ?_;rintro e w' ⟨rfl,rfl⟩;(go_wp2_with fail);have HGE:=zaa (HG.out.err (4));refine aQ HGE.out 419 420 rfl rfl rfl rfl rfl rfl rfl rfl rfl rfl rfl rfl rfl rfl rfl rfl rfl (by kernel_rfl) (by kernel_rfl) (by kernel_rfl) (by kernel_rfl) (by kernel_rfl) (by kernel_rfl) (by kernel_rfl) (by kernel_rfl) (fun _ _ d _ _ h=>by cases d<;>exact h) rfl rfl rfl rfl (zak rfl) (zak rfl) (by decide) (fun W9 hf=> ?_);(go_wp2_with fail);exact bodyPost_ret (ay HGE.out hf rfl rfl) rfl (az HGE.out hf (HA1.out) (SlF.nil _ _ _) (SlF.nil _ _ _) (fun k e=>by first|exact e|exact .inl e))
     · (have hqb:((q:Int)==(k:Int))=false:=by rw[beq_eq_false_iff_ne];omega);(have hnz:(n==0)=false:=by rw[beq_eq_false_iff_ne];omega);have HA1:=zaa (HA0.out.trans (tD HIB.out hn (by show ¬ (q:Int)=(k:Int);omega)));clear hn hqk;refine HNB.out.mono ?_;rintro e w' ⟨rfl,rfl⟩;(go_wp2_with fail);refine HIN.out.mono ?_;rintro e w' ⟨rfl,rfl⟩;have hBq:=HQ12.out;have hBk:=HK12.out;have z1:=HG.out.n.cell _ _ (HG.out.net.co q k hBq hBk);have z2:=HG.out.n.fz (q*16+4+k);have HG3:=zaa ((HG.out.setN (i:=q*16+4+k) (by omega) (HG.out.net.setCo hBq hBk (n))).below ((zac _ _).drew));have HGM3:=zaa ((HGM.out.set (C:=B) (o:=q*16+4+k) (zab _) (by omega) (.int .i64 (n))).below ((zac _ _).drew));(go_wp2_with fail);(go_region_with (fail));all_goals
        obtain⟨W4,hW4⟩:∃y,y=(W2.setCell ⟨B,q*16+4+k,none⟩ (.int .i64 (n))).drew:=⟨_,rfl⟩;rw[<-hW4]at HG3 HGM3⊢;clear hW4 z1 z2;clear a0 a1 a2 a3 a4 a5 a6 a7 a8 o0 o1 o2 o3 y0 y1 y2 y3;obtain⟨a0,a1,a2,a3,a4,a5,a6,a7,a8⟩:=HG3.out.ac;have z3:=HG3.out.n.cell _ _ (HG3.out.net.co k q hBk hBq);have z4:=HG3.out.n.fz (k*16+4+q);have HG5:=zaa (HG3.out.setN (i:=k*16+4+q) (by omega) (HG3.out.net.setCo hBk hBq (n)));have HG6:=zaa (HG5.out.below ((zac _ _).drew));(go_wp2_with fail);(go_region_with (fail));all_goals
         (go_wp2_with fail);refine aQ HG6.out 419 420 rfl rfl rfl rfl rfl rfl rfl rfl rfl rfl rfl rfl rfl rfl rfl rfl rfl (by kernel_rfl) (by kernel_rfl) (by kernel_rfl) (by kernel_rfl) (by kernel_rfl) (by kernel_rfl) (by kernel_rfl) (by kernel_rfl) (fun _ _ d _ _ h=>by cases d<;>exact h) rfl rfl rfl rfl (zak rfl) (zak rfl) (by decide) (fun W9 hf=> ?_);(go_wp2_with fail);exact bodyPost_ret (ay HG6.out hf rfl rfl) rfl (az HG6.out hf (HA1.out) (SlF.nil _ _ _) (SlF.nil _ _ _) (fun k e=>by first|exact e|exact .inl e))
   · have hb:(decide ((1:Int)<=n)&&decide (n<=1000))=false:=by
      cases e:(decide ((1:Int)<=n)&&decide (n<=1000))with
      | false=>rfl
      | true=>exact absurd (by simpa using e) hn
     rw[hb]at HIN;have HA1:=zaa (HA0.out.trans (kX (.inr hn)));clear hn hb;refine HNB.out.mono ?_;rintro e w' ⟨rfl,rfl⟩;(go_wp2_with fail);refine HIN.out.mono ?_;rintro e w' ⟨rfl,rfl⟩;(go_wp2_with fail);have HGE:=zaa (HG.out.err (2));refine aQ HGE.out 419 420 rfl rfl rfl rfl rfl rfl rfl rfl rfl rfl rfl rfl rfl rfl rfl rfl rfl (by kernel_rfl) (by kernel_rfl) (by kernel_rfl) (by kernel_rfl) (by kernel_rfl) (by kernel_rfl) (by kernel_rfl) (by kernel_rfl) (fun _ _ d _ _ h=>by cases d<;>exact h) rfl rfl rfl rfl (zak rfl) (zak rfl) (by decide) (fun W9 hf=> ?_);(go_wp2_with fail);exact bodyPost_ret (ay HGE.out hf rfl rfl) rfl (az HGE.out hf (HA1.out) (SlF.nil _ _ _) (SlF.nil _ _ _) (fun k e=>by first|exact e|exact .inl e))
end Go.Proofs.YtojojpjldkpmoaaGreatDoor
