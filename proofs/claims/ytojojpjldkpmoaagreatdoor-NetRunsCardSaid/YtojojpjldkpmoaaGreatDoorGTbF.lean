/-
  
-/
import Derived.Test.YtojojpjldkpmoaaGreatDoorGDoS
import Derived.Test.YtojojpjldkpmoaaGreatDoorGTbG
import Derived.WalkSpells
import Derived.Lib.SliceRun
import Derived.Lib.QuietBelow
import Derived.Test.YtojojpjldkpmoaaGreatDoorGTbE
set_option linter.unusedVariables false
set_option linter.unusedSimpArgs false
set_option maxHeartbeats 16000000
set_option maxRecDepth 100000
namespace Go.Proofs.YtojojpjldkpmoaaGreatDoor
section
open Go Go.RowKit Go.Deep
theorem nV{xs:List ab}(h:aj xs=0):∀e∈xs,e.key.size<4294967281/\e.value.size<4294967281:=by
 intro e he;have h1:=(dX h).ok e he;unfold bj eu at h1;simp only[Bool.and_eq_true,decide_eq_true_eq]at h1;omega
theorem zP(w:World)(B:Nat)(hB:B=w.heap.size)(T:TypeId):(w.alloc (.cells Tryz.zeroCells178 T)).there B 0 168:=by
 intro j hj;rw[zbb];refine⟨?_,zaL _ _ _ _ hB⟩;rw[zah _ _ _ _ hB,<-Array.getElem?_toList,kH];rw[zad (by rw[CP];exact hj)];rfl
def cU(xs:List ab)(f:Int):List af × Int:=if aj xs≠0 then([],aj xs)else if decide (0<=f)&&decide (f<=11)then(cH xs f.toNat 12,0)else([],2)
def yI(r:List af × Int)(w:World)(e:Ending)(w':World):Prop:=∃v,e= .returned (.tuple #[v,.int .i64 r.2])/\OwR aB 130 w.heap.size w' v r.1/\Below w.heap.size w w'
theorem rH{r:List af × Int}{w w':World}{v:Value}{l:List af}{n:Int}(h:r=(l,n))(hs:OwR aB 130 w.heap.size w' v l)(hb:Below w.heap.size w w'):yI r w (.returned (.tuple #[v,.int .i64 n])) w':=⟨v,by rw[h],by rw[h];exact hs,hb⟩
theorem zi{E base:Nat}{w:World}{v:Value}{xs:List af}(h:OwR aB E base w v xs):∃A n c,v= .slice A n c:=by
 obtain⟨A,c,e⟩:=h.form;exact⟨A,_,c,e⟩
theorem iT{B:Nat}{a w w':World}{v v':Value}{E:TypeId}{xs:List af}(h:Below B a w)(ho:OwR aB E B w v xs)(hg:al w v w' v'):Below B a w':=
 h.grown hg.grown ho.choose_spec.2.2.2 (fun k hk=>(ho.base_le k hk).1)
theorem lN{xs:List ab}{s n k:Nat}(h:k<(ex xs s n).length):(ex xs s n)[k]=ax xs s k:=by simp[ex]
theorem yQ(v:Value)(xs:List ab)(f:Int)(w:World)(h:Sl aW w v xs)(hf:inR f)(hE:Env w):
  Calls Tryz.prog 67 #[v,.int .i64 f] w (yI (cU xs f) w):=by
 have HC:=zaa (fy v xs w h);obtain⟨A,c,rfl⟩:=h.form;have H:=zaa h;have HE:=zaa hE;unfold inR at hf;clear h hE;by_cases hc:aj xs=0
 · (have hc0:(aj xs !=0)=false:=by simp[hc]);by_cases h0:f<0
   · have HW:=zaa (show cU xs f=([],2)by
      unfold cU;rw[if_neg (by simp[hc]),if_neg];simp;omega)
     clear hc;(go_enter Tryz.func67,Tryz.ntmps67);(go_wp2_with (go_at_call 63;refine HC.out.mono ?_;rintro e w1 ⟨rfl,hb1⟩));(go_ret2);exact rH HW.out (OwR.nil _ _ hb1.size) hb1
   · by_cases h11:11<f
     · have HW:=zaa (show cU xs f=([],2)by
        unfold cU;rw[if_neg (by simp[hc]),if_neg];simp;omega)
       (have h12:12<=f:=by omega);clear hc;(go_enter Tryz.func67,Tryz.ntmps67);(go_wp2_with (go_at_call 63;refine HC.out.mono ?_;rintro e w1 ⟨rfl,hb1⟩));(go_ret2);exact rH HW.out (OwR.nil _ _ hb1.size) hb1
     · obtain⟨s,rfl,hs⟩:∃s:Nat,f=s/\s<12:=⟨f.toNat,by omega,by omega⟩;have HW:=zaa (show cU xs s=(cH xs s 12,0)by
        unfold cU;rw[if_neg (by simp[hc]),if_pos (by simp;omega)];rfl)
       have HCK:=zaa hc;(have h12:¬ (12:Int)<=(s:Int):=by omega);clear hc;(go_enter Tryz.func67,Tryz.ntmps67);(go_wp2_with (go_at_call 63;refine HC.out.mono ?_;rintro e w1 ⟨rfl,hb1⟩;have HB1:=zaa hb1;clear hb1));have HG1:=zaa (zO (.slice A xs.length c) xs w1.heap.size w1 (w1.alloc (.cells Tryz.zeroCells178 178)) (H.out.below HB1.out) (nV HCK.out) (HE.out.below HB1.out) ((zac _ _).alloc (zab _) _) (zab _) (zP w1 _ rfl _) (by simp) (fun o=>zaL _ _ _ _ rfl));refine HG1.out.mono ?_;rintro e w2 ⟨rfl,hg2,hb2⟩;have HG2:=zaa hg2;have HB2:=zaa hb2;have HLT:=zaa hg2.lt;obtain⟨G,hG⟩:∃G,G=w1.heap.size:=⟨_,rfl⟩;rw[<-hG]at HG2 HLT;rw[<-hG];have HGB:=zaa (show w.heap.size<=G by rw[hG];exact HB1.out.size);clear hg2 hb2 HG1 hG;obtain⟨gl1,gl2⟩:=sw HCK.out;have HG3:=zaa (HG2.out.eq (g':=⟨fun a b=>(bB xs a b:Nat),fun a=>(aP xs a).1,fun a=>ar xs a⟩) (fun a b ha hb=>(gl1 a b ha hb).symm) (fun a ha=>(gl2 a ha).symm) (fun a ha=>(sv HCK.out a ha).symm));have HGW:=zaa (zL w2.heap.size G ⟨fun a b=>(bB xs a b:Nat),fun a=>(aP xs a).1,fun a=>ar xs a⟩ (fun a b=>bB xs a b) s w2 ⟨HG3.out,HLT.out,rfl,fun _ _ _ _=>rfl,fun a b=>ij xs a b⟩ hs);clear gl1 gl2 HG2;(go_wp2_with fail);refine HGW.out.mono ?_;rintro e w3 ⟨v3,st,R,rfl,hs3,hb3,hi,hcv,hh⟩;rw[show(List.range 12).map (mT st)=ex xs s 12 from List.map_congr_left (fun q hq=>nF hs (fun a b=>rfl) (fun a=>rfl) hi hcv hh (zbT.1 hq))]at hs3;have HB3:=zaa ((HB1.out.trans (HB2.out.mono HB1.out.size)).trans (hb3.mono (by have:=HB1.out.size;have:=HB2.out.size;omega)));have HG4:=zaa (HG3.out.below hb3);obtain⟨A3,c3,hv3⟩:=hs3.form;rw[cR]at hv3;subst hv3;have HS3:=zaa hs3;clear hs3 hb3 hi hcv hh HGW HG3 HLT HB1 HB2;(go_wp2_with fail);(go_loopw [8,33] (fun o i wr=>∃k:Nat,k<=12/\i= .int .i64 k/\OwR aB 130 w3.heap.size wr o (cH xs s k)/\Below w3.heap.size w3 wr) (fun _ i _=>12-(intOf i).toNat));(case atStart=>exact⟨0,zap _,rfl,OwR.nil _ _ (zab _),zac _ _⟩);case round=>
        obtain⟨k,hk,rfl,ho,hb⟩:=hrel;have HO:=zaa ho;have HB:=zaa hb;clear ho hb;by_cases hlt:k<12
        · (have hki:(k:Int)<12:=by omega);have hk0:(0:Int)<=(k:Int):=zai k;obtain⟨bw,offw,rfl,hbw⟩:=HS3.out.at_ (by rw[cR];exact hlt);obtain⟨vh,g1,g2,f3,f4⟩:=HS3.out.way (k:=k) (by rw[cR];exact hlt);rw[lN]at g1 f3 f4;have f1:=aa HB.out g1;have f2:=aa HB.out g2;clear g1 g2;have HF3:=zaa f3;(obtain⟨Ah,nh,ch,rfl⟩:∃A n c,vh= .slice A n c:=by obtain⟨A,c,e⟩:=f3.form;exact⟨A,_,c,e⟩);obtain⟨vp,p1,p2⟩:=HG4.out.prf k hlt;have HPF:=zaa (show Sl aA w3 vp (ar xs k)from SlF.sl p2);obtain⟨Ap,cp,hvp,_⟩:=p2;have hpn:(ar xs k).length<=6:=(bi (cC xs k)).1;subst hvp;have hgl:G<wr.heap.size:=zas HG4.out.lt HB.out.size;(have hgn1:¬ G=wr.heap.size:=by omega);(have hgn2:¬ wr.heap.size=G:=by omega);have p1:=aa HB.out p1;have p3:(wr.alloc (.cells #[.int .i64 (ax xs s k).cost,.slice Ah nh ch] 152)).cell? ⟨G,156+k,none⟩=some (.slice Ap (ar xs k).length cp):=aa ((zac _ _).alloc (zab _) _) p1;have hbx:iV (wr.alloc (.cells #[.int .i64 (ax xs s k).cost,.slice Ah nh ch] 152)) wr.heap.size (ax xs s k).cost (.slice Ah nh ch):=by
           refine⟨?_,?_,fun i=>zaL _ _ _ _ rfl,by simp⟩
           · rw[zah _ _ _ _ rfl];rfl
           · rw[zah _ _ _ _ rfl];rfl
          have hal:=(zac wr.heap.size wr).alloc (zab _) (.cells #[.int .i64 (ax xs s k).cost,.slice Ah nh ch] 152);have HX:=zaa hbx;have HO1:=zaa (HO.out.keep hal);have HB1:=zaa (HB.out.trans (hal.mono HB.out.size));clear hbx hal;(go_wp2_with fail);clear p1 p3 f1 f2 hgl hgn1 hgn2;(have hne0:∀o,OwR aB 130 w3.heap.size wr o (cH xs s k)->o.ownBlock≠some wr.heap.size:=fun o h e=>by have:=(h.base_le _ e).2;omega);have HNE:=zaa (hne0 _ HO.out);have HB3S:=zaa (show w3.heap.size<=wr.heap.size from HB.out.size);obtain⟨W4,hW4⟩:∃x,x=wr.alloc (.cells #[.int .i64 (ax xs s k).cost,.slice Ah nh ch] 152):=⟨_,rfl⟩;rw[<-hW4]at HX HO1 HB1;rw[<-hW4];obtain⟨WB,hWB⟩:∃x,x=wr.heap.size:=⟨_,rfl⟩;rw[<-hWB]at HX HNE HB3S;rw[<-hWB];have HWP:=zaa (vu xs hs hlt);clear hW4 hWB hne0 HO HB;(go_loopw [8,45] (fun o j wr5=>∃m:Nat,m<=(ar xs k).length/\j= .int .i64 m/\OwR aB 130 w3.heap.size wr5 o (jb xs s k (cH xs s k) ((ar xs k).take m))/\o.ownBlock≠some WB/\iV wr5 WB (ax xs s k).cost (.slice Ah nh ch)/\Below w3.heap.size w3 wr5) (fun _ j _=>(ar xs k).length-(intOf j).toNat));(case atStart=>exact⟨0,zap _,rfl,by simpa [jb]using HO1.out,HNE.out,HX.out,HB1.out⟩);case round=>
           obtain⟨m,hm,rfl,ho,hne,hbx,hb⟩:=hrel;have HO:=zaa ho;have HB:=zaa hb;clear HX HO1 HB1 HNE;have HNE:=zaa hne;have HX:=zaa hbx;clear ho hb hne hbx;by_cases hml:m<(ar xs k).length
           · (have hmi:(m:Int)<((ar xs k).length:Int):=by omega);obtain⟨bp,offp,hAp,hbp⟩:=HPF.out.at_ hml;subst hAp;obtain⟨q1,q2,q3,q4⟩:=(HPF.out.below HB.out).pref hml;have HRW:=zaa (show jb xs s k (cH xs s k) ((ar xs k).take (m+1))=g9 xs s k (jb xs s k (cH xs s k) ((ar xs k).take m)) (ar xs k)[m]by
              unfold jb;rw[zar hml,zcr];rfl)
             obtain⟨hpl,hpb,hpo⟩:=bi (cC xs k);have hsr:=od (xs:=xs) (s:=s) (n:=k) ((ar xs k).take m) _ (nT xs s k) (hpo.sublist (List.take_sublist _ _));have hgr:=o9 (xs:=xs) hs hlt ((ar xs k).take m) (cH xs s k) (fun q hq=>hpb q (zbk hq)) (lp (xs:=xs) hs k (by omega));have hlr:=sk (xs:=xs) (s:=s) (n:=k) ((ar xs k).take m) (cH xs s k);have hlt6:=ni xs s k;have HSR:=zaa hsr.1;have HGR:=zaa hgr;have HLR:=zaa (show(jb xs s k (cH xs s k) ((ar xs k).take m)).length<=1000 by rw[zat]at hlr;omega);have HPB:=zaa (hpb _ (zaw hml));clear hpl hpb hpo hsr hgr hlr hlt6;obtain⟨p,hp⟩:∃p,p=(ar xs k)[m]:=⟨_,rfl⟩;rw[<-hp]at q1 q2 q3 q4 HRW HPB;clear hp;obtain⟨L,hL⟩:∃L,L=jb xs s k (cH xs s k) ((ar xs k).take m):=⟨_,rfl⟩;rw[<-hL]at HO HRW HSR HGR HLR;clear hL;have hal:=(zac wr.heap.size wr).alloc (zab _) (.cells #[.int .i64 p.addr,.int .i64 p.bits] 32);have HAL:=zaa hal;have HO1:=zaa (HO.out.keep hal);have HX1:=zaa (HX.out.below hal);have HB1:=zaa (HB.out.trans (hal.mono HB.out.size));obtain⟨A5,n5,c5,rfl⟩:=zi HO.out;by_cases hks:k=s
             · (have hkb:((k:Int)==(s:Int))=true:=by rw[beq_iff_eq];omega);have HAD:=zaa (show g9 xs s k L p=fA L ⟨p,true,0,[]⟩by unfold g9 bv;rw[if_pos hks]);have HGD:=zaa (show dG ⟨p,true,0,[]⟩from⟨HPB.out,zbZ _,(by show(0:Int)<=1048576;omega),rv,.inl ⟨rfl,rfl,rfl⟩⟩);have HCA:=zaa (yG _ L ⟨p,true,0,[]⟩ (.slice none 0 0) w3.heap.size _ HO1.out HSR.out HGR.out HGD.out ⟨none,0,rfl,zab _,zap _,fun i x h=>by simp at h⟩ HLR.out);clear hal hks;(go_wp2_with (go_at_call 111;refine HCA.out.mono ?_;rintro e w6 ⟨v6,rfl,ho6,hg6⟩;have HO6:=zaa ho6;have HG6:=zaa hg6;clear ho6 hg6));(go_roundw);case rel=>exact⟨m+1,by omega,by go_num,by rw[HRW.out,HAD.out];exact HO6.out,fun e=>by
                rcases HG6.out.own _ e with h1|h1
                · exact HNE.out h1
                · have:=HX1.out.lt;omega,HX1.out.keep (HG6.out.grown.block _ HX1.out.lt (fun e=>HNE.out e.symm)),iT HB1.out HO1.out HG6.out⟩
               case measure=>simp[intOf];omega
             · (have hkb:((k:Int)==(s:Int))=false:=by rw[beq_eq_false_iff_ne];omega);clear hal;have x0:=HX1.out.c0;have x1:=HX1.out.c1;by_cases hc0:0<=(ax xs s k).cost
               · have HAD:=zaa (show g9 xs s k L p=fA L ⟨p,false,(ax xs s k).cost,(ax xs s k).hops⟩by unfold g9 bv;rw[if_neg hks,if_pos hc0]);have HGD:=zaa (show dG ⟨p,false,(ax xs s k).cost,(ax xs s k).hops⟩from⟨HPB.out,hc0,HWP.out.2,iw _ _ _,.inr ⟨rfl,sN hks hc0⟩⟩);have hhl:=HGD.out.len;have HCL:=zaa (fun w' (hb:Below w3.heap.size w3 w')=>py (.slice Ah nh ch) (ax xs s k).hops w' (HF3.out.below hb) (by have h9:(ax xs s k).hops.length<=12:=hhl;omega));clear hks hhl;generalize (ax xs s k).cost=cw at*;generalize (ax xs s k).hops=hw at*;(go_wp2_with fail);(have z0:(wr.alloc (.cells #[.int .i64 p.addr,.int .i64 p.bits] 32)).cell? ⟨wr.heap.size,0,none⟩=some (.int .i64 p.addr):=by rw[zah _ _ _ _ rfl];rfl);(have z1:(wr.alloc (.cells #[.int .i64 p.addr,.int .i64 p.bits] 32)).cell? ⟨wr.heap.size,1,none⟩=some (.int .i64 p.bits):=by rw[zah _ _ _ _ rfl];rfl);obtain⟨W5,hW5⟩:∃x,x=wr.alloc (.cells #[.int .i64 p.addr,.int .i64 p.bits] 32):=⟨_,rfl⟩;rw[<-hW5]at HO1 HX1 HB1 z0 z1 x0 x1;rw[<-hW5];obtain⟨P,hP⟩:∃x,x=wr.heap.size:=⟨_,rfl⟩;rw[<-hP]at z0 z1;rw[<-hP];have HCA:=zaa (fun v6 w6 (hb:Below W5.heap.size W5 w6) (ho:OwR aI 3 W5.drew.heap.size w6 v6 hw)=>yG (.slice A5 n5 c5) L ⟨p,false,cw,hw⟩ v6 w3.heap.size w6 (HO1.out.keep hb) HSR.out HGR.out HGD.out (SlR.keep (S':=fun q=>q<w6.heap.size/\(Value.slice A5 n5 c5).ownBlock≠some q) ho.slF (fun _ _=>rfl) (fun q hq=>⟨hq.1,fun e=>by have h1:=(HO1.out.base_le _ e).2;have h2:W5.heap.size<=q:=hq.2;omega⟩)) HLR.out);unfold af.agg at HCA;clear hW5 hP HAL HX HO HB;go_region_with (first
                  | (go_at_call 112;refine(HCL.out _ HB1.out.drew).mono ?_;rintro e w6 ⟨v6,rfl,ho6,hb6⟩;obtain⟨A6,n6,c6,rfl⟩:=ap ho6 (by decide);have hb7:=Below.trans ((zac W5.heap.size W5).drew) hb6;have HB7:=zaa hb7;have HO6:=zaa ho6;have y0:=aa hb7 z0;have y1:=aa hb7 z1;have y2:=aa hb7 x0;have y3:=aa hb7 x1;clear hb6 hb7 ho6)
                  | (go_at_call 111;refine(HCA.out _ _ HB7.out HO6.out).mono ?_;rintro e w8 ⟨v8,rfl,ho8,hg8⟩;have HO8:=zaa ho8;have HG8:=zaa hg8;clear ho8 hg8))
                 all_goals
                  (go_wp2_with fail);(go_roundw);case rel=>exact⟨m+1,by omega,by go_num,by rw[HRW.out,HAD.out];exact HO8.out,fun e=>by
                   rcases HG8.out.own _ e with h1|h1
                   · exact HNE.out h1
                   · have h2:=HX1.out.lt;have h3:=HB7.out.size;omega,(HX1.out.below HB7.out).keep (HG8.out.grown.block _ (zas HX1.out.lt HB7.out.size) (fun e=>HNE.out e.symm)),iT (HB1.out.trans (HB7.out.mono HB1.out.size)) (HO1.out.keep HB7.out) HG8.out⟩
                  case measure=>simp[intOf];omega
               · have HAD:=zaa (show g9 xs s k L p=L by unfold g9 bv;rw[if_neg hks,if_neg hc0]);clear hks;(go_wp2_with fail);(go_roundw);(case rel=>exact⟨m+1,by omega,by go_num,by rw[HRW.out,HAD.out];exact HO1.out,HNE.out,HX1.out,HB1.out⟩);case measure=>simp[intOf];omega
           · (obtain rfl:m=(ar xs k).length:=by omega);(have hmi:¬ (((ar xs k).length:Int)<((ar xs k).length:Int)):=by omega);have HT:=zaa (show jb xs s k (cH xs s k) ((ar xs k).take (ar xs k).length)=cH xs s (k+1)by rw[zaN];rfl);(go_wp2_with fail);(go_roundw);(case rel=>exact⟨k+1,by omega,by go_num,by rw[<-HT.out];exact HO.out,HB.out⟩);case measure=>simp[intOf];omega
        · (obtain rfl:k=12:=by omega);(have hki:¬ ((12:Nat):Int)<12:=by omega);(go_wp2_with fail);(go_ret2);exact rH HW.out (HO.out.lower HB3.out.size) (HB3.out.trans (HB.out.mono HB3.out.size))
 · (have hc0:(aj xs !=0)=true:=by simp[hc]);have HW:=zaa (show cU xs f=([],aj xs)by unfold cU;rw[if_pos hc]);clear hc;(go_enter Tryz.func67,Tryz.ntmps67);(go_wp2_with (go_at_call 63;refine HC.out.mono ?_;rintro e w1 ⟨rfl,hb1⟩));(go_ret2);exact rH HW.out (OwR.nil _ _ hb1.size) hb1
end
end Go.Proofs.YtojojpjldkpmoaaGreatDoor
