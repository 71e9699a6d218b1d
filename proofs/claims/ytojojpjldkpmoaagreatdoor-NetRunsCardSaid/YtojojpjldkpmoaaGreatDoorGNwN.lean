/-
  
-/
import Derived.Test.YtojojpjldkpmoaaGreatDoorGNwL
import Derived.Deep.RegionHeld3
set_option linter.unusedVariables false
set_option linter.unusedSimpArgs false
set_option maxHeartbeats 16000000
set_option maxRecDepth 100000
namespace Go.Proofs.YtojojpjldkpmoaaGreatDoor
section
open Go Go.RowKit Go.Deep
theorem zB{X:Nat->Prop}(N q:Nat)(b n m ad bt:Int)(key value:ByteArray)(x:Net)(w:World)(h:bC X w N x)(hx:bg x)(hE:fZ N w)(hc:(⟨1,q,b,n,m,⟨ad,bt⟩,key,value⟩:ao).wf)(hia:isN (q:Int)=true):
  Calls Tryz.prog 20 #[.pointer (some ⟨N,0,none⟩),(⟨1,q,b,n,m,⟨ad,bt⟩,key,value⟩:ao).agg] w (lK X N (aK x ⟨1,q,b,n,m,⟨ad,bt⟩,key,value⟩) w):=by
 have HM:=zaa h;have HNW:=zaa h.lt;have HX:=zaa hx;have HC:=zaa hc;obtain⟨W3,A,R,O,hA3,hR3,hO3,hW3,haw⟩:=fE w 1 q b n m ad bt key value;have HA3:=zaa hA3;have HR3:=zaa hR3;have HO3:=zaa hO3;have HW3:=zaa hW3;have HAW:=zaa haw;have HI:=zaa (dA (q:Int) W3 hia);have HM3:=zaa (h.gap haw.b);have HE3:=zaa (hE.below haw.b (zbh h.lt));obtain⟨ia0,ia1⟩:=(aV (q:Int)).1 hia;have hq:q<12:=by omega
 have HQ:=zaa hq;have HA0:=zaa (cX (x:=x) (c:=⟨1,q,b,n,m,⟨ad,bt⟩,key,value⟩) (show ¬ ((1:Int)<1∨10<(1:Int))by decide) hia (a:=q) (k:=1) rfl rfl);obtain⟨wk,wa,wb,wn,wm,wad,wbt,wke,wva⟩:=HC.out;unfold ao.agg;clear hA3 hR3 hO3 hW3 haw h hx hE hc hia;by_cases hn1:1<=n
 · have HA:=zaa (HA0.out.trans ((mp x _ q).trans (if_pos hn1)));have HM3':=zaa (HM3.out.setGap (B:=O) (o:=0) (u:= .int .i64 2) (by have:=HAW.out.sz;have:=HNW.out;omega) (.inr (by have:=HAW.out.sz;omega)));have HCALL:=zaa (qH N q b n x _ HM3'.out HQ.out);clear HA0;(go_enter Tryz.func20,Tryz.ntmps20);(go_wp2_with fail);rw[HW3.out,<-HO3.out,<-HR3.out,<-HA3.out];clear HW3 HO3 HR3 HA3;refine HI.out.mono ?_;rintro e w' ⟨rfl,rfl⟩;have a0:=HAW.out.a 0;have a1:=HAW.out.a 1;have a2:=HAW.out.a 2;have a3:=HAW.out.a 3;have a4:=HAW.out.a 4;have a5:=HAW.out.a 5;have a6:=HAW.out.a 6;have a7:=HAW.out.a 7;have a8:=HAW.out.a 8;have r0:=HAW.out.r 0;have r1:=HAW.out.r 1;have r2:=HAW.out.r 2;have r3:=HAW.out.r 3;have o0:=HAW.out.o 0;have o1:=HAW.out.o 1;have o2:=HAW.out.o 2;have o3:=HAW.out.o 3;have zr0:=HAW.out.fr 0;have zr1:=HAW.out.fr 1;have zr2:=HAW.out.fr 2;have zr3:=HAW.out.fr 3;have zo0:=HAW.out.fo 0;have zo1:=HAW.out.fo 1;have zo2:=HAW.out.fo 2;have zo3:=HAW.out.fo 3;simp only[ao.cells,dD,zaB,zaC,zaA]at a0 a1 a2 a3 a4 a5 a6 a7 a8 r0 r1 r2 r3 o0 o1 o2 o3;(have hRO:¬ R=O:=by have:=HAW.out.sz;omega);have hOR:¬ O=R:=fun e=>hRO e.symm;(go_wp2_with fail);refine HCALL.out.mono ?_;rintro e w4 ⟨rfl,hm4,hg4⟩;have HM4:=zaa hm4;have HG4:=zaa hg4;have HAW:=zaa HAW.out.set2;clear a0 a1 a2 a3 a4 a5 a6 a7 a8 r0 r1 r2 r3 o0 o1 o2 o3 zr0 zr1 zr2 zr3 zo0 zo1 zo2 zo3;obtain⟨fa,fr,fo,fzr,fzo⟩:=HAW.out.grown hg4 HNW.out;have a7:=fa 7;have r0:=fr 0;have r1:=fr 1;have r2:=fr 2;have r3:=fr 3;have o0:=fo 0;have o1:=fo 1;have o2:=fo 2;have o3:=fo 3;have zr0:=fzr 0;have zr1:=fzr 1;have zr2:=fzr 2;have zr3:=fzr 3;have zo0:=fzo 0;have zo1:=fzo 1;have zo2:=fzo 2;have zo3:=fzo 3;simp only[ao.cells,dD,zaB,zaC,zaA]at a7 r0 r1 r2 r3 o0 o1 o2 o3;clear fa fr fo fzr fzo;clear hm4 hg4;(go_wp2_with fail);refine bodyPost_ret (v:= .agg #[.int .i64 (bF x q b n).2,.slice none 0 0,.int .i64 0,.slice none 0 0]) (by simp[results,Tryz.results20,go_sem,zaj, *]) rfl ?_;rw[HA.out];apply ek HAW.out (Y:=kz X w W3);(case hX=>exact fun k h=> .inl h);case hYR=>
    have h9:=HAW.out.sz
    (try simp only[World.setCell,zaQ]at h9)
    exact .inr (by omega)
   case hYO=>
    have h9:=HAW.out.sz
    (try simp only[World.setCell,zaQ]at h9)
    exact .inr (by omega)
   (case hn=>exact HM4.out);(case hg=>exact HG4.out);(case hN=>exact HNW.out);(case hs=>simp[World.setCell]);(case ho=>repeat rw[bE]);(case ht=>repeat rw[aZ]);(case hu=>repeat rw[aL]);case hk=>
    intro k _ h1 h2;repeat rw[zao _ _ _ _ (by first|exact h1|exact h2)]
   (case hp=>exact SlF.nil _ _ _);(case hq=>exact SlF.nil _ _ _);(case hc=>rfl);case hd=>rfl
 · have HA:=zaa (HA0.out.trans ((mp x _ q).trans (if_neg hn1)));have hn2:¬ 1<=n:=hn1;clear HA0;(go_enter Tryz.func20,Tryz.ntmps20);(go_wp2_with fail);rw[HW3.out,<-HO3.out,<-HR3.out,<-HA3.out];clear HW3 HO3 HR3 HA3;refine HI.out.mono ?_;rintro e w' ⟨rfl,rfl⟩;have a0:=HAW.out.a 0;have a1:=HAW.out.a 1;have a2:=HAW.out.a 2;have a3:=HAW.out.a 3;have a4:=HAW.out.a 4;have a5:=HAW.out.a 5;have a6:=HAW.out.a 6;have a7:=HAW.out.a 7;have a8:=HAW.out.a 8;have r0:=HAW.out.r 0;have r1:=HAW.out.r 1;have r2:=HAW.out.r 2;have r3:=HAW.out.r 3;have o0:=HAW.out.o 0;have o1:=HAW.out.o 1;have o2:=HAW.out.o 2;have o3:=HAW.out.o 3;have zr0:=HAW.out.fr 0;have zr1:=HAW.out.fr 1;have zr2:=HAW.out.fr 2;have zr3:=HAW.out.fr 3;have zo0:=HAW.out.fo 0;have zo1:=HAW.out.fo 1;have zo2:=HAW.out.fo 2;have zo3:=HAW.out.fo 3;simp only[ao.cells,dD,zaB,zaC,zaA]at a0 a1 a2 a3 a4 a5 a6 a7 a8 r0 r1 r2 r3 o0 o1 o2 o3;(have hRO:¬ R=O:=by have:=HAW.out.sz;omega);have hOR:¬ O=R:=fun e=>hRO e.symm;(go_wp2_with fail);refine bodyPost_ret (v:= .agg #[.int .i64 2,.slice none 0 0,.int .i64 0,.slice none 0 0]) (by simp[results,Tryz.results20,go_sem,zaj, *]) rfl ?_;rw[HA.out];apply ek HAW.out (Y:=kz X w W3);(case hX=>exact fun k h=> .inl h);case hYR=>
    have h9:=HAW.out.sz
    (try simp only[World.setCell,zaQ]at h9)
    exact .inr (by omega)
   case hYO=>
    have h9:=HAW.out.sz
    (try simp only[World.setCell,zaQ]at h9)
    exact .inr (by omega)
   (case hn=>exact HM3.out);(case hg=>exact zaV _ _);(case hN=>exact HNW.out);(case hs=>simp[World.setCell]);(case ho=>repeat rw[bE]);(case ht=>repeat rw[aZ]);(case hu=>repeat rw[aL]);case hk=>
    intro k _ h1 h2;repeat rw[zao _ _ _ _ (by first|exact h1|exact h2)]
   (case hp=>exact SlF.nil _ _ _);(case hq=>exact SlF.nil _ _ _);(case hc=>rfl);case hd=>rfl
theorem zA{X:Nat->Prop}(N q:Nat)(b n m ad bt:Int)(key value:ByteArray)(x:Net)(w:World)(h:bC X w N x)(hx:bg x)(hE:fZ N w)(hc:(⟨2,q,b,n,m,⟨ad,bt⟩,key,value⟩:ao).wf)(hia:isN (q:Int)=true):
  Calls Tryz.prog 20 #[.pointer (some ⟨N,0,none⟩),(⟨2,q,b,n,m,⟨ad,bt⟩,key,value⟩:ao).agg] w (lK X N (aK x ⟨2,q,b,n,m,⟨ad,bt⟩,key,value⟩) w):=by
 have HM:=zaa h;have HNW:=zaa h.lt;have HX:=zaa hx;have HC:=zaa hc;obtain⟨W3,A,R,O,hA3,hR3,hO3,hW3,haw⟩:=fE w 2 q b n m ad bt key value;have HA3:=zaa hA3;have HR3:=zaa hR3;have HO3:=zaa hO3;have HW3:=zaa hW3;have HAW:=zaa haw;have HI:=zaa (dA (q:Int) W3 hia);have HM3:=zaa (h.gap haw.b);have HE3:=zaa (hE.below haw.b (zbh h.lt));obtain⟨ia0,ia1⟩:=(aV (q:Int)).1 hia;have hq:q<12:=by omega
 have HQ:=zaa hq;have HA0:=zaa (cX (x:=x) (c:=⟨2,q,b,n,m,⟨ad,bt⟩,key,value⟩) (show ¬ ((2:Int)<1∨10<(2:Int))by decide) hia (a:=q) (k:=2) rfl rfl);obtain⟨wk,wa,wb,wn,wm,wad,wbt,wke,wva⟩:=HC.out;unfold ao.agg;clear hA3 hR3 hO3 hW3 haw h hx hE hc hia;have HA:=zaa (HA0.out.trans (show _=((bF x q b 0).1,⟨(bF x q b 0).2,[],0,[]⟩)from rfl));have HCALL:=zaa (qH N q b 0 x W3 HM3.out HQ.out);clear HA0;go_enter Tryz.func20,Tryz.ntmps20
 go_wp2_with fail
 rw[HW3.out,<-HO3.out,<-HR3.out,<-HA3.out];clear HW3 HO3 HR3 HA3;refine HI.out.mono ?_;rintro e w' ⟨rfl,rfl⟩;have a0:=HAW.out.a 0;have a1:=HAW.out.a 1;have a2:=HAW.out.a 2;have a3:=HAW.out.a 3;have a4:=HAW.out.a 4;have a5:=HAW.out.a 5;have a6:=HAW.out.a 6;have a7:=HAW.out.a 7;have a8:=HAW.out.a 8;have r0:=HAW.out.r 0;have r1:=HAW.out.r 1;have r2:=HAW.out.r 2;have r3:=HAW.out.r 3;have o0:=HAW.out.o 0;have o1:=HAW.out.o 1;have o2:=HAW.out.o 2;have o3:=HAW.out.o 3;have zr0:=HAW.out.fr 0;have zr1:=HAW.out.fr 1;have zr2:=HAW.out.fr 2;have zr3:=HAW.out.fr 3;have zo0:=HAW.out.fo 0;have zo1:=HAW.out.fo 1;have zo2:=HAW.out.fo 2;have zo3:=HAW.out.fo 3;simp only[ao.cells,dD,zaB,zaC,zaA]at a0 a1 a2 a3 a4 a5 a6 a7 a8 r0 r1 r2 r3 o0 o1 o2 o3;have hRO:¬ R=O:=by have:=HAW.out.sz;omega
 have hOR:¬ O=R:=fun e=>hRO e.symm;go_wp2_with fail
 refine HCALL.out.mono ?_;rintro e w4 ⟨rfl,hm4,hg4⟩;have HM4:=zaa hm4;have HG4:=zaa hg4;clear a0 a1 a2 a3 a4 a5 a6 a7 a8 r0 r1 r2 r3 o0 o1 o2 o3 zr0 zr1 zr2 zr3 zo0 zo1 zo2 zo3;obtain⟨fa,fr,fo,fzr,fzo⟩:=HAW.out.grown hg4 HNW.out;have a7:=fa 7;have r0:=fr 0;have r1:=fr 1;have r2:=fr 2;have r3:=fr 3;have o0:=fo 0;have o1:=fo 1;have o2:=fo 2;have o3:=fo 3;have zr0:=fzr 0;have zr1:=fzr 1;have zr2:=fzr 2;have zr3:=fzr 3;have zo0:=fzo 0;have zo1:=fzo 1;have zo2:=fzo 2;have zo3:=fzo 3;simp only[ao.cells,dD,zaB,zaC,zaA]at a7 r0 r1 r2 r3 o0 o1 o2 o3;clear fa fr fo fzr fzo;clear hm4 hg4;go_wp2_with fail
 refine bodyPost_ret (v:= .agg #[.int .i64 (bF x q b 0).2,.slice none 0 0,.int .i64 0,.slice none 0 0]) (by simp[results,Tryz.results20,go_sem,zaj, *]) rfl ?_;rw[HA.out];apply ek HAW.out (Y:=kz X w W3);case hX=>exact fun k h=> .inl h
 case hYR=>
  have h9:=HAW.out.sz
  (try simp only[World.setCell,zaQ]at h9)
  exact .inr (by omega)
 case hYO=>
  have h9:=HAW.out.sz
  (try simp only[World.setCell,zaQ]at h9)
  exact .inr (by omega)
 case hn=>exact HM4.out
 case hg=>exact HG4.out
 case hN=>exact HNW.out
 case hs=>simp[World.setCell]
 case ho=>repeat rw[bE]
 case ht=>repeat rw[aZ]
 case hu=>repeat rw[aL]
 case hk=>
  intro k _ h1 h2;repeat rw[zao _ _ _ _ (by first|exact h1|exact h2)]
 case hp=>exact SlF.nil _ _ _
 case hq=>exact SlF.nil _ _ _
 case hc=>rfl
 case hd=>rfl
theorem zz{X:Nat->Prop}(N q:Nat)(b n m ad bt:Int)(key value:ByteArray)(x:Net)(w:World)(h:bC X w N x)(hx:bg x)(hE:fZ N w)(hc:(⟨3,q,b,n,m,⟨ad,bt⟩,key,value⟩:ao).wf)(hia:isN (q:Int)=true):
  Calls Tryz.prog 20 #[.pointer (some ⟨N,0,none⟩),(⟨3,q,b,n,m,⟨ad,bt⟩,key,value⟩:ao).agg] w (lK X N (aK x ⟨3,q,b,n,m,⟨ad,bt⟩,key,value⟩) w):=by
 have HM:=zaa h;have HNW:=zaa h.lt;have HX:=zaa hx;have HC:=zaa hc;obtain⟨W3,A,R,O,hA3,hR3,hO3,hW3,haw⟩:=fE w 3 q b n m ad bt key value;have HA3:=zaa hA3;have HR3:=zaa hR3;have HO3:=zaa hO3;have HW3:=zaa hW3;have HAW:=zaa haw;have HI:=zaa (dA (q:Int) W3 hia);have HM3:=zaa (h.gap haw.b);have HE3:=zaa (hE.below haw.b (zbh h.lt));obtain⟨ia0,ia1⟩:=(aV (q:Int)).1 hia;have hq:q<12:=by omega
 have HQ:=zaa hq;have HA0:=zaa (cX (x:=x) (c:=⟨3,q,b,n,m,⟨ad,bt⟩,key,value⟩) (show ¬ ((3:Int)<1∨10<(3:Int))by decide) hia (a:=q) (k:=3) rfl rfl);obtain⟨wk,wa,wb,wn,wm,wad,wbt,wke,wva⟩:=HC.out;unfold ao.agg;clear hA3 hR3 hO3 hW3 haw h hx hE hc hia;have f1:=(HM3.out.nd q HQ.out).dr;have f2:=HM3.out.fz (q*4+1);by_cases hn0:n=0
 · subst hn0;have HA:=zaa (HA0.out.trans ((mo x _ q).trans (if_pos (.inl rfl))));have HM4:=zaa ((HM3.out.setDr HQ.out false).below (zac _ _).drew);clear HA0;(go_enter Tryz.func20,Tryz.ntmps20);(go_wp2_with fail);rw[HW3.out,<-HO3.out,<-HR3.out,<-HA3.out];clear HW3 HO3 HR3 HA3;refine HI.out.mono ?_;rintro e w' ⟨rfl,rfl⟩;have a0:=HAW.out.a 0;have a1:=HAW.out.a 1;have a2:=HAW.out.a 2;have a3:=HAW.out.a 3;have a4:=HAW.out.a 4;have a5:=HAW.out.a 5;have a6:=HAW.out.a 6;have a7:=HAW.out.a 7;have a8:=HAW.out.a 8;have r0:=HAW.out.r 0;have r1:=HAW.out.r 1;have r2:=HAW.out.r 2;have r3:=HAW.out.r 3;have o0:=HAW.out.o 0;have o1:=HAW.out.o 1;have o2:=HAW.out.o 2;have o3:=HAW.out.o 3;have zr0:=HAW.out.fr 0;have zr1:=HAW.out.fr 1;have zr2:=HAW.out.fr 2;have zr3:=HAW.out.fr 3;have zo0:=HAW.out.fo 0;have zo1:=HAW.out.fo 1;have zo2:=HAW.out.fo 2;have zo3:=HAW.out.fo 3;simp only[ao.cells,dD,zaB,zaC,zaA]at a0 a1 a2 a3 a4 a5 a6 a7 a8 r0 r1 r2 r3 o0 o1 o2 o3;(have hRO:¬ R=O:=by have:=HAW.out.sz;omega);have hOR:¬ O=R:=fun e=>hRO e.symm;(go_wp2_with fail);(go_region_with (fail));all_goals
    have hg4:=(ba W3 N (q*4+1) (.bool false)).trans (am N (zac _ _).drew);obtain⟨W4,hW4⟩:∃x,x=(W3.setCell ⟨N,q*4+1,none⟩ (.bool false)).drew:=⟨_,rfl⟩;rw[<-hW4]at HM4 hg4⊢;clear hW4;have HG4:=zaa hg4;clear f1 f2;clear a0 a1 a2 a3 a4 a5 a6 a7 a8 r0 r1 r2 r3 o0 o1 o2 o3 zr0 zr1 zr2 zr3 zo0 zo1 zo2 zo3;obtain⟨fa,fr,fo,fzr,fzo⟩:=HAW.out.grown hg4 HNW.out;have a7:=fa 7;have r0:=fr 0;have r1:=fr 1;have r2:=fr 2;have r3:=fr 3;have o0:=fo 0;have o1:=fo 1;have o2:=fo 2;have o3:=fo 3;have zr0:=fzr 0;have zr1:=fzr 1;have zr2:=fzr 2;have zr3:=fzr 3;have zo0:=fzo 0;have zo1:=fzo 1;have zo2:=fzo 2;have zo3:=fzo 3;simp only[ao.cells,dD,zaB,zaC,zaA]at a7 r0 r1 r2 r3 o0 o1 o2 o3;clear fa fr fo fzr fzo;clear hg4;(go_wp2_with fail);refine bodyPost_ret (v:= .agg #[.int .i64 0,.slice none 0 0,.int .i64 0,.slice none 0 0]) (by simp[results,Tryz.results20,go_sem,zaj, *]) rfl ?_;rw[HA.out];apply ek HAW.out (Y:=kz X w W3);(case hX=>exact fun k h=> .inl h);case hYR=>
     have h9:=HAW.out.sz
     (try simp only[World.setCell,zaQ]at h9)
     exact .inr (by omega)
    case hYO=>
     have h9:=HAW.out.sz
     (try simp only[World.setCell,zaQ]at h9)
     exact .inr (by omega)
    (case hn=>exact HM4.out);(case hg=>exact HG4.out);(case hN=>exact HNW.out);(case hs=>simp[World.setCell]);(case ho=>repeat rw[bE]);(case ht=>repeat rw[aZ]);(case hu=>repeat rw[aL]);case hk=>
     intro k _ h1 h2;repeat rw[zao _ _ _ _ (by first|exact h1|exact h2)]
    (case hp=>exact SlF.nil _ _ _);(case hq=>exact SlF.nil _ _ _);(case hc=>rfl);case hd=>rfl
 · by_cases hn1:n=1
   · subst hn1;have HA:=zaa (HA0.out.trans ((mo x _ q).trans (if_pos (.inr rfl))));have HM4:=zaa ((HM3.out.setDr HQ.out true).below (zac _ _).drew);clear HA0;(go_enter Tryz.func20,Tryz.ntmps20);(go_wp2_with fail);rw[HW3.out,<-HO3.out,<-HR3.out,<-HA3.out];clear HW3 HO3 HR3 HA3;refine HI.out.mono ?_;rintro e w' ⟨rfl,rfl⟩;have a0:=HAW.out.a 0;have a1:=HAW.out.a 1;have a2:=HAW.out.a 2;have a3:=HAW.out.a 3;have a4:=HAW.out.a 4;have a5:=HAW.out.a 5;have a6:=HAW.out.a 6;have a7:=HAW.out.a 7;have a8:=HAW.out.a 8;have r0:=HAW.out.r 0;have r1:=HAW.out.r 1;have r2:=HAW.out.r 2;have r3:=HAW.out.r 3;have o0:=HAW.out.o 0;have o1:=HAW.out.o 1;have o2:=HAW.out.o 2;have o3:=HAW.out.o 3;have zr0:=HAW.out.fr 0;have zr1:=HAW.out.fr 1;have zr2:=HAW.out.fr 2;have zr3:=HAW.out.fr 3;have zo0:=HAW.out.fo 0;have zo1:=HAW.out.fo 1;have zo2:=HAW.out.fo 2;have zo3:=HAW.out.fo 3;simp only[ao.cells,dD,zaB,zaC,zaA]at a0 a1 a2 a3 a4 a5 a6 a7 a8 r0 r1 r2 r3 o0 o1 o2 o3;(have hRO:¬ R=O:=by have:=HAW.out.sz;omega);have hOR:¬ O=R:=fun e=>hRO e.symm;(go_wp2_with fail);(go_region_with (fail));all_goals
      have hg4:=(ba W3 N (q*4+1) (.bool true)).trans (am N (zac _ _).drew);obtain⟨W4,hW4⟩:∃x,x=(W3.setCell ⟨N,q*4+1,none⟩ (.bool true)).drew:=⟨_,rfl⟩;rw[<-hW4]at HM4 hg4⊢;clear hW4;have HG4:=zaa hg4;clear f1 f2;clear a0 a1 a2 a3 a4 a5 a6 a7 a8 r0 r1 r2 r3 o0 o1 o2 o3 zr0 zr1 zr2 zr3 zo0 zo1 zo2 zo3;obtain⟨fa,fr,fo,fzr,fzo⟩:=HAW.out.grown hg4 HNW.out;have a7:=fa 7;have r0:=fr 0;have r1:=fr 1;have r2:=fr 2;have r3:=fr 3;have o0:=fo 0;have o1:=fo 1;have o2:=fo 2;have o3:=fo 3;have zr0:=fzr 0;have zr1:=fzr 1;have zr2:=fzr 2;have zr3:=fzr 3;have zo0:=fzo 0;have zo1:=fzo 1;have zo2:=fzo 2;have zo3:=fzo 3;simp only[ao.cells,dD,zaB,zaC,zaA]at a7 r0 r1 r2 r3 o0 o1 o2 o3;clear fa fr fo fzr fzo;clear hg4;(go_wp2_with fail);refine bodyPost_ret (v:= .agg #[.int .i64 0,.slice none 0 0,.int .i64 0,.slice none 0 0]) (by simp[results,Tryz.results20,go_sem,zaj, *]) rfl ?_;rw[HA.out];apply ek HAW.out (Y:=kz X w W3);(case hX=>exact fun k h=> .inl h);case hYR=>
       have h9:=HAW.out.sz
       (try simp only[World.setCell,zaQ]at h9)
       exact .inr (by omega)
      case hYO=>
       have h9:=HAW.out.sz
       (try simp only[World.setCell,zaQ]at h9)
       exact .inr (by omega)
      (case hn=>exact HM4.out);(case hg=>exact HG4.out);(case hN=>exact HNW.out);(case hs=>simp[World.setCell]);(case ho=>repeat rw[bE]);(case ht=>repeat rw[aZ]);(case hu=>repeat rw[aL]);case hk=>
       intro k _ h1 h2;repeat rw[zao _ _ _ _ (by first|exact h1|exact h2)]
      (case hp=>exact SlF.nil _ _ _);(case hq=>exact SlF.nil _ _ _);(case hc=>rfl);case hd=>rfl
   · have HA:=zaa (HA0.out.trans ((mo x _ q).trans (if_neg (fun h=>h.elim hn0 hn1))));(have hb0:(n !=0)=true:=by simpa using hn0);(have hb1:(n !=1)=true:=by simpa using hn1);clear HA0 f1 f2;(go_enter Tryz.func20,Tryz.ntmps20);(go_wp2_with fail);rw[HW3.out,<-HO3.out,<-HR3.out,<-HA3.out];clear HW3 HO3 HR3 HA3;refine HI.out.mono ?_;rintro e w' ⟨rfl,rfl⟩;have a0:=HAW.out.a 0;have a1:=HAW.out.a 1;have a2:=HAW.out.a 2;have a3:=HAW.out.a 3;have a4:=HAW.out.a 4;have a5:=HAW.out.a 5;have a6:=HAW.out.a 6;have a7:=HAW.out.a 7;have a8:=HAW.out.a 8;have r0:=HAW.out.r 0;have r1:=HAW.out.r 1;have r2:=HAW.out.r 2;have r3:=HAW.out.r 3;have o0:=HAW.out.o 0;have o1:=HAW.out.o 1;have o2:=HAW.out.o 2;have o3:=HAW.out.o 3;have zr0:=HAW.out.fr 0;have zr1:=HAW.out.fr 1;have zr2:=HAW.out.fr 2;have zr3:=HAW.out.fr 3;have zo0:=HAW.out.fo 0;have zo1:=HAW.out.fo 1;have zo2:=HAW.out.fo 2;have zo3:=HAW.out.fo 3;simp only[ao.cells,dD,zaB,zaC,zaA]at a0 a1 a2 a3 a4 a5 a6 a7 a8 r0 r1 r2 r3 o0 o1 o2 o3;(have hRO:¬ R=O:=by have:=HAW.out.sz;omega);have hOR:¬ O=R:=fun e=>hRO e.symm;(go_wp2_with fail);refine bodyPost_ret (v:= .agg #[.int .i64 2,.slice none 0 0,.int .i64 0,.slice none 0 0]) (by simp[results,Tryz.results20,go_sem,zaj, *]) rfl ?_;rw[HA.out];apply ek HAW.out (Y:=kz X w W3);(case hX=>exact fun k h=> .inl h);case hYR=>
      have h9:=HAW.out.sz
      (try simp only[World.setCell,zaQ]at h9)
      exact .inr (by omega)
     case hYO=>
      have h9:=HAW.out.sz
      (try simp only[World.setCell,zaQ]at h9)
      exact .inr (by omega)
     (case hn=>exact HM3.out);(case hg=>exact zaV _ _);(case hN=>exact HNW.out);(case hs=>simp[World.setCell]);(case ho=>repeat rw[bE]);(case ht=>repeat rw[aZ]);(case hu=>repeat rw[aL]);case hk=>
      intro k _ h1 h2;repeat rw[zao _ _ _ _ (by first|exact h1|exact h2)]
     (case hp=>exact SlF.nil _ _ _);(case hq=>exact SlF.nil _ _ _);(case hc=>rfl);case hd=>rfl
theorem zy{X:Nat->Prop}(N q:Nat)(b n m ad bt:Int)(key value:ByteArray)(x:Net)(w:World)(h:bC X w N x)(hx:bg x)(hE:fZ N w)(hc:(⟨4,q,b,n,m,⟨ad,bt⟩,key,value⟩:ao).wf)(hia:isN (q:Int)=true):
  Calls Tryz.prog 20 #[.pointer (some ⟨N,0,none⟩),(⟨4,q,b,n,m,⟨ad,bt⟩,key,value⟩:ao).agg] w (lK X N (aK x ⟨4,q,b,n,m,⟨ad,bt⟩,key,value⟩) w):=by
 have HM:=zaa h;have HNW:=zaa h.lt;have HX:=zaa hx;have HC:=zaa hc;obtain⟨W3,A,R,O,hA3,hR3,hO3,hW3,haw⟩:=fE w 4 q b n m ad bt key value;have HA3:=zaa hA3;have HR3:=zaa hR3;have HO3:=zaa hO3;have HW3:=zaa hW3;have HAW:=zaa haw;have HI:=zaa (dA (q:Int) W3 hia);have HM3:=zaa (h.gap haw.b);have HE3:=zaa (hE.below haw.b (zbh h.lt));obtain⟨ia0,ia1⟩:=(aV (q:Int)).1 hia;have hq:q<12:=by omega
 have HQ:=zaa hq;have HA0:=zaa (cX (x:=x) (c:=⟨4,q,b,n,m,⟨ad,bt⟩,key,value⟩) (show ¬ ((4:Int)<1∨10<(4:Int))by decide) hia (a:=q) (k:=4) rfl rfl);obtain⟨wk,wa,wb,wn,wm,wad,wbt,wke,wva⟩:=HC.out;unfold ao.agg;clear hA3 hR3 hO3 hW3 haw h hx hE hc hia;have HA:=zaa (HA0.out.trans (show _=((ew x q ⟨ad,bt⟩).1,⟨(ew x q ⟨ad,bt⟩).2,[],0,[]⟩)from rfl));have HCALL:=zaa (zr N q ⟨ad,bt⟩ x W3 HM3.out HQ.out HX.out ⟨wad,wbt⟩);clear HA0;go_enter Tryz.func20,Tryz.ntmps20
 go_wp2_with fail
 rw[HW3.out,<-HO3.out,<-HR3.out,<-HA3.out];clear HW3 HO3 HR3 HA3;refine HI.out.mono ?_;rintro e w' ⟨rfl,rfl⟩;have a0:=HAW.out.a 0;have a1:=HAW.out.a 1;have a2:=HAW.out.a 2;have a3:=HAW.out.a 3;have a4:=HAW.out.a 4;have a5:=HAW.out.a 5;have a6:=HAW.out.a 6;have a7:=HAW.out.a 7;have a8:=HAW.out.a 8;have r0:=HAW.out.r 0;have r1:=HAW.out.r 1;have r2:=HAW.out.r 2;have r3:=HAW.out.r 3;have o0:=HAW.out.o 0;have o1:=HAW.out.o 1;have o2:=HAW.out.o 2;have o3:=HAW.out.o 3;have zr0:=HAW.out.fr 0;have zr1:=HAW.out.fr 1;have zr2:=HAW.out.fr 2;have zr3:=HAW.out.fr 3;have zo0:=HAW.out.fo 0;have zo1:=HAW.out.fo 1;have zo2:=HAW.out.fo 2;have zo3:=HAW.out.fo 3;simp only[ao.cells,dD,zaB,zaC,zaA]at a0 a1 a2 a3 a4 a5 a6 a7 a8 r0 r1 r2 r3 o0 o1 o2 o3;have hRO:¬ R=O:=by have:=HAW.out.sz;omega
 have hOR:¬ O=R:=fun e=>hRO e.symm;go_wp2_with fail
 refine HCALL.out.mono ?_;rintro e w4 ⟨rfl,hm4,hg4⟩;have HM4:=zaa hm4;have HG4:=zaa hg4;clear a0 a1 a2 a3 a4 a5 a6 a7 a8 r0 r1 r2 r3 o0 o1 o2 o3 zr0 zr1 zr2 zr3 zo0 zo1 zo2 zo3;obtain⟨fa,fr,fo,fzr,fzo⟩:=HAW.out.grown hg4 HNW.out;have a7:=fa 7;have r0:=fr 0;have r1:=fr 1;have r2:=fr 2;have r3:=fr 3;have o0:=fo 0;have o1:=fo 1;have o2:=fo 2;have o3:=fo 3;have zr0:=fzr 0;have zr1:=fzr 1;have zr2:=fzr 2;have zr3:=fzr 3;have zo0:=fzo 0;have zo1:=fzo 1;have zo2:=fzo 2;have zo3:=fzo 3;simp only[ao.cells,dD,zaB,zaC,zaA]at a7 r0 r1 r2 r3 o0 o1 o2 o3;clear fa fr fo fzr fzo;clear hm4 hg4;go_wp2_with fail
 refine bodyPost_ret (v:= .agg #[.int .i64 (ew x q ⟨ad,bt⟩).2,.slice none 0 0,.int .i64 0,.slice none 0 0]) (by simp[results,Tryz.results20,go_sem,zaj, *]) rfl ?_;rw[HA.out];apply ek HAW.out (Y:=kz X w W3);case hX=>exact fun k h=> .inl h
 case hYR=>
  have h9:=HAW.out.sz
  (try simp only[World.setCell,zaQ]at h9)
  exact .inr (by omega)
 case hYO=>
  have h9:=HAW.out.sz
  (try simp only[World.setCell,zaQ]at h9)
  exact .inr (by omega)
 case hn=>exact HM4.out
 case hg=>exact HG4.out
 case hN=>exact HNW.out
 case hs=>simp[World.setCell]
 case ho=>repeat rw[bE]
 case ht=>repeat rw[aZ]
 case hu=>repeat rw[aL]
 case hk=>
  intro k _ h1 h2;repeat rw[zao _ _ _ _ (by first|exact h1|exact h2)]
 case hp=>exact SlF.nil _ _ _
 case hq=>exact SlF.nil _ _ _
 case hc=>rfl
 case hd=>rfl
theorem zx{X:Nat->Prop}(N q:Nat)(b n m ad bt:Int)(key value:ByteArray)(x:Net)(w:World)(h:bC X w N x)(hx:bg x)(hE:fZ N w)(hc:(⟨5,q,b,n,m,⟨ad,bt⟩,key,value⟩:ao).wf)(hia:isN (q:Int)=true):
  Calls Tryz.prog 20 #[.pointer (some ⟨N,0,none⟩),(⟨5,q,b,n,m,⟨ad,bt⟩,key,value⟩:ao).agg] w (lK X N (aK x ⟨5,q,b,n,m,⟨ad,bt⟩,key,value⟩) w):=by
 have HM:=zaa h;have HNW:=zaa h.lt;have HX:=zaa hx;have HC:=zaa hc;obtain⟨W3,A,R,O,hA3,hR3,hO3,hW3,haw⟩:=fE w 5 q b n m ad bt key value;have HA3:=zaa hA3;have HR3:=zaa hR3;have HO3:=zaa hO3;have HW3:=zaa hW3;have HAW:=zaa haw;have HI:=zaa (dA (q:Int) W3 hia);have HM3:=zaa (h.gap haw.b);have HE3:=zaa (hE.below haw.b (zbh h.lt));obtain⟨ia0,ia1⟩:=(aV (q:Int)).1 hia;have hq:q<12:=by omega
 have HQ:=zaa hq;have HA0:=zaa (cX (x:=x) (c:=⟨5,q,b,n,m,⟨ad,bt⟩,key,value⟩) (show ¬ ((5:Int)<1∨10<(5:Int))by decide) hia (a:=q) (k:=5) rfl rfl);obtain⟨wk,wa,wb,wn,wm,wad,wbt,wke,wva⟩:=HC.out;unfold ao.agg;clear hA3 hR3 hO3 hW3 haw h hx hE hc hia;have HA:=zaa (HA0.out.trans (show _=((fg x q ⟨ad,bt⟩).1,⟨(fg x q ⟨ad,bt⟩).2,[],0,[]⟩)from rfl));have HCALL:=zaa (zp N q ⟨ad,bt⟩ x W3 HM3.out HQ.out HX.out);clear HA0;go_enter Tryz.func20,Tryz.ntmps20
 go_wp2_with fail
 rw[HW3.out,<-HO3.out,<-HR3.out,<-HA3.out];clear HW3 HO3 HR3 HA3;refine HI.out.mono ?_;rintro e w' ⟨rfl,rfl⟩;have a0:=HAW.out.a 0;have a1:=HAW.out.a 1;have a2:=HAW.out.a 2;have a3:=HAW.out.a 3;have a4:=HAW.out.a 4;have a5:=HAW.out.a 5;have a6:=HAW.out.a 6;have a7:=HAW.out.a 7;have a8:=HAW.out.a 8;have r0:=HAW.out.r 0;have r1:=HAW.out.r 1;have r2:=HAW.out.r 2;have r3:=HAW.out.r 3;have o0:=HAW.out.o 0;have o1:=HAW.out.o 1;have o2:=HAW.out.o 2;have o3:=HAW.out.o 3;have zr0:=HAW.out.fr 0;have zr1:=HAW.out.fr 1;have zr2:=HAW.out.fr 2;have zr3:=HAW.out.fr 3;have zo0:=HAW.out.fo 0;have zo1:=HAW.out.fo 1;have zo2:=HAW.out.fo 2;have zo3:=HAW.out.fo 3;simp only[ao.cells,dD,zaB,zaC,zaA]at a0 a1 a2 a3 a4 a5 a6 a7 a8 r0 r1 r2 r3 o0 o1 o2 o3;have hRO:¬ R=O:=by have:=HAW.out.sz;omega
 have hOR:¬ O=R:=fun e=>hRO e.symm;go_wp2_with fail
 refine HCALL.out.mono ?_;rintro e w4 ⟨rfl,hm4,hg4⟩;have HM4:=zaa hm4;have HG4:=zaa hg4;clear a0 a1 a2 a3 a4 a5 a6 a7 a8 r0 r1 r2 r3 o0 o1 o2 o3 zr0 zr1 zr2 zr3 zo0 zo1 zo2 zo3;obtain⟨fa,fr,fo,fzr,fzo⟩:=HAW.out.grown hg4 HNW.out;have a7:=fa 7;have r0:=fr 0;have r1:=fr 1;have r2:=fr 2;have r3:=fr 3;have o0:=fo 0;have o1:=fo 1;have o2:=fo 2;have o3:=fo 3;have zr0:=fzr 0;have zr1:=fzr 1;have zr2:=fzr 2;have zr3:=fzr 3;have zo0:=fzo 0;have zo1:=fzo 1;have zo2:=fzo 2;have zo3:=fzo 3;simp only[ao.cells,dD,zaB,zaC,zaA]at a7 r0 r1 r2 r3 o0 o1 o2 o3;clear fa fr fo fzr fzo;clear hm4 hg4;go_wp2_with fail
 refine bodyPost_ret (v:= .agg #[.int .i64 (fg x q ⟨ad,bt⟩).2,.slice none 0 0,.int .i64 0,.slice none 0 0]) (by simp[results,Tryz.results20,go_sem,zaj, *]) rfl ?_;rw[HA.out];apply ek HAW.out (Y:=kz X w W3);case hX=>exact fun k h=> .inl h
 case hYR=>
  have h9:=HAW.out.sz
  (try simp only[World.setCell,zaQ]at h9)
  exact .inr (by omega)
 case hYO=>
  have h9:=HAW.out.sz
  (try simp only[World.setCell,zaQ]at h9)
  exact .inr (by omega)
 case hn=>exact HM4.out
 case hg=>exact HG4.out
 case hN=>exact HNW.out
 case hs=>simp[World.setCell]
 case ho=>repeat rw[bE]
 case ht=>repeat rw[aZ]
 case hu=>repeat rw[aL]
 case hk=>
  intro k _ h1 h2;repeat rw[zao _ _ _ _ (by first|exact h1|exact h2)]
 case hp=>exact SlF.nil _ _ _
 case hq=>exact SlF.nil _ _ _
 case hc=>rfl
 case hd=>rfl
theorem zw{X:Nat->Prop}(N q:Nat)(b n m ad bt:Int)(key value:ByteArray)(x:Net)(w:World)(h:bC X w N x)(hx:bg x)(hE:fZ N w)(hc:(⟨6,q,b,n,m,⟨ad,bt⟩,key,value⟩:ao).wf)(hia:isN (q:Int)=true):
  Calls Tryz.prog 20 #[.pointer (some ⟨N,0,none⟩),(⟨6,q,b,n,m,⟨ad,bt⟩,key,value⟩:ao).agg] w (lK X N (aK x ⟨6,q,b,n,m,⟨ad,bt⟩,key,value⟩) w):=by
 have HM:=zaa h;have HNW:=zaa h.lt;have HX:=zaa hx;have HC:=zaa hc;obtain⟨W3,A,R,O,hA3,hR3,hO3,hW3,haw⟩:=fE w 6 q b n m ad bt key value;have HA3:=zaa hA3;have HR3:=zaa hR3;have HO3:=zaa hO3;have HW3:=zaa hW3;have HAW:=zaa haw;have HI:=zaa (dA (q:Int) W3 hia);have HM3:=zaa (h.gap haw.b);have HE3:=zaa (hE.below haw.b (zbh h.lt));obtain⟨ia0,ia1⟩:=(aV (q:Int)).1 hia;have hq:q<12:=by omega
 have HQ:=zaa hq;have HA0:=zaa (cX (x:=x) (c:=⟨6,q,b,n,m,⟨ad,bt⟩,key,value⟩) (show ¬ ((6:Int)<1∨10<(6:Int))by decide) hia (a:=q) (k:=6) rfl rfl);obtain⟨wk,wa,wb,wn,wm,wad,wbt,wke,wva⟩:=HC.out;unfold ao.agg;clear hA3 hR3 hO3 hW3 haw h hx hE hc hia;have HA:=zaa (HA0.out.trans (show _=((dv x q).1,⟨(dv x q).2.2,[],0,(dv x q).2.1⟩)from rfl));have HCALL:=zaa (zo N q x W3 HM3.out HQ.out HX.out HE3.out);obtain⟨y,ks,cd,hts⟩:∃y ks cd,dv x q=(y,ks,cd):=⟨_,_,_,rfl⟩;rw[hts]at HA HCALL;clear HA0 hts;go_enter Tryz.func20,Tryz.ntmps20
 go_wp2_with fail
 rw[HW3.out,<-HO3.out,<-HR3.out,<-HA3.out];clear HW3 HO3 HR3 HA3;refine HI.out.mono ?_;rintro e w' ⟨rfl,rfl⟩;have a0:=HAW.out.a 0;have a1:=HAW.out.a 1;have a2:=HAW.out.a 2;have a3:=HAW.out.a 3;have a4:=HAW.out.a 4;have a5:=HAW.out.a 5;have a6:=HAW.out.a 6;have a7:=HAW.out.a 7;have a8:=HAW.out.a 8;have r0:=HAW.out.r 0;have r1:=HAW.out.r 1;have r2:=HAW.out.r 2;have r3:=HAW.out.r 3;have o0:=HAW.out.o 0;have o1:=HAW.out.o 1;have o2:=HAW.out.o 2;have o3:=HAW.out.o 3;have zr0:=HAW.out.fr 0;have zr1:=HAW.out.fr 1;have zr2:=HAW.out.fr 2;have zr3:=HAW.out.fr 3;have zo0:=HAW.out.fo 0;have zo1:=HAW.out.fo 1;have zo2:=HAW.out.fo 2;have zo3:=HAW.out.fo 3;simp only[ao.cells,dD,zaB,zaC,zaA]at a0 a1 a2 a3 a4 a5 a6 a7 a8 r0 r1 r2 r3 o0 o1 o2 o3;have hRO:¬ R=O:=by have:=HAW.out.sz;omega
 have hOR:¬ O=R:=fun e=>hRO e.symm;go_wp2_with fail
 refine HCALL.out.mono ?_;rintro e w4 ⟨vk,rfl,hk4,hm4,hg4⟩;have HM4:=zaa hm4;have HG4:=zaa hg4;have HK4:=zaa hk4;obtain⟨Ak,nk,ck,rfl⟩:∃A n c,vk= .slice A n c:=by obtain⟨A,c,e,_⟩:=hk4;exact⟨A,_,c,e⟩
 clear a0 a1 a2 a3 a4 a5 a6 a7 a8 r0 r1 r2 r3 o0 o1 o2 o3 zr0 zr1 zr2 zr3 zo0 zo1 zo2 zo3;obtain⟨fa,fr,fo,fzr,fzo⟩:=HAW.out.grown hg4 HNW.out;have a7:=fa 7;have r0:=fr 0;have r1:=fr 1;have r2:=fr 2;have r3:=fr 3;have o0:=fo 0;have o1:=fo 1;have o2:=fo 2;have o3:=fo 3;have zr0:=fzr 0;have zr1:=fzr 1;have zr2:=fzr 2;have zr3:=fzr 3;have zo0:=fzo 0;have zo1:=fzo 1;have zo2:=fzo 2;have zo3:=fzo 3;simp only[ao.cells,dD,zaB,zaC,zaA]at a7 r0 r1 r2 r3 o0 o1 o2 o3;clear fa fr fo fzr fzo;clear hm4 hg4 hk4;go_wp2_with fail
 refine bodyPost_ret (v:= .agg #[.int .i64 cd,.slice none 0 0,.int .i64 0,.slice Ak nk ck]) (by simp[results,Tryz.results20,go_sem,zaj, *]) rfl ?_;rw[HA.out];apply ek HAW.out (Y:=kz X w W3);case hX=>exact fun k h=> .inl h
 case hYR=>
  have h9:=HAW.out.sz
  (try simp only[World.setCell,zaQ]at h9)
  exact .inr (by omega)
 case hYO=>
  have h9:=HAW.out.sz
  (try simp only[World.setCell,zaQ]at h9)
  exact .inr (by omega)
 case hn=>exact HM4.out
 case hg=>exact HG4.out
 case hN=>exact HNW.out
 case hs=>simp[World.setCell]
 case ho=>repeat rw[bE]
 case ht=>repeat rw[aZ]
 case hu=>repeat rw[aL]
 case hk=>
  intro k _ h1 h2;repeat rw[zao _ _ _ _ (by first|exact h1|exact h2)]
 case hp=>exact SlF.nil _ _ _
 case hq=>exact HK4.out
 case hc=>rfl
 case hd=>rfl
theorem zv{X:Nat->Prop}(N q:Nat)(b n m ad bt:Int)(key value:ByteArray)(x:Net)(w:World)(h:bC X w N x)(hx:bg x)(hE:fZ N w)(hc:(⟨7,q,b,n,m,⟨ad,bt⟩,key,value⟩:ao).wf)(hia:isN (q:Int)=true):
  Calls Tryz.prog 20 #[.pointer (some ⟨N,0,none⟩),(⟨7,q,b,n,m,⟨ad,bt⟩,key,value⟩:ao).agg] w (lK X N (aK x ⟨7,q,b,n,m,⟨ad,bt⟩,key,value⟩) w):=by
 have HM:=zaa h;have HNW:=zaa h.lt;have HX:=zaa hx;have HC:=zaa hc;obtain⟨W3,A,R,O,hA3,hR3,hO3,hW3,haw⟩:=fE w 7 q b n m ad bt key value;have HA3:=zaa hA3;have HR3:=zaa hR3;have HO3:=zaa hO3;have HW3:=zaa hW3;have HAW:=zaa haw;have HI:=zaa (dA (q:Int) W3 hia);have HM3:=zaa (h.gap haw.b);have HE3:=zaa (hE.below haw.b (zbh h.lt));obtain⟨ia0,ia1⟩:=(aV (q:Int)).1 hia;have hq:q<12:=by omega
 have HQ:=zaa hq;have HA0:=zaa (cX (x:=x) (c:=⟨7,q,b,n,m,⟨ad,bt⟩,key,value⟩) (show ¬ ((7:Int)<1∨10<(7:Int))by decide) hia (a:=q) (k:=7) rfl rfl);obtain⟨wk,wa,wb,wn,wm,wad,wbt,wke,wva⟩:=HC.out;unfold ao.agg;clear hA3 hR3 hO3 hW3 haw h hx hE hc hia;have HA:=zaa (HA0.out.trans (show _=((bT x q b n).1,⟨(bT x q b n).2.2,[],0,(bT x q b n).2.1⟩)from rfl));have HCALL:=zaa (zq N q b n x W3 HM3.out HQ.out HX.out wn);obtain⟨y,ks,cd,hts⟩:∃y ks cd,bT x q b n=(y,ks,cd):=⟨_,_,_,rfl⟩;rw[hts]at HA HCALL;clear HA0 hts;go_enter Tryz.func20,Tryz.ntmps20
 go_wp2_with fail
 rw[HW3.out,<-HO3.out,<-HR3.out,<-HA3.out];clear HW3 HO3 HR3 HA3;refine HI.out.mono ?_;rintro e w' ⟨rfl,rfl⟩;have a0:=HAW.out.a 0;have a1:=HAW.out.a 1;have a2:=HAW.out.a 2;have a3:=HAW.out.a 3;have a4:=HAW.out.a 4;have a5:=HAW.out.a 5;have a6:=HAW.out.a 6;have a7:=HAW.out.a 7;have a8:=HAW.out.a 8;have r0:=HAW.out.r 0;have r1:=HAW.out.r 1;have r2:=HAW.out.r 2;have r3:=HAW.out.r 3;have o0:=HAW.out.o 0;have o1:=HAW.out.o 1;have o2:=HAW.out.o 2;have o3:=HAW.out.o 3;have zr0:=HAW.out.fr 0;have zr1:=HAW.out.fr 1;have zr2:=HAW.out.fr 2;have zr3:=HAW.out.fr 3;have zo0:=HAW.out.fo 0;have zo1:=HAW.out.fo 1;have zo2:=HAW.out.fo 2;have zo3:=HAW.out.fo 3;simp only[ao.cells,dD,zaB,zaC,zaA]at a0 a1 a2 a3 a4 a5 a6 a7 a8 r0 r1 r2 r3 o0 o1 o2 o3;have hRO:¬ R=O:=by have:=HAW.out.sz;omega
 have hOR:¬ O=R:=fun e=>hRO e.symm;go_wp2_with fail
 refine HCALL.out.mono ?_;rintro e w4 ⟨vk,rfl,hk4,hm4,hg4⟩;have HM4:=zaa hm4;have HG4:=zaa hg4;have HK4:=zaa hk4;obtain⟨Ak,nk,ck,rfl⟩:∃A n c,vk= .slice A n c:=by obtain⟨A,c,e,_⟩:=hk4;exact⟨A,_,c,e⟩
 clear a0 a1 a2 a3 a4 a5 a6 a7 a8 r0 r1 r2 r3 o0 o1 o2 o3 zr0 zr1 zr2 zr3 zo0 zo1 zo2 zo3;obtain⟨fa,fr,fo,fzr,fzo⟩:=HAW.out.grown hg4 HNW.out;have a7:=fa 7;have r0:=fr 0;have r1:=fr 1;have r2:=fr 2;have r3:=fr 3;have o0:=fo 0;have o1:=fo 1;have o2:=fo 2;have o3:=fo 3;have zr0:=fzr 0;have zr1:=fzr 1;have zr2:=fzr 2;have zr3:=fzr 3;have zo0:=fzo 0;have zo1:=fzo 1;have zo2:=fzo 2;have zo3:=fzo 3;simp only[ao.cells,dD,zaB,zaC,zaA]at a7 r0 r1 r2 r3 o0 o1 o2 o3;clear fa fr fo fzr fzo;clear hm4 hg4 hk4;go_wp2_with fail
 refine bodyPost_ret (v:= .agg #[.int .i64 cd,.slice none 0 0,.int .i64 0,.slice Ak nk ck]) (by simp[results,Tryz.results20,go_sem,zaj, *]) rfl ?_;rw[HA.out];apply ek HAW.out (Y:=kz X w W3);case hX=>exact fun k h=> .inl h
 case hYR=>
  have h9:=HAW.out.sz
  (try simp only[World.setCell,zaQ]at h9)
  exact .inr (by omega)
 case hYO=>
  have h9:=HAW.out.sz
  (try simp only[World.setCell,zaQ]at h9)
  exact .inr (by omega)
 case hn=>exact HM4.out
 case hg=>exact HG4.out
 case hN=>exact HNW.out
 case hs=>simp[World.setCell]
 case ho=>repeat rw[bE]
 case ht=>repeat rw[aZ]
 case hu=>repeat rw[aL]
 case hk=>
  intro k _ h1 h2;repeat rw[zao _ _ _ _ (by first|exact h1|exact h2)]
 case hp=>exact SlF.nil _ _ _
 case hq=>exact HK4.out
 case hc=>rfl
 case hd=>rfl
theorem kF.below{oz:Array Value}{w W W':World}{A R O:Nat}{c:ao}(h:kF oz w W A R O c)(hb:Below W.heap.size W W'):kF oz w W' A R O c:=by
 obtain⟨s1,s2,s3,s4⟩:=h.sz;have hs:=hb.size;exact⟨h.b.trans (hb.mono h.b.size),⟨s1,s2,s3,by omega⟩,fun i=>(hb.cell (p:=⟨A,i,none⟩) (by show A<_;omega)).trans (h.a i),fun i=>(hb.cell (p:=⟨R,i,none⟩) (by show R<_;omega)).trans (h.r i),fun i=>(hb.cell (p:=⟨O,i,none⟩) s4).trans (h.o i),
  fun i=>(hb.frozen (p:=⟨R,i,none⟩) (by show R<_;omega)).trans (h.fr i),fun i=>(hb.frozen (p:=⟨O,i,none⟩) s4).trans (h.fo i)⟩
theorem kF.setCode{w W:World}{A R O:Nat}{c:ao}(h:kF dD w W A R O c)(n:Int):kF #[.int .i64 n,.slice none 0 0,.int .i64 0,.slice none 0 0] w (W.setCell ⟨O,0,none⟩ (.int .i64 n)) A R O c:=by
 obtain⟨s1,s2,s3,s4⟩:=h.sz;have hne:∀{B i:Nat},B≠O->(W.setCell ⟨O,0,none⟩ (.int .i64 n)).cell? ⟨B,i,none⟩=W.cell? ⟨B,i,none⟩:=fun hB=>zaj _ _ _ _ (by intro e;injection e with e _ _;exact hB e.symm);refine⟨h.b.setCell (by show w.heap.size<=O;omega) _,⟨s1,s2,s3,by simpa [World.setCell]using s4⟩,fun i=>(hne (by omega)).trans (h.a i),fun i=>(hne (by omega)).trans (h.r i),fun i=> ?_,fun i=> ?_,fun i=> ?_⟩
 · by_cases e:i=0
   · subst e;exact zaJ _ _ _ (by rw[h.o 0];rfl)
   · rw[zaj _ _ _ _ (by intro e2;injection e2 with _ e3 _;omega),h.o i];obtain⟨j,rfl⟩:∃j,i=j+1:=⟨i-1,by omega⟩;rfl
 · rw[zaz];exact h.fr i
 · rw[zaz];exact h.fo i
theorem CI{oz:Array Value}{N:Nat}{r:Net × Rpl}{w W W1 W2:World}{A R O:Nat}{X Y:Nat->Prop}{c:ao}(h:kF oz w W A R O c)(hX:∀k,X k->Y k)(hYR:Y R)(hYO:Y O)(hn:bC Y W1 N r.1)(hg:w.grownBy W1 (some N))(hz:W.heap.size<=W1.heap.size)(hN:N<w.heap.size)
  (hs:W1.heap.size<=W2.heap.size) (ho:W2.os=W1.os) (ht:W2.tape=W1.tape) (hu:W2.output=W1.output) (hk:∀k,k<W1.heap.size->k≠R->k≠O->W2.heap[k]? =W1.heap[k]?) {vp vk:Value} (hp:SlF aI W.heap.size W1 vp r.2.path) (hq:SlF bs W.heap.size W1 vk r.2.keys) {code cost:Int} (hc:code=r.2.code) (hd:cost=r.2.cost):
  lK X N r w (.returned (.agg #[.int .i64 code,vp,.int .i64 cost,vk])) W2:=by
 obtain⟨s1,s2,s3,s4⟩:=h.sz;have hws:=h.b.size;subst hc hd;refine⟨vp,vk,rfl,?_,?_,?_,?_⟩
 · exact SlR.keep hp (fun k hk'=>hk k hk'.1 (by have:=hk'.2;omega) (by have:=hk'.2;omega)) (fun k hk'=>⟨zas hk'.1 hs,zax hws hk'.2⟩)
 · exact SlR.keep hq (fun k hk'=>hk k hk'.1 (by have:=hk'.2;omega) (by have:=hk'.2;omega)) (fun k hk'=>⟨zas hk'.1 hs,zax hws hk'.2⟩)
 · exact hn.keepB (fun k _ hz'=>⟨hz'.1,fun e=>hz'.2 (hX k e)⟩) (hk N (by omega) (by omega) (by omega)) (fun k hk' hz'=>hk k hk' (fun e=>hz'.2 (e▸hYR)) (fun e=>hz'.2 (e▸hYO))) hs (fun k hk' e=>hn.top k (zax hs hk') (hX k e))
 · refine⟨ho.trans hg.os,ht.trans hg.tape,hu.trans hg.output,by omega,fun k hk' hne=> ?_⟩;rw[hk k (by omega) (by omega) (by omega),hg.block k hk' hne]
theorem va{w w':World}{o:Obj}{k:Nat}(hs:w.heap.size=w'.heap.size)(hk:w.heap[k]? =w'.heap[k]?):(w.alloc o).heap[k]? =(w'.alloc o).heap[k]? :=by
 show(w.heap.push o)[k]? =(w'.heap.push o)[k]?;rw[Array.getElem?_push,Array.getElem?_push,hs,hk]
theorem qD(w:World)(o:Obj):(w.alloc o).os=w.os:=rfl
theorem mt(w:World)(o:Obj):(w.alloc o).tape=w.tape:=rfl
theorem kc(w:World)(o:Obj):(w.alloc o).output=w.output:=rfl
theorem zu{X:Nat->Prop}(N q:Nat)(b n m ad bt:Int)(key value:ByteArray)(x:Net)(w:World)(h:bC X w N x)(hx:bg x)(hE:fZ N w)(hc:(⟨8,q,b,n,m,⟨ad,bt⟩,key,value⟩:ao).wf)(hia:isN (q:Int)=true):
  Calls Tryz.prog 20 #[.pointer (some ⟨N,0,none⟩),(⟨8,q,b,n,m,⟨ad,bt⟩,key,value⟩:ao).agg] w (lK X N (aK x ⟨8,q,b,n,m,⟨ad,bt⟩,key,value⟩) w):=by
 have HM:=zaa h;have HNW:=zaa h.lt;have HX:=zaa hx;have HC:=zaa hc;obtain⟨W3,A,R,O,hA3,hR3,hO3,hW3,haw⟩:=fE w 8 q b n m ad bt key value;have HA3:=zaa hA3;have HR3:=zaa hR3;have HO3:=zaa hO3;have HW3:=zaa hW3;have HAW:=zaa haw;have HI:=zaa (dA (q:Int) W3 hia);have HM3:=zaa (h.gap haw.b);have HE3:=zaa (hE.below haw.b (zbh h.lt));obtain⟨ia0,ia1⟩:=(aV (q:Int)).1 hia;have hq:q<12:=by omega
 have HQ:=zaa hq;have HA0:=zaa (cX (x:=x) (c:=⟨8,q,b,n,m,⟨ad,bt⟩,key,value⟩) (show ¬ ((8:Int)<1∨10<(8:Int))by decide) hia (a:=q) (k:=8) rfl rfl);obtain⟨wk,wa,wb,wn,wm,wad,wbt,wke,wva⟩:=HC.out;unfold ao.agg;clear hA3 hR3 hO3 hW3 haw h hx hE hc hia;obtain⟨v,c0,s0⟩:=(HM3.out.nd q HQ.out).st;obtain⟨st,hst⟩:∃st,st=(x.nd q).st:=⟨_,rfl⟩;rw[<-hst]at s0;obtain⟨s2,n2,hs2⟩:∃s2 n2,dj st (q:Int) key value=(s2,n2):=⟨_,_,rfl⟩;have hws:df x q key value=if n2≠0 then(x,[],n2)else(x.setN q {x.nd q with st:=s2},[key],0):=by
  unfold df;rw[<-hst,hs2]
 have HA1:=zaa (HA0.out.trans (show _=((df x q key value).1,⟨(df x q key value).2.2,[],0,(df x q key value).2.1⟩)from rfl));obtain⟨A1,n1,c1,rfl⟩:∃A n c,v= .slice A n c:=by obtain⟨A,c,e,_⟩:=s0;exact⟨A,_,c,e⟩
 have hpt:=fun w' (hb:Below W3.heap.size W3 w')=>iI (.slice A1 n1 c1) st (q:Int) key value w' (Sl.below (SlN.sl s0) hb) wa wke wva;unfold lJ at hpt;simp only[hs2]at hpt;have HPT:=zaa hpt;have HKE:=zaa wke;have HWS:=zaa hws;clear s0 hst hs2 hws hpt HA0;go_enter Tryz.func20,Tryz.ntmps20
 go_wp2_with fail
 rw[HW3.out,<-HO3.out,<-HR3.out,<-HA3.out];clear HW3 HO3 HR3 HA3;refine HI.out.mono ?_;rintro e w' ⟨rfl,rfl⟩;have a0:=HAW.out.a 0;have a1:=HAW.out.a 1;have a2:=HAW.out.a 2;have a3:=HAW.out.a 3;have a4:=HAW.out.a 4;have a5:=HAW.out.a 5;have a6:=HAW.out.a 6;have a7:=HAW.out.a 7;have a8:=HAW.out.a 8;have r0:=HAW.out.r 0;have r1:=HAW.out.r 1;have r2:=HAW.out.r 2;have r3:=HAW.out.r 3;have o0:=HAW.out.o 0;have o1:=HAW.out.o 1;have o2:=HAW.out.o 2;have o3:=HAW.out.o 3;have zr0:=HAW.out.fr 0;have zr1:=HAW.out.fr 1;have zr2:=HAW.out.fr 2;have zr3:=HAW.out.fr 3;have zo0:=HAW.out.fo 0;have zo1:=HAW.out.fo 1;have zo2:=HAW.out.fo 2;have zo3:=HAW.out.fo 3;simp only[ao.cells,dD,zaB,zaC,zaA]at a0 a1 a2 a3 a4 a5 a6 a7 a8 r0 r1 r2 r3 o0 o1 o2 o3;have hRO:¬ R=O:=by have:=HAW.out.sz;omega
 have hOR:¬ O=R:=fun e=>hRO e.symm;go_wp2_with fail
 have HKP:=zaa (show∀w',Below W3.heap.size W3 w'->w'.cell? ⟨A,1,none⟩=some (.int .i64 (q:Int))/\w'.cell? ⟨A,7,none⟩=some (.string key)/\w'.cell? ⟨A,8,none⟩=some (.string value)/\w'.cell? ⟨N,q*4,none⟩=some (.slice A1 n1 c1)from fun w' hb=>⟨aa hb a1,aa hb a7,aa hb a8,aa hb c0⟩);clear r0 r1 r2 r3 o0 o1 o2 o3 zr0 zr1 zr2 zr3 zo0 zo1 zo2 zo3;go_region_held3 (fun w'=>w'.cell? ⟨A,1,none⟩=some (.int .i64 (q:Int))/\w'.cell? ⟨A,7,none⟩=some (.string key)/\w'.cell? ⟨A,8,none⟩=some (.string value)/\w'.cell? ⟨N,q*4,none⟩=some (.slice A1 n1 c1)) (first|go_keep|exact⟨k1,k2,k3,k4⟩)
  (first
   | (go_at_call 33;refine(HPT.out _ (zac _ _).drew).mono ?_;rintro e w4 ⟨v4,rfl,ho4,hb4⟩;obtain⟨A4,n4,c4,rfl⟩:=ap ho4 (by decide);have HB4:=zaa ((zac W3.heap.size W3).drew.trans hb4);have HO4:=zaa ho4;obtain⟨k1,k2,k3,k4⟩:=HKP.out _ HB4.out;clear ho4 hb4))
 all_goals
  clear a0 a1 a2 a3 a4 a5 a6 a7 a8 c0 k1 k2 k3 k4;have hA4:=HAW.out.below HB4.out;have o0:=hA4.o 0;have o1:=hA4.o 1;have o2:=hA4.o 2;have o3:=hA4.o 3;have r0:=hA4.r 0;have r1:=hA4.r 1;have r2:=hA4.r 2;have r3:=hA4.r 3;have zr0:=hA4.fr 0;have zr1:=hA4.fr 1;have zr2:=hA4.fr 2;have zr3:=hA4.fr 3;have zo0:=hA4.fo 0;simp only[dD,zaB,zaC,zaA]at o0 o1 o2 o3 r0 r1 r2 r3;have HM4:=zaa (HM3.out.below HB4.out);have HG4:=zaa (am N HB4.out);have HA5:=zaa (hA4.setCode n2);have HM5:=zaa (HM4.out.setGap (B:=O) (o:=0) (u:= .int .i64 n2) (by have:=HAW.out.sz;have:=HNW.out;omega) (.inr (by have:=HAW.out.sz;omega)));have HG5:=zaa (wJ (u:= .int .i64 n2) (o:=0) ((am N HAW.out.b).trans (am N HB4.out)) (show w.heap.size<=O by have:=HAW.out.sz;omega));clear hA4;by_cases hn2:n2=0
  · subst hn2;have HA:=zaa (HA1.out.trans (by rw[HWS.out.trans (if_neg (by simp))]:_=((x.setN q {x.nd q with st:=s2},⟨0,[],0,[key]⟩):Net × Rpl)));have HZ5:=zaa (show W3.heap.size<=(w4.setCell ⟨O,0,none⟩ (.int .i64 0)).heap.size by simpa [World.setCell]using HB4.out.size);have HS5:=zaa (show SlF aW W3.heap.size (w4.setCell ⟨O,0,none⟩ (.int .i64 0)) (.slice A4 n4 c4) s2 from SlF.setLow (SlF.mono (HO4.out.slG (by decide) (fun _ _ _ _ h=>iQ h)) (zab _)) (show O<W3.heap.size from HAW.out.sz.2.2.2));clear r0 r1 r2 r3 o1 o2 o3 zr0 zr1 zr2 zr3;(go_wp2_with fail);obtain⟨W5,hW5⟩:∃x,x=w4.setCell ⟨O,0,none⟩ (.int .i64 0):=⟨_,rfl⟩;rw[<-hW5]at HA5 HM5 HG5 HZ5 HS5⊢;clear hW5 o0 zo0;have a1:=HA5.out.a 1;simp only[ao.cells,zaB,zaC,zaA]at a1;obtain⟨vx,g1,gx⟩:=(HM5.out.nd q HQ.out).st;have g2:=HM5.out.fz (q*4);clear gx;(go_region_with (fail));all_goals
     have HM6:=zaa ((HM5.out.setSt HQ.out (HS5.out.toN (by have:=HNW.out;have:=HAW.out.b.size;omega) (fun k hk=>HM3.out.top k hk))).below (zac _ _).drew);have hg6:=(ba W5 N (q*4) (.slice A4 n4 c4)).trans (am N (zac _ _).drew);obtain⟨W6,hW6⟩:∃x,x=(W5.setCell ⟨N,q*4,none⟩ (.slice A4 n4 c4)).drew:=⟨_,rfl⟩;rw[<-hW6]at HM6 hg6⊢;have HG6:=zaa (HG5.out.trans hg6);have HZ6:=zaa (zax HZ5.out hg6.size);clear hW6 a1 g1 g2;obtain⟨fa,fr,fo,fzr,fzo⟩:=HA5.out.grown hg6 HNW.out;have a7:=fa 7;have r0:=fr 0;have r1:=fr 1;have r2:=fr 2;have r3:=fr 3;have o0:=fo 0;have o1:=fo 1;have o2:=fo 2;have o3:=fo 3;have zr0:=fzr 0;have zr1:=fzr 1;have zr2:=fzr 2;have zr3:=fzr 3;have zo3:=fzo 3;simp only[ao.cells,dD,zaB,zaC,zaA]at a7 r0 r1 r2 r3 o0 o1 o2 o3;have hal:=(zac W6.heap.size W6).alloc (zab _) (.cells #[.string key] 9);have HAL:=zaa hal;have r0:=aa hal r0;have r1:=aa hal r1;have r2:=aa hal r2;have r3:=aa hal r3;have o0:=aa hal o0;have o1:=aa hal o1;have o2:=aa hal o2;have o3:=aa hal o3;(have hO6:O<W6.heap.size:=by have:=HZ6.out;have:=HAW.out.sz;omega);(have hR6:R<W6.heap.size:=by have:=HZ6.out;have:=HAW.out.sz;omega);have zr0:=(hal.frozen (p:=⟨R,0,none⟩) hR6).trans zr0;have zr1:=(hal.frozen (p:=⟨R,1,none⟩) hR6).trans zr1;have zr2:=(hal.frozen (p:=⟨R,2,none⟩) hR6).trans zr2;have zr3:=(hal.frozen (p:=⟨R,3,none⟩) hR6).trans zr3;have zo3:=(hal.frozen (p:=⟨O,3,none⟩) hO6).trans zo3;(have hO7:¬ O=W6.heap.size:=by omega);(have hO8:¬ W6.heap.size=O:=by omega);(have hR7:¬ R=W6.heap.size:=by omega);(have hR8:¬ W6.heap.size=R:=by omega);have HKL:=zaa (kL (w:=W6) (base:=W3.heap.size) (B:=W6.heap.size) HKE.out HZ6.out rfl);clear fa fr fo fzr fzo hg6 hal;(go_wp2_with fail);refine bodyPost_ret (v:= .agg #[.int .i64 0,.slice none 0 0,.int .i64 0,.slice (some ⟨W6.heap.size,0,none⟩) 1 1]) (by simp[results,Tryz.results20,go_sem,zaj, *]) rfl ?_;rw[HA.out];apply CI HAW.out (Y:=kz X w W3) (W1:=W6.alloc (.cells #[.string key] 9));(case hX=>exact fun k h=> .inl h);(case hYR=>exact .inr (by have h9:=HAW.out.sz;omega));(case hYO=>exact .inr (by have h9:=HAW.out.sz;omega));(case hn=>exact HM6.out.below HAL.out);(case hg=>exact HG6.out.trans (am N HAL.out));(case hz=>have:=HZ6.out;rw[zbq];omega);(case hN=>exact HNW.out);(case hs=>simp[World.setCell]);case ho=>
      rw[qD,qD];repeat rw[bE]
     case ht=>
      rw[mt,mt];repeat rw[aZ]
     case hu=>
      rw[kc,kc];repeat rw[aL]
     case hk=>
      intro k _ h1 h2;refine va (by simp[World.setCell]) ?_;repeat rw[zao _ _ _ _ (by first|exact h1|exact h2)]
     (case hp=>exact SlF.nil _ _ _);(case hq=>exact HKL.out.slG (by decide) (fun _ _ _ _ h=>h));(case hc=>rfl);case hd=>rfl
  · have HA:=zaa (HA1.out.trans (by rw[HWS.out.trans (if_pos hn2)]:_=((x,⟨n2,[],0,[]⟩):Net × Rpl)));(have hnb:(n2==0)=false:=by rw[beq_eq_false_iff_ne];exact hn2);clear HA1 HWS;(go_wp2_with fail);refine bodyPost_ret (v:= .agg #[.int .i64 n2,.slice none 0 0,.int .i64 0,.slice none 0 0]) (by simp[results,Tryz.results20,go_sem,zaj, *]) rfl ?_;rw[HA.out];apply ek HAW.out (Y:=kz X w W3);(case hX=>exact fun k h=> .inl h);case hYR=>
     have h9:=HAW.out.sz
     (try simp only[World.setCell,zaQ]at h9)
     exact .inr (by omega)
    case hYO=>
     have h9:=HAW.out.sz
     (try simp only[World.setCell,zaQ]at h9)
     exact .inr (by omega)
    (case hn=>exact HM4.out);(case hg=>exact HG4.out);(case hN=>exact HNW.out);(case hs=>simp[World.setCell]);(case ho=>repeat rw[bE]);(case ht=>repeat rw[aZ]);(case hu=>repeat rw[aL]);case hk=>
     intro k _ h1 h2;repeat rw[zao _ _ _ _ (by first|exact h1|exact h2)]
    (case hp=>exact SlF.nil _ _ _);(case hq=>exact SlF.nil _ _ _);(case hc=>rfl);case hd=>rfl
theorem zt{X:Nat->Prop}(N q:Nat)(b n m ad bt:Int)(key value:ByteArray)(x:Net)(w:World)(h:bC X w N x)(hx:bg x)(hE:fZ N w)(hc:(⟨9,q,b,n,m,⟨ad,bt⟩,key,value⟩:ao).wf)(hia:isN (q:Int)=true):
  Calls Tryz.prog 20 #[.pointer (some ⟨N,0,none⟩),(⟨9,q,b,n,m,⟨ad,bt⟩,key,value⟩:ao).agg] w (lK X N (aK x ⟨9,q,b,n,m,⟨ad,bt⟩,key,value⟩) w):=by
 have HM:=zaa h;have HNW:=zaa h.lt;have HX:=zaa hx;have HC:=zaa hc;obtain⟨W3,A,R,O,hA3,hR3,hO3,hW3,haw⟩:=fE w 9 q b n m ad bt key value;have HA3:=zaa hA3;have HR3:=zaa hR3;have HO3:=zaa hO3;have HW3:=zaa hW3;have HAW:=zaa haw;have HI:=zaa (dA (q:Int) W3 hia);have HM3:=zaa (h.gap haw.b);have HE3:=zaa (hE.below haw.b (zbh h.lt));obtain⟨ia0,ia1⟩:=(aV (q:Int)).1 hia;have hq:q<12:=by omega
 have HQ:=zaa hq;have HA0:=zaa (cX (x:=x) (c:=⟨9,q,b,n,m,⟨ad,bt⟩,key,value⟩) (show ¬ ((9:Int)<1∨10<(9:Int))by decide) hia (a:=q) (k:=9) rfl rfl);obtain⟨wk,wa,wb,wn,wm,wad,wbt,wke,wva⟩:=HC.out;unfold ao.agg;clear hA3 hR3 hO3 hW3 haw h hx hE hc hia;have HA:=zaa (HA0.out.trans (show _=(lx x q,pP)from rfl));have HCALL:=zaa (tV N q x W3 HM3.out HQ.out HX.out HE3.out.env);clear HA0;go_enter Tryz.func20,Tryz.ntmps20
 go_wp2_with fail
 rw[HW3.out,<-HO3.out,<-HR3.out,<-HA3.out];clear HW3 HO3 HR3 HA3;refine HI.out.mono ?_;rintro e w' ⟨rfl,rfl⟩;have a0:=HAW.out.a 0;have a1:=HAW.out.a 1;have a2:=HAW.out.a 2;have a3:=HAW.out.a 3;have a4:=HAW.out.a 4;have a5:=HAW.out.a 5;have a6:=HAW.out.a 6;have a7:=HAW.out.a 7;have a8:=HAW.out.a 8;have r0:=HAW.out.r 0;have r1:=HAW.out.r 1;have r2:=HAW.out.r 2;have r3:=HAW.out.r 3;have o0:=HAW.out.o 0;have o1:=HAW.out.o 1;have o2:=HAW.out.o 2;have o3:=HAW.out.o 3;have zr0:=HAW.out.fr 0;have zr1:=HAW.out.fr 1;have zr2:=HAW.out.fr 2;have zr3:=HAW.out.fr 3;have zo0:=HAW.out.fo 0;have zo1:=HAW.out.fo 1;have zo2:=HAW.out.fo 2;have zo3:=HAW.out.fo 3;simp only[ao.cells,dD,zaB,zaC,zaA]at a0 a1 a2 a3 a4 a5 a6 a7 a8 r0 r1 r2 r3 o0 o1 o2 o3;have hRO:¬ R=O:=by have:=HAW.out.sz;omega
 have hOR:¬ O=R:=fun e=>hRO e.symm;go_wp2_with fail
 refine HCALL.out.mono ?_;rintro e w4 ⟨rfl,hm4,hg4⟩;have HM4:=zaa hm4;have HG4:=zaa hg4;clear a0 a1 a2 a3 a4 a5 a6 a7 a8 r0 r1 r2 r3 o0 o1 o2 o3 zr0 zr1 zr2 zr3 zo0 zo1 zo2 zo3;obtain⟨fa,fr,fo,fzr,fzo⟩:=HAW.out.grown hg4 HNW.out;have a7:=fa 7;have r0:=fr 0;have r1:=fr 1;have r2:=fr 2;have r3:=fr 3;have o0:=fo 0;have o1:=fo 1;have o2:=fo 2;have o3:=fo 3;have zr0:=fzr 0;have zr1:=fzr 1;have zr2:=fzr 2;have zr3:=fzr 3;have zo0:=fzo 0;have zo1:=fzo 1;have zo2:=fzo 2;have zo3:=fzo 3;simp only[ao.cells,dD,zaB,zaC,zaA]at a7 r0 r1 r2 r3 o0 o1 o2 o3;clear fa fr fo fzr fzo;clear hm4 hg4;go_wp2_with fail
 refine bodyPost_ret (v:= .agg #[.int .i64 0,.slice none 0 0,.int .i64 0,.slice none 0 0]) (by simp[results,Tryz.results20,go_sem,zaj, *]) rfl ?_;rw[HA.out];apply ek HAW.out (Y:=kz X w W3);case hX=>exact fun k h=> .inl h
 case hYR=>
  have h9:=HAW.out.sz
  (try simp only[World.setCell,zaQ]at h9)
  exact .inr (by omega)
 case hYO=>
  have h9:=HAW.out.sz
  (try simp only[World.setCell,zaQ]at h9)
  exact .inr (by omega)
 case hn=>exact HM4.out
 case hg=>exact HG4.out
 case hN=>exact HNW.out
 case hs=>simp[World.setCell]
 case ho=>repeat rw[bE]
 case ht=>repeat rw[aZ]
 case hu=>repeat rw[aL]
 case hk=>
  intro k _ h1 h2;repeat rw[zao _ _ _ _ (by first|exact h1|exact h2)]
 case hp=>exact SlF.nil _ _ _
 case hq=>exact SlF.nil _ _ _
 case hc=>rfl
 case hd=>rfl
theorem wz{X:Nat->Prop}(N q:Nat)(b n m ad bt:Int)(key value:ByteArray)(x:Net)(w:World)(h:bC X w N x)(hx:bg x)(hE:fZ N w)(hc:(⟨10,q,b,n,m,⟨ad,bt⟩,key,value⟩:ao).wf)(hia:isN (q:Int)=true):
  Calls Tryz.prog 20 #[.pointer (some ⟨N,0,none⟩),(⟨10,q,b,n,m,⟨ad,bt⟩,key,value⟩:ao).agg] w (lK X N (aK x ⟨10,q,b,n,m,⟨ad,bt⟩,key,value⟩) w):=by
 have HM:=zaa h;have HNW:=zaa h.lt;have HX:=zaa hx;have HC:=zaa hc;obtain⟨W3,A,R,O,hA3,hR3,hO3,hW3,haw⟩:=fE w 10 q b n m ad bt key value;have HA3:=zaa hA3;have HR3:=zaa hR3;have HO3:=zaa hO3;have HW3:=zaa hW3;have HAW:=zaa haw;have HI:=zaa (dA (q:Int) W3 hia);have HM3:=zaa (h.gap haw.b);have HE3:=zaa (hE.below haw.b (zbh h.lt));obtain⟨ia0,ia1⟩:=(aV (q:Int)).1 hia;have hq:q<12:=by omega
 have HQ:=zaa hq;have HA0:=zaa (cX (x:=x) (c:=⟨10,q,b,n,m,⟨ad,bt⟩,key,value⟩) (show ¬ ((10:Int)<1∨10<(10:Int))by decide) hia (a:=q) (k:=10) rfl rfl);obtain⟨wk,wa,wb,wn,wm,wad,wbt,wke,wva⟩:=HC.out;unfold ao.agg;clear hA3 hR3 hO3 hW3 haw h hx hE hc hia;have HA:=zaa (HA0.out.trans (show _=(x,⟨(du x q n m).2.2,(du x q n m).1,(du x q n m).2.1,[]⟩)from rfl));have HCALL:=zaa (zm N q n m x W3 HM3.out HQ.out HX.out wn wm);obtain⟨pp,cc,cd,hts⟩:∃pp cc cd,du x q n m=(pp,cc,cd):=⟨_,_,_,rfl⟩;rw[hts]at HA HCALL;clear HA0 hts;go_enter Tryz.func20,Tryz.ntmps20
 go_wp2_with fail
 rw[HW3.out,<-HO3.out,<-HR3.out,<-HA3.out];clear HW3 HO3 HR3 HA3;refine HI.out.mono ?_;rintro e w' ⟨rfl,rfl⟩;have a0:=HAW.out.a 0;have a1:=HAW.out.a 1;have a2:=HAW.out.a 2;have a3:=HAW.out.a 3;have a4:=HAW.out.a 4;have a5:=HAW.out.a 5;have a6:=HAW.out.a 6;have a7:=HAW.out.a 7;have a8:=HAW.out.a 8;have r0:=HAW.out.r 0;have r1:=HAW.out.r 1;have r2:=HAW.out.r 2;have r3:=HAW.out.r 3;have o0:=HAW.out.o 0;have o1:=HAW.out.o 1;have o2:=HAW.out.o 2;have o3:=HAW.out.o 3;have zr0:=HAW.out.fr 0;have zr1:=HAW.out.fr 1;have zr2:=HAW.out.fr 2;have zr3:=HAW.out.fr 3;have zo0:=HAW.out.fo 0;have zo1:=HAW.out.fo 1;have zo2:=HAW.out.fo 2;have zo3:=HAW.out.fo 3;simp only[ao.cells,dD,zaB,zaC,zaA]at a0 a1 a2 a3 a4 a5 a6 a7 a8 r0 r1 r2 r3 o0 o1 o2 o3;have hRO:¬ R=O:=by have:=HAW.out.sz;omega
 have hOR:¬ O=R:=fun e=>hRO e.symm;go_wp2_with fail
 refine HCALL.out.mono ?_;rintro e w4 ⟨vp,rfl,hp4,hm4,hb4⟩;have hg4:=am N hb4;have HM4:=zaa hm4;have HG4:=zaa hg4;have HP4:=zaa hp4;obtain⟨Ak,nk,ck,rfl⟩:∃A n c,vp= .slice A n c:=by obtain⟨A,c,e,_⟩:=hp4;exact⟨A,_,c,e⟩
 clear a0 a1 a2 a3 a4 a5 a6 a7 a8 r0 r1 r2 r3 o0 o1 o2 o3 zr0 zr1 zr2 zr3 zo0 zo1 zo2 zo3;obtain⟨fa,fr,fo,fzr,fzo⟩:=HAW.out.grown hg4 HNW.out;have a7:=fa 7;have r0:=fr 0;have r1:=fr 1;have r2:=fr 2;have r3:=fr 3;have o0:=fo 0;have o1:=fo 1;have o2:=fo 2;have o3:=fo 3;have zr0:=fzr 0;have zr1:=fzr 1;have zr2:=fzr 2;have zr3:=fzr 3;have zo0:=fzo 0;have zo1:=fzo 1;have zo2:=fzo 2;have zo3:=fzo 3;simp only[ao.cells,dD,zaB,zaC,zaA]at a7 r0 r1 r2 r3 o0 o1 o2 o3;clear fa fr fo fzr fzo;clear hm4 hg4 hp4 hb4;go_wp2_with fail
 refine bodyPost_ret (v:= .agg #[.int .i64 cd,.slice Ak nk ck,.int .i64 cc,.slice none 0 0]) (by simp[results,Tryz.results20,go_sem,zaj, *]) rfl ?_;rw[HA.out];apply ek HAW.out (Y:=kz X w W3);case hX=>exact fun k h=> .inl h
 case hYR=>
  have h9:=HAW.out.sz
  (try simp only[World.setCell,zaQ]at h9)
  exact .inr (by omega)
 case hYO=>
  have h9:=HAW.out.sz
  (try simp only[World.setCell,zaQ]at h9)
  exact .inr (by omega)
 case hn=>exact HM4.out
 case hg=>exact HG4.out
 case hN=>exact HNW.out
 case hs=>simp[World.setCell]
 case ho=>repeat rw[bE]
 case ht=>repeat rw[aZ]
 case hu=>repeat rw[aL]
 case hk=>
  intro k _ h1 h2;repeat rw[zao _ _ _ _ (by first|exact h1|exact h2)]
 case hp=>exact HP4.out
 case hq=>exact SlF.nil _ _ _
 case hc=>rfl
 case hd=>rfl
theorem BG{X:Nat->Prop}(N:Nat)(c:ao)(x:Net)(w:World)(h:bC X w N x)(hx:bg x)(hE:fZ N w)(hc:c.wf):
  Calls Tryz.prog 20 #[.pointer (some ⟨N,0,none⟩),c.agg] w (lK X N (aK x c) w):=by
 obtain⟨kd,a,b,n,m,⟨ad,bt⟩,key,value⟩:=c;have HM:=zaa h;by_cases hk:kd<1∨10<kd
 · have HA:=zaa (pI (x:=x) (c:=⟨kd,a,b,n,m,⟨ad,bt⟩,key,value⟩) hk);(have hk2:kd<1∨(¬ kd<1/\10<kd):=by omega);unfold ao.agg;rcases hk2 with hd|⟨hd,hd2⟩
   · clear h hk hx hE hc;(go_enter Tryz.func20,Tryz.ntmps20);(go_wp2_with fail);refine bodyPost_ret (v:= .agg #[.int .i64 3,.slice none 0 0,.int .i64 0,.slice none 0 0]) (by simp[results,Tryz.results20,go_sem]) rfl ?_;exact sF HM.out HA.out (xi _ _ _ _)
   · clear h hk hx hE hc;(go_enter Tryz.func20,Tryz.ntmps20);(go_wp2_with fail);refine bodyPost_ret (v:= .agg #[.int .i64 3,.slice none 0 0,.int .i64 0,.slice none 0 0]) (by simp[results,Tryz.results20,go_sem]) rfl ?_;exact sF HM.out HA.out (xi _ _ _ _)
 · (have hk4:¬ kd<1:=by omega);have hk5:¬ 10<kd:=by omega
   cases hia:isN a with
   | false=>
     have HA:=zaa (pH (x:=x) (c:=⟨kd,a,b,n,m,⟨ad,bt⟩,key,value⟩) hk hia);have HI:=zaa (fun w=>dA a w hia);unfold ao.agg;clear h hk hia hx hE hc;(go_enter Tryz.func20,Tryz.ntmps20);(go_wp2_with (go_at_call 27;refine(HI.out _).mono ?_;rintro e w' ⟨rfl,rfl⟩));refine bodyPost_ret (v:= .agg #[.int .i64 2,.slice none 0 0,.int .i64 0,.slice none 0 0]) (by simp[results,Tryz.results20,go_sem]) rfl ?_;exact sF HM.out HA.out (xi _ _ _ _)
   | true=>
     obtain⟨ia0,ia1⟩:=(aV a).1 hia;obtain⟨q,rfl⟩:∃q:Nat,a=q:=⟨a.toNat,by omega⟩;(have hkd:kd=1∨kd=2∨kd=3∨kd=4∨kd=5∨kd=6∨kd=7∨kd=8∨kd=9∨kd=10:=by omega);rcases hkd with rfl|rfl|rfl|rfl|rfl|rfl|rfl|rfl|rfl|rfl
     · exact zB N q b n m ad bt key value x w h hx hE hc hia
     · exact zA N q b n m ad bt key value x w h hx hE hc hia
     · exact zz N q b n m ad bt key value x w h hx hE hc hia
     · exact zy N q b n m ad bt key value x w h hx hE hc hia
     · exact zx N q b n m ad bt key value x w h hx hE hc hia
     · exact zw N q b n m ad bt key value x w h hx hE hc hia
     · exact zv N q b n m ad bt key value x w h hx hE hc hia
     · exact zu N q b n m ad bt key value x w h hx hE hc hia
     · exact zt N q b n m ad bt key value x w h hx hE hc hia
     · exact wz N q b n m ad bt key value x w h hx hE hc hia
def mY:List Value:=(List.replicate 12 [Value.slice none 0 0,.bool false,.slice none 0 0,.slice none 0 0]).flatten++List.replicate 144 (.int .i64 0)
theorem yL:Tryz.zeroCells70.toList=mY:=by kernel_rfl
theorem BC(w:World)(T:TypeId)(v:Value)(hv:v.ownBlock=none):bC (fun k=>v.ownBlock=some k) (w.alloc (.cells Tryz.zeroCells70 T)) w.heap.size eU:=by
 have hc:∀i,(w.alloc (.cells Tryz.zeroCells70 T)).cell? ⟨w.heap.size,i,none⟩=mY[i]? :=fun i=>by
  rw[zah _ _ _ _ rfl,<-Array.getElem?_toList,yL]
 refine⟨fun k _ e=>by(rw[hv]at e;cases e),fun a ha=> ?_,fun a b ha hb=> ?_,fun i=>zaL _ _ _ _ rfl,by simp⟩
 · have h4:∀j,j<4->mY[a*4+j]? =([Value.slice none 0 0,.bool false,.slice none 0 0,.slice none 0 0]:List Value)[j]? :=by
    intro j hj;(have h1:a=0∨a=1∨a=2∨a=3∨a=4∨a=5∨a=6∨a=7∨a=8∨a=9∨a=10∨a=11:=by omega);(have h2:j=0∨j=1∨j=2∨j=3:=by omega);rcases h1 with rfl|rfl|rfl|rfl|rfl|rfl|rfl|rfl|rfl|rfl|rfl|rfl<;>rcases h2 with rfl|rfl|rfl|rfl<;>rfl
   exact⟨⟨.slice none 0 0,by rw[hc];exact h4 0 (by decide),SlN.nil _ _ _ _⟩,by rw[hc];exact h4 1 (by decide),⟨.slice none 0 0,by rw[hc];exact h4 2 (by decide),SlN.nil _ _ _ _⟩,⟨.slice none 0 0,by rw[hc];exact h4 3 (by decide),SlN.nil _ _ _ _⟩⟩
 · rw[hc];unfold mY;rw[zba (by show 48<=_;omega)];show(List.replicate 144 (Value.int .i64 0))[48+a*12+b-48]? =_;rw[zbE,if_pos (by omega)];rfl
theorem bC.grow{X X':Nat->Prop}{w w':World}{N:Nat}{x:Net}{row:Option Nat}(h:bC X w N x)(hX:∀k,row=some k->X k)(hg:w.grownBy w' row)(hX':∀k,X' k->X k∨w.heap.size<=k)(hN:row≠some N)(hlt:∀k,X' k->k<w'.heap.size):bC X' w' N x:=
 h.keepB (fun k hk hz=>⟨hz.1,fun e=>(hX' k e).elim hz.2 (fun e=>by omega)⟩) (hg.block N h.lt (fun e=>hN e.symm)) (fun k hk hz=>hg.block k hk (fun e=>hz.2 (hX k e.symm))) hg.size (fun k hk e=>by have:=hlt k e;omega)
theorem fZ.low{N:Nat}{w w':World}(h:fZ N w)(hb:Below N w w'):fZ N w':=by
 obtain⟨w0,h1,h2,h3⟩:=h;exact⟨w0,h1,h2,h3.trans (hb.mono h2)⟩
def Ey(acts:List ao)(w:World)(e:Ending)(w':World):Prop:=
 ∃vr vs,e= .returned (.tuple #[vr,vs,.int .i64 0])/\Sl oa w' vr (dh eU acts).2/\Sl (slR aW) w' vs ((List.range 12).map fun i=>((dh eU acts).1.nd i).st)/\Below w.heap.size w w'
theorem tv{acts:List ao}{k:Nat}(hk:k<acts.length):dh eU (acts.take (k+1))=((aK (dh eU (acts.take k)).1 acts[k]).1,(dh eU (acts.take k)).2++[(aK (dh eU (acts.take k)).1 acts[k]).2]):=by
 rw[zar hk,yX]
theorem Ba(A:Option Addr)(n c:Nat)(w:World)(hn:400<n):
  Calls Tryz.prog 12 #[.slice A n c] w fun e w'=>e= .returned (.tuple #[.slice none 0 0,.slice none 0 0,.int .i64 1])/\w=w':=by
 have hn1:(400:Int)<(n:Int):=by omega
 go_enter Tryz.func12,Tryz.ntmps12
 go_wp2_with fail
 go_ret3
 exact⟨rfl,rfl⟩
theorem BB(v:Value)(acts:List ao)(w:World)(h:Sl sG w v acts)(hl:acts.length<=400)(hE:Env w):
  Calls Tryz.prog 12 #[v] w (Ey acts w):=by
 obtain⟨A,c,rfl⟩:=h.form;have H:=zaa h;have hn1:¬ (400:Int)<(acts.length:Int):=by omega
 have HNZ:=zaa (BC w 70 (.slice none 0 0) rfl);have hal:=(zac w.heap.size w).alloc (zab _) (.cells Tryz.zeroCells70 70);have HAL:=zaa hal;have HE:=zaa (show fZ w.heap.size (w.alloc (.cells Tryz.zeroCells70 70))from⟨w,hE,zab _,hal⟩);have HEW:=zaa hE;clear h hal hE;go_enter Tryz.func12,Tryz.ntmps12
 go_wp2_with fail
 obtain⟨N,hN⟩:∃N,N=w.heap.size:=⟨_,rfl⟩;obtain⟨W,hW⟩:∃x,x=w.alloc (.cells Tryz.zeroCells70 70):=⟨_,rfl⟩;have HWZ:=zaa (show W.heap.size=N+1 by rw[hW,hN];simp);rw[<-hW]at HNZ HAL HE⊢;rw[<-hN]at HNZ HAL HE⊢;have HN:=zaa hN;clear hN hW;go_loopw [6,18] (fun o i wr=>∃k:Nat,k<=acts.length/\i= .int .i64 k/\OwR (zR oa (N+1)) 57 (N+1) wr o (dh eU (acts.take k)).2/\bC (fun q=>o.ownBlock=some q) wr N (dh eU (acts.take k)).1/\Below N w wr/\fZ N wr) (fun _ i _=>acts.length-(intOf i).toNat)
 case atStart=>exact⟨0,zap _,rfl,OwR.nil _ _ (by rw[HWZ.out];exact zab _),HNZ.out,HAL.out,HE.out⟩
 case round=>
  obtain⟨k,hk,rfl,ho,hm,hb,hev⟩:=hrel;have HO:=zaa ho;have HM:=zaa hm;have HB:=zaa hb;have HEV:=zaa hev;have hsl:Sl sG wr (.slice A acts.length c) acts:=Sl.below H.out (by rw[<-HN.out];exact hb);clear ho hm hb hev HNZ HAL HE;by_cases hlt:k<acts.length
  · (have hki:(k:Int)<(acts.length:Int):=by omega);have hk0:(0:Int)<=(k:Int):=zai k;obtain⟨bk,off,rfl,hbk⟩:=hsl.at_ hlt;obtain⟨f0,f1,f2,f3,f4,f5,f6,f7,f8,hwf⟩:=hsl.act hlt;have HRT:=zaa (tv hlt);obtain⟨ca,hca⟩:∃ca,ca=acts[k]:=⟨_,rfl⟩;rw[<-hca]at f0 f1 f2 f3 f4 f5 f6 f7 f8 hwf HRT;(have hrl:(dh eU (acts.take k)).2.length<=400:=by rw[nZ,zat];omega);have HOK:=zaa (rO (acts.take k) sh);obtain⟨x,hx⟩:∃x,x=(dh eU (acts.take k)).1:=⟨_,rfl⟩;obtain⟨rs,hrs⟩:∃rs,rs=(dh eU (acts.take k)).2:=⟨_,rfl⟩;rw[<-hx]at HM HRT HOK;rw[<-hrs]at HO HRT hrl;have hal:=(zac wr.heap.size wr).alloc (zab _) (.cells #[.int .i64 ca.kind,.int .i64 ca.a,.int .i64 ca.b,.int .i64 ca.n,.int .i64 ca.m,.int .i64 ca.pre.addr,.int .i64 ca.pre.bits,.string ca.key,.string ca.value] 34);have HCA:=zaa (BG N ca x _ (HM.out.below hal) HOK.out (HEV.out.below hal (zbh HM.out.lt)) hwf);unfold ao.agg at HCA;have HO1:=zaa (HO.out.keep hal);have HAL:=zaa hal;have HRL:=zaa hrl;clear hx hrs hca hwf hrl hsl hal;(go_wp2_with fail);refine HCA.out.mono ?_;rintro e w4 ⟨vp,vk,rfl,hp4,hk4,hm4,hg4⟩;have HM4:=zaa hm4;have hbig:N+1<=wr.heap.size:=HO.out.choose_spec.2.2.2;have HO4:=zaa (HO1.out.keptZ hg4 (zbt N));have HOB:=zaa (show∀k,u6.ownBlock=some k->k<wr.heap.size from fun k e=>(HO.out.base_le k e).2);have HB4:=zaa (show Below N w w4 from HB.out.trans ((HAL.out.mono (by omega)).trans (mE hg4 (by simp;omega))));have HEV4:=zaa ((HEV.out.below HAL.out (by omega)).grown hg4 (by simp;omega));have HH:=zaa (show(zR oa (N+1)).holds w4 (fun k=>k<w4.heap.size/\wr.heap.size<=k) [.int .i64 (aK x ca).2.code,vp,.int .i64 (aK x ca).2.cost,vk] (aK x ca).2 from
     ⟨vp,vk,rfl,SlR.keep hp4 (fun _ _=>rfl) (fun k hk=>⟨⟨hk.1,by have:=hk.2;simp at this;omega⟩,by have:=hk.2;simp at this;omega⟩),SlR.keep hk4 (fun _ _=>rfl) (fun k hk=>⟨⟨hk.1,by have:=hk.2;simp at this;omega⟩,by have:=hk.2;simp at this;omega⟩)⟩)
    (obtain⟨Ap,np,cp,rfl⟩:∃A n c,vp= .slice A n c:=by obtain⟨A,c,e,_⟩:=hp4;exact⟨A,_,c,e⟩);(obtain⟨Ak,nk,ck,rfl⟩:∃A n c,vk= .slice A n c:=by obtain⟨A,c,e,_⟩:=hk4;exact⟨A,_,c,e⟩);clear hp4 hk4 hm4 hg4 f0 f1 f2 f3 f4 f5 f6 f7 f8;(go_wp2_with (at_builtin;refine fF (r:=zR oa (N+1)) (base:=N+1) (y:=(aK x ca).2) (cs:=[.int .i64 (aK x ca).2.code,.slice Ap np cp,.int .i64 (aK x ca).2.cost,.slice Ak nk ck]) (S:=fun k=>k<w4.heap.size/\wr.heap.size<=k) yo rfl (.tmp 22) (.tmp 26) rfl HO4.out HH.out (fun k hk=>⟨hk.1,fun e=>by have h1:=HOB.out k e;have h2:wr.heap.size<=k:=hk.2;omega⟩) rfl rfl (by first|rfl|simp) (by have:=HRL.out;omega) (by decide) ?_;intro v5 w5 ho5 hg5));have hal4:=(zac w4.heap.size w4).alloc (zab _) (.cells #[.int .i64 (aK x ca).2.code,.slice Ap np cp,.int .i64 (aK x ca).2.cost,.slice Ak nk ck] 57);have hz4:N+1<=w4.heap.size:=HO4.out.choose_spec.2.2.2;have HB5:=zaa (show Below (N+1) w4 w5 from(au HO4.out _).below_grown ((zac (N+1) w4).alloc hz4 _) hg5.grown);have HM5:=zaa ((HM4.out.below hal4).grow (X':=fun q=>v5.ownBlock=some q) (fun k e=>e) hg5.grown (fun k e=>hg5.own k e) (fun e=>by have:=(HO4.out.base_le _ e).1;omega) (fun k e=>(ho5.base_le k e).2));have HO5:=zaa ho5;clear ho5 hg5 hal4;(go_roundw);(case rel=>exact⟨k+1,by omega,by go_num,by rw[HRT.out];exact HO5.out,by rw[HRT.out];exact HM5.out,HB4.out.trans (HB5.out.mono (by omega)),HEV4.out.low (HB5.out.mono (by omega))⟩);case measure=>simp[intOf];omega
  · (obtain rfl:k=acts.length:=by omega);rw[zaN]at HO HM;(have hki:¬ (acts.length:Int)<(acts.length:Int):=by omega);have HOK:=zaa (rO acts sh);have HP:=zaa (show∀w',Ey acts w w'=Ey acts w w' from fun _=>rfl);obtain⟨z,hz⟩:∃z,z=(dh eU acts).1:=⟨_,rfl⟩;have HZ:=zaa hz;rw[<-hz]at HM HOK;clear hz hsl hk hlt HEV HP;obtain⟨WR,rfl⟩:∃m,m=wr:=⟨wr,rfl⟩;(go_wp2_with fail);(go_loopw [9,29] (fun o i wq=>∃k:Nat,k<=12/\i= .int .i64 k/\OwR (slR aW) 42 WR.heap.size wq o ((List.range k).map fun i=>(z.nd i).st)/\Below WR.heap.size WR wq) (fun _ i _=>12-(intOf i).toNat));(case atStart=>exact⟨0,zap _,rfl,OwR.nil _ _ (zab _),zac _ _⟩);case round=>
     obtain⟨k,hk,rfl,ho,hb⟩:=hrel;have HO2:=zaa ho;have HB2:=zaa hb;clear ho hb;by_cases hlt:k<12
     · (have hki:(k:Int)<12:=by omega);have hk0:(0:Int)<=(k:Int):=zai k;obtain⟨v0,c0,s0⟩:=(HM.out.nd k hlt).st;have c1:=aa HB2.out c0;have hol:=(HOK.out.nd k hlt).st.len;have HCL:=zaa (iS v0 (z.nd k).st wr (Sl.below (SlN.sl s0) HB2.out) (by omega));(obtain⟨A0,n0,k0,rfl⟩:∃A n c,v0= .slice A n c:=by obtain⟨A,c,e,_⟩:=s0;exact⟨A,_,c,e⟩);have HRG:=zaa (show(List.range (k+1)).map (fun i=>(z.nd i).st)=(List.range k).map (fun i=>(z.nd i).st)++[(z.nd k).st]by rw[List.range_succ,zbe];rfl);have HLE:=zaa (show((List.range k).map fun i=>(z.nd i).st).length<=1000000 by simp;omega);clear c0 s0 hol;(go_wp2_with fail);refine HCL.out.mono ?_;rintro e w1 ⟨v1,rfl,ho1,hb1⟩;have hs1:=ho1.slG (by decide) (fun _ _ _ _ h=>iQ h);obtain⟨A1,n1,k1,rfl⟩:=ap ho1 (by decide);have HO3:=zaa (HO2.out.keep hb1);have HB3:=zaa (HB2.out.trans (hb1.mono HB2.out.size));have HOB:=zaa (show∀q,u9.ownBlock=some q->q<wr.heap.size from fun q e=>(HO2.out.base_le q e).2);have HH:=zaa (show(slR aW).holds w1 (fun q=>q<w1.heap.size/\wr.heap.size<=q) [.slice A1 n1 k1] (z.nd k).st from⟨_,rfl,hs1⟩);have hz3:WR.heap.size<=w1.heap.size:=HB3.out.size;clear hs1 ho1 hb1 c1;(go_wp2_with (at_builtin;refine fF (r:=slR aW) (base:=WR.heap.size) (y:=(z.nd k).st) (cs:=[.slice A1 n1 k1]) (S:=fun q=>q<w1.heap.size/\wr.heap.size<=q) zY rfl (.tmp 32) (.tmp 41) rfl HO3.out HH.out (fun q hq=>⟨hq.1,fun e=>by have h1:=HOB.out q e;have h2:wr.heap.size<=q:=hq.2;omega⟩) rfl rfl (by first|rfl|simp) HLE.out (by decide) ?_;intro v5 w5 ho5 hg5));have HB5:=zaa ((au HO3.out _).below_grown (HB3.out.alloc hz3 _) hg5.grown);(go_roundw);(case rel=>exact⟨k+1,by omega,by go_num,by rw[HRG.out];exact ho5,HB5.out⟩);case measure=>simp[intOf];omega
     · (obtain rfl:k=12:=by omega);have hs1:Sl (slR aW) wr u9 ((List.range 12).map fun i=>(z.nd i).st):=HO2.out.sl (by decide);have hs2:Sl oa wr u6 (dh eU acts).2:=Sl.below (Sl.unzR (HO.out.sl (by show 0<4;decide))) HB2.out;have HS1:=zaa hs1;have HS2:=zaa hs2;have HB9:=zaa (show Below w.heap.size w wr from by
        have h1:=HB.out;rw[HN.out]at h1
        exact h1.trans (HB2.out.mono h1.size))
       clear hs1 hs2;(go_wp2_with fail);(go_ret3);exact⟨_,_,rfl,HS2.out,by rw[<-HZ.out];exact HS1.out,HB9.out⟩
end
end Go.Proofs.YtojojpjldkpmoaaGreatDoor
