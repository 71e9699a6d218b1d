/-
  
-/
import Derived.Test.YtojojpjldkpmoaaGreatDoorGNrE1
import Derived.Test.YtojojpjldkpmoaaGreatDoorGNrE2
import Derived.Test.YtojojpjldkpmoaaGreatDoorGNrE10
import Derived.Test.YtojojpjldkpmoaaGreatDoorGNrE6
import Derived.Test.YtojojpjldkpmoaaGreatDoorGNrE7
set_option linter.unusedVariables false
set_option linter.unusedSimpArgs false
set_option maxHeartbeats 16000000
set_option maxRecDepth 100000
namespace Go.Proofs.YtojojpjldkpmoaaGreatDoor
open Go Go.RowKit Go.Deep
theorem An{X:Nat->Prop}(vs:List Value)(c:ao)(x:Net)(w:World)(h:bZ X w vs x)(hx:bg x)(hX:∀k,w.heap.size<=k->¬ X k)(hE:Env w)(hc:c.wf):
  Calls Tryz.prog 22 #[.agg vs.toArray,c.agG] w (ed X (aK x c) w):=by
 obtain⟨kd,a,b,n,m,⟨ad,bt⟩,key,value⟩:=c;by_cases hk:kd<1∨10<kd
 · have HA1:=zaa (pI (x:=x) (c:=⟨kd,a,b,n,m,⟨ad,bt⟩,key,value⟩) hk);obtain⟨W,B,A,R,Q,O,hB,hA,hR,hQ,hO,hW,hWz,hg⟩:=iY X w vs x kd a b n m ad bt key value h;have HB:=zaa hB;have HA:=zaa hA;have HR:=zaa hR;have HQ:=zaa hQ;have HO:=zaa hO;have HW:=zaa hW;have HG:=zaa hg;have hin:=aU kd 1 10 W;rw[show(decide ((1:Int)<=kd)&&decide (kd<=10))=false by
    cases e:(decide ((1:Int)<=kd)&&decide (kd<=10))with
    | false=>rfl
    | true=>simp at e;omega]at hin
   have HI:=zaa hin;have p0:W.cell? ⟨A,0,none⟩=some (.int .i64 kd):=hg.a.cell 0 _ rfl;obtain⟨o0,o1,o2,o3,y0,y1,y2,y3⟩:=HG.out.oc;have HGE:=zaa (HG.out.err (3));unfold ao.agG;clear hB hA hR hQ hO hW hWz hg h hx hX hE hc hk hin;(go_enter Tryz.func22,Tryz.ntmps22);(go_wp2_with fail);rw[HW.out,<-HO.out,<-HQ.out,<-HR.out,<-HA.out,<-HB.out];clear HW HO HQ HR HA HB;refine HI.out.mono ?_;rintro e w' ⟨rfl,rfl⟩;(go_wp2_with fail);refine aQ HGE.out 40 41 rfl rfl rfl rfl rfl rfl rfl rfl rfl rfl rfl rfl rfl rfl rfl rfl rfl (by kernel_rfl) (by kernel_rfl) (by kernel_rfl) (by kernel_rfl) (by kernel_rfl) (by kernel_rfl) (by kernel_rfl) (by kernel_rfl) (fun _ _ d _ _ h=>by cases d<;>exact h) rfl rfl rfl rfl (zak rfl) (zak rfl) (by decide) (fun W9 hf=> ?_);(go_wp2_with fail);exact bodyPost_ret (ay HGE.out hf rfl rfl) rfl (az HGE.out hf (HA1.out) (SlF.nil _ _ _) (SlF.nil _ _ _) (fun k e=>by first|exact e|exact .inl e))
 · cases hia:isN a with
   | false=>
     have HA1:=zaa (pH (x:=x) (c:=⟨kd,a,b,n,m,⟨ad,bt⟩,key,value⟩) hk hia);obtain⟨W,B,A,R,Q,O,hB,hA,hR,hQ,hO,hW,hWz,hg⟩:=iY X w vs x kd a b n m ad bt key value h;have HB:=zaa hB;have HA:=zaa hA;have HR:=zaa hR;have HQ:=zaa hQ;have HO:=zaa hO;have HW:=zaa hW;have HG:=zaa hg;have hin:=aU kd 1 10 W;rw[show(decide ((1:Int)<=kd)&&decide (kd<=10))=true by simp;omega]at hin;have HI:=zaa hin;have HN:=zaa (be a W hia);have p0:W.cell? ⟨A,0,none⟩=some (.int .i64 kd):=hg.a.cell 0 _ rfl;have p1:W.cell? ⟨A,1,none⟩=some (.int .i64 a):=hg.a.cell 1 _ rfl;obtain⟨o0,o1,o2,o3,y0,y1,y2,y3⟩:=HG.out.oc;have HGE:=zaa (HG.out.err (2));unfold ao.agG;clear hB hA hR hQ hO hW hWz hg h hx hX hE hc hk hin hia;(go_enter Tryz.func22,Tryz.ntmps22);(go_wp2_with fail);rw[HW.out,<-HO.out,<-HQ.out,<-HR.out,<-HA.out,<-HB.out];clear HW HO HQ HR HA HB;refine HI.out.mono ?_;rintro e w' ⟨rfl,rfl⟩;(go_wp2_with fail);refine HN.out.mono ?_;rintro e w' ⟨rfl,rfl⟩;(go_wp2_with fail);refine aQ HGE.out 47 48 rfl rfl rfl rfl rfl rfl rfl rfl rfl rfl rfl rfl rfl rfl rfl rfl rfl (by kernel_rfl) (by kernel_rfl) (by kernel_rfl) (by kernel_rfl) (by kernel_rfl) (by kernel_rfl) (by kernel_rfl) (by kernel_rfl) (fun _ _ d _ _ h=>by cases d<;>exact h) rfl rfl rfl rfl (zak rfl) (zak rfl) (by decide) (fun W9 hf=> ?_);(go_wp2_with fail);exact bodyPost_ret (ay HGE.out hf rfl rfl) rfl (az HGE.out hf (HA1.out) (SlF.nil _ _ _) (SlF.nil _ _ _) (fun k e=>by first|exact e|exact .inl e))
   | true=>
     obtain⟨ia0,ia1⟩:=(aV a).1 hia;obtain⟨q,rfl⟩:∃q:Nat,a=q:=⟨a.toNat,by omega⟩;(have hkd:kd=1∨kd=2∨kd=3∨kd=4∨kd=5∨kd=6∨kd=7∨kd=8∨kd=9∨kd=10:=by omega);rcases hkd with rfl|rfl|rfl|rfl|rfl|rfl|rfl|rfl|rfl|rfl
     · exact xA vs q b n m ad bt key value x w h hx hX hE hc hia
     · exact xz vs q b n m ad bt key value x w h hx hX hE hc hia
     · exact xy vs q b n m ad bt key value x w h hx hX hE hc hia
     · exact xx vs q b n m ad bt key value x w h hx hX hE hc hia
     · exact xw vs q b n m ad bt key value x w h hx hX hE hc hia
     · exact xv vs q b n m ad bt key value x w h hx hX hE hc hia
     · exact xu vs q b n m ad bt key value x w h hx hX hE hc hia
     · exact xt vs q b n m ad bt key value x w h hx hX hE hc hia
     · exact xr vs q b n m ad bt key value x w h hx hX hE hc hia
     · exact vg vs q b n m ad bt key value x w h hx hX hE hc hia
end Go.Proofs.YtojojpjldkpmoaaGreatDoor
