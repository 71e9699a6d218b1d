/-
  
-/
import Derived.Test.YtojojpjldkpmoaaGreatDoorGPaA
import Derived.Test.YtojojpjldkpmoaaGreatDoorGDoD
set_option linter.unusedVariables false
set_option linter.unusedSimpArgs false
set_option maxHeartbeats 16000000
set_option maxRecDepth 100000
namespace Go.Proofs.YtojojpjldkpmoaaGreatDoor
open Go Go.RowKit Go.Deep
def cy(Z:Nat):Rep af:=
 { size:=5,holds:=fun w S cs r=>aB.holds w (fun k=>S k/\Z<=k) cs r
   len:=fun h=>aB.len h
   one:=fun h=>aB.one h
   keep:=fun h k1 k2=>aB.keep h (fun k hk=>k1 k hk.1) (fun k hk=>⟨k2 k hk.1,hk.2⟩)}
theorem Sl.unZ{Z:Nat}{w:World}{v:Value}{xs:List af}(h:Sl (cy Z) w v xs):Sl aB w v xs:=by
 obtain⟨A,c,rfl,h1,h2,h3⟩:=h;refine⟨A,c,rfl,h1,h2,fun i x hx=> ?_⟩;obtain⟨b,off,cs,hA,hS,hb,hh,hc⟩:=h3 i x hx;exact⟨b,off,cs,hA,hS,hb,aB.keep hh (fun _ _=>rfl) (fun _ hk=>hk.1),hc⟩
theorem OwR.slZ{E base Z:Nat}{w:World}{v:Value}{xs:List af}(h:OwR (cy Z) E base w v xs)(hZ:Z<=base):SlF aB Z w v xs:=by
 obtain⟨A,c,rfl,h1,h2,h3⟩:=h.sl (show 0<5 by decide);refine⟨A,c,rfl,h1,h2,fun i x hx=> ?_⟩;obtain⟨b,off,cs,rfl,hS,hb,hh,hc⟩:=h3 i x hx;exact⟨b,off,cs,rfl,⟨hb,zax hZ (h.base_le b rfl).1⟩,hb,hh,hc⟩
theorem gX{ops:Array Oper}{rest:List Oper}{o:Oper}{a:Act}{Q:Exit->Act->World->Prop}{w:World}{base:Nat}(hgd:o.guard=none)(s x:Operand)
  (ho:o.op= .call {callee:= .builtin .append,args:= #[s,x],argTypes:= #[47,47]}) {v vh:Value} {xs:List af} {r:af} {S:Nat->Prop} {Z:Nat}
  (hown:OwR (cy Z) 130 base w v xs) (hh:SlR aI w S vh r.hops) (hw:r.wf) (hS:∀k,S k->k<w.heap.size/\v.ownBlock≠some k/\Z<=k) (hs:a.eval s=v)
  {B:Nat} (hx:a.eval x= .slice (some ⟨B,0,none⟩) 1 1) (hB:B=w.heap.size) (hb:xs.length<=1000000)
  (h:∀v' w',OwR (cy Z) 130 base w' v' (xs++[r])->al (w.alloc (.cells #[.int .i64 r.pre.addr,.int .i64 r.pre.bits,.bool r.here,.int .i64 r.cost,vh] 130)) v w' v'->wpList Tryz.prog ops Q rest (a.put o.dst v') w'):
  wpList Tryz.prog ops Q (o::rest) a (w.alloc (.cells #[.int .i64 r.pre.addr,.int .i64 r.pre.bits,.bool r.here,.int .i64 r.cost,vh] 130)):=
 wpList_plain hgd fun _ hK=>by
  subst hB;have hone:SlR (cy Z) (w.alloc (.cells #[.int .i64 r.pre.addr,.int .i64 r.pre.bits,.bool r.here,.int .i64 r.cost,vh] 130)) (fun k=>S k∨k=w.heap.size) (.slice (some ⟨w.heap.size,0,none⟩) 1 1) [r]:=by
   refine⟨some ⟨w.heap.size,0,none⟩,1,rfl,by simp,by decide,fun i y hy=> ?_⟩
   match i,hy with
   | 0,hy=>
     simp at hy;subst hy;refine⟨w.heap.size,0,r.cells vh,rfl,.inr rfl,by simp,⟨vh,rfl,SlR.keep hh (fun k hk=>zbf _ _ _ (hS k hk).1) (fun k hk=>⟨.inl hk,(hS k hk).2.2⟩),hw⟩,fun j u hu=> ?_⟩;rw[zah _ _ _ _ rfl];simpa [af.cells]using hu
   | i+1,hy=>simp at hy
  obtain⟨v',w',hrun,r2,r3,r4⟩:=bH (ty:=o.type) ir (hown.alloc1 _) hone (fun cs y hy=>(cy Z).keep hy (fun _ _=>rfl) (fun k hk=>by
   rcases hk with hk|hk
   · have:=hS k hk;exact⟨by simp;omega,this.2.1⟩
   · subst hk;exact⟨by simp,fun e=>by have:=(hown.base_le _ e).2;omega⟩)) (by unfold maxLen;simp;omega) (by simp;omega)
  unfold Oper.wp execOp;simp only[ho,resolve,invoke,builtin,zbK,zbJ,Result.andThen_ok,zbn,zbc,zbB,hs,hx,hrun];exact hK _ _ (h v' w' r2 (al.of_at r3 r4))
theorem OwR.setRouteZ{base Z:Nat}{w:World}{g n cap:Nat}{xs:List af}(h:OwR (cy Z) 130 base w (.slice (some ⟨g,0,none⟩) n cap) xs){i:Nat}(hi:i<xs.length){y:af}{vy:Value}
  (hy:SlR aI w (fun k=>k<w.heap.size/\k≠g/\Z<=k) vy y.hops) (hw:y.wf):
  OwR (cy Z) 130 base (((((w.setCell ⟨g,i*5,none⟩ (.int .i64 y.pre.addr)).setCell ⟨g,i*5+1,none⟩ (.int .i64 y.pre.bits)).setCell ⟨g,i*5+2,none⟩ (.bool y.here)).setCell ⟨g,i*5+3,none⟩ (.int .i64 y.cost)).setCell ⟨g,i*5+4,none⟩ vy) (.slice (some ⟨g,0,none⟩) n cap) (xs.set i y):=by
 obtain⟨css,c1,c2,c3⟩:=h.css;have hvy:vy.oneCell'=true:=by obtain⟨A,c,rfl,_⟩:=hy;rfl
 have hi':i<css.length:=by omega
 have s0:=c3.setRaw (i:=i) (j:=0) hi' (show 0<5 by decide) (u:= .int .i64 y.pre.addr) rfl;have s1:=s0.setRaw (i:=i) (j:=1) (by simpa using hi') (show 1<5 by decide) (u:= .int .i64 y.pre.bits) rfl;have s2:=s1.setRaw (i:=i) (j:=2) (by simpa using hi') (show 2<5 by decide) (u:= .bool y.here) rfl;have s3:=s2.setRaw (i:=i) (j:=3) (by simpa using hi') (show 3<5 by decide) (u:= .int .i64 y.cost) rfl;have s4:=s3.setRaw (i:=i) (j:=4) (by simpa using hi') (show 4<5 by decide) (u:=vy) hvy;obtain⟨_,r2,_⟩:=OwR.to_raw c3;obtain⟨a,b,c,d,e,hc⟩:∃a b c d e,css[i]=[a,b,c,d,e]:=by
  have:=(r2 _ (zaw hi')).1
  match css[i],this with
  | [a,b,c,d,e],_=>exact⟨a,b,c,d,e,rfl⟩
 simp only[List.set_set,List.getElem_set_self,hc,uw,zbH]at s4;have hblk:∀k,k≠g->(((((w.setCell ⟨g,i*5,none⟩ (.int .i64 y.pre.addr)).setCell ⟨g,i*5+1,none⟩ (.int .i64 y.pre.bits)).setCell ⟨g,i*5+2,none⟩ (.bool y.here)).setCell ⟨g,i*5+3,none⟩ (.int .i64 y.cost)).setCell ⟨g,i*5+4,none⟩ vy).heap[k]? =w.heap[k]? :=by
  intro k hk;rw[zao _ _ _ _ (by exact hk),zao _ _ _ _ (by exact hk),zao _ _ _ _ (by exact hk),zao _ _ _ _ (by exact hk),zao _ _ _ _ (by exact hk)]
 refine OwR.of_css (css:=css.set i [.int .i64 y.pre.addr,.int .i64 y.pre.bits,.bool y.here,.int .i64 y.cost,vy]) (by simp[c1]) (fun m cs x hcs hx=> ?_) s4;have hsz:(((((w.setCell ⟨g,i*5,none⟩ (.int .i64 y.pre.addr)).setCell ⟨g,i*5+1,none⟩ (.int .i64 y.pre.bits)).setCell ⟨g,i*5+2,none⟩ (.bool y.here)).setCell ⟨g,i*5+3,none⟩ (.int .i64 y.cost)).setCell ⟨g,i*5+4,none⟩ vy).heap.size=w.heap.size:=by simp[World.setCell]
 by_cases e:m=i
 · subst e;rw[zbs (by omega)]at hcs hx;injection hcs with hcs;injection hx with hx;subst hcs hx;exact⟨vy,rfl,SlR.keep hy (fun k hk=>hblk k hk.2.1) (fun k hk=>⟨⟨by rw[hsz];exact hk.1,fun e=>by have e2:g=k:=Option.some.inj e;exact hk.2.1 e2.symm⟩,hk.2.2⟩),hw⟩
 · rw[zaF (fun x=>e x.symm)]at hcs hx;exact(cy Z).keep (c2 m cs x hcs hx) (fun k hk=>hblk k (fun e2=>hk.2 (by rw[e2];rfl))) (fun k hk=>⟨by rw[hsz];exact hk.1,hk.2⟩)
theorem mb(v:Value)(xs:List af)(y:af)(vy:Value)(i:Nat)(w:World)(vb base Z:Nat)(h:OwR (cy Z) 130 base w v xs)(hi:i<=xs.length)(hl:xs.length<=1000)
  (hvb:w.heap[vb]? =some (.cells (y.cells vy).toArray 130 (0,0))) (hne:v.ownBlock≠some vb) (hy:SlR aI w (fun k=>(k<w.heap.size/\v.ownBlock≠some k)/\Z<=k) vy y.hops) (hw:y.wf):
  Calls Tryz.prog 123 #[v,.int .i64 (i:Nat),.slice (some ⟨vb,0,none⟩) 1 1] w fun e w'=>∃v',e= .returned v'/\OwR (cy Z) 130 base w' v' (xs.take i++y::xs.drop i)/\al w v w' v':=by
 obtain⟨css,c1,c2,c3⟩:=h.css;have hvy:vy.oneCell'=true:=by obtain⟨A,c,rfl,_⟩:=hy;rfl
 have hraw:hJ 5 (y.cells vy):=⟨rfl,fun u hu=>by
  simp[af.cells]at hu;rcases hu with rfl|rfl|rfl|rfl|rfl
  · rfl
  · rfl
  · rfl
  · rfl
  · exact hvy⟩
 refine(mA v css (y.cells vy) i w vb base c3 (by omega) (by omega) hvb hne hraw).mono ?_;rintro e w' ⟨v',rfl,ho,hg⟩;refine⟨v',rfl,OwR.of_css (by simp[c1]) (fun m cs x hcs hx=> ?_) ho,hg⟩;have hblk:∀k,(k<w.heap.size/\v.ownBlock≠some k)->w'.heap[k]? =w.heap[k]? :=fun k hk=>hg.grown.block k hk.1 (fun e=>hk.2 e.symm);have hsub:∀k,(k<w.heap.size/\v.ownBlock≠some k)->(k<w'.heap.size/\v'.ownBlock≠some k):=fun k hk=>
  ⟨zas hk.1 hg.grown.size,fun e=>by
   rcases hg.own k e with h1|h1
   · exact hk.2 h1
   · omega⟩
 by_cases h1:m<i
 · rw[zbi (by rw[zat];omega),zbo,if_pos h1]at hcs hx;exact(cy Z).keep (c2 m cs x hcs hx) hblk hsub
 · rw[zba (by rw[zat];omega),zat,Nat.min_eq_left (by omega)]at hcs hx;by_cases h2:m=i
   · subst h2;rw[Nat.sub_self]at hcs hx;simp at hcs hx;subst hcs hx;exact⟨vy,rfl,SlR.keep hy (fun k hk=>hblk k hk.1) (fun k hk=>⟨hsub k hk.1,hk.2⟩),hw⟩
   · obtain⟨q,hq⟩:∃q,m-i=q+1:=⟨m-i-1,by omega⟩;rw[hq,zaA,zbI]at hcs hx;exact(cy Z).keep (c2 _ cs x hcs hx) hblk hsub
def EO(xs set:List af)(gone:List ae)(w:World)(e:Ending)(w':World):Prop:=
 ∃v,e= .returned (.tuple #[v,.int .i64 (ah (gg xs set gone))])/\SlF aB w.heap.size w' v (se xs set gone)/\Below w.heap.size w w'
theorem mM{B Z:Nat}{a w w':World}{v v':Value}{E:TypeId}{xs:List af}(h:Below B a w)(ho:OwR (cy Z) E B w v xs)(hg:al w v w' v'):Below B a w':=
 h.grown hg.grown ho.choose_spec.2.2.2 (fun k hk=>(ho.base_le k hk).1)
theorem wj(v1 v2 v3:Value)(xs set:List af)(gone:List ae)(w:World)(h1:Sl aB w v1 xs)(h2:Sl aB w v2 set)(h3:Sl aA w v3 gone)(hc:ah xs=0)(hset:∀r∈set,vn r)(hsl:set.length<=400):
  Calls Tryz.prog 69 #[v1,v2,v3] w (EO xs set gone w):=by
 have hlen:=h2.len_le;have hlen1:=h1.len_le;have hxl:=(fk hc).1;have hxf:∀r∈xs,vn r:=fun r hr=>by
  obtain⟨i,hi,rfl⟩:=zau hr;obtain⟨b1,b2⟩:=dy ((fk hc).2 i hi);obtain⟨A,c,hv⟩:=h1.form;obtain⟨_,_,hA,_⟩:=(hv▸h1).at_ hi;subst hv;subst hA;obtain⟨_,_,_,_,_,_,_,hw⟩:=h1.route hi;exact⟨b1,b2,hw⟩
 have hxo:aE xs:=zaR.2 fun i j hi hj hij=>og hc hij hj;obtain⟨A1,c1,rfl⟩:=h1.form;obtain⟨A2,c2,rfl⟩:=h2.form;obtain⟨A3,c3,rfl⟩:=h3.form;have H1:=zaa h1;have H2:=zaa h2;have H3:=zaa h3;have HXF:=zaa hxf;have HXO:=zaa hxo;have HSF:=zaa hset;have HCK:=zaa hc;have HP:=zaa (fun k=>qV (P:=vn) (set.take k) (xs.filter fun r=> !inP gone r.pre) (hxo.sublist List.filter_sublist) (fun x hx=>hxf x (zbu.1 hx).1) (fun x hx=>hset x (zbk hx)));clear h1 h2 h3 hxf hxo hset hc;go_enter Tryz.func69,Tryz.ntmps69
 go_wp2_with fail
 refine(eS _ xs _ H1.out).mono ?_;rintro r w1 ⟨rfl,hb1⟩;have HB1:=zaa hb1;have hz1:=hb1.size;rw[HCK.out];clear hb1;go_wp2_with fail
 go_loopw [9,11,24] (fun s9 _ s24 wr=>∃k:Nat,k<=xs.length/\s24= .int .i64 k/\OwR (cy w.heap.size) 130 w.heap.size wr s9 ((xs.take k).filter fun r=> !inP gone r.pre)/\Below w.heap.size w wr) (fun _ _ s24 _=>xs.length-(intOf s24).toNat)
 case atStart=>exact⟨0,zap _,rfl,OwR.nil _ _ HB1.out.size,HB1.out⟩
 case round=>
  obtain⟨k,hk,rfl,hown,hB⟩:=hrel;have HO:=zaa hown;have HB:=zaa hB;have hez:=hB.size;by_cases hlt:k<xs.length
  · obtain⟨b,off,rfl,hb⟩:=H1.out.at_ hlt;obtain⟨vh,f1,f2,f3,f4,f5,hs,hrw⟩:=(H1.out.below hB).route hlt;have hst:=Db (gone:=gone) hlt;have hhl:=(HXF.out _ (zaw hlt)).len;obtain⟨y,hy⟩:∃y,xs[k]=y:=⟨_,rfl⟩;rw[hy]at f1 f2 f3 f4 hs hrw hst hhl;have HRW:=zaa hrw;have HSET:=zaa hst;have hba:Below wr.heap.size wr (wr.alloc (.cells #[.int .i64 y.pre.addr,.int .i64 y.pre.bits,.bool y.here,.int .i64 y.cost,vh] 130)):=(zac _ _).alloc (zab _) _;have HCON:=zaa (uI (.slice A3 gone.length c3) gone y.pre _ ((H3.out.below hB).below hba));have HS:=zaa (hs.below hba);obtain⟨Ah,ch,hvh⟩:=hs.form;subst hvh;have HHL:=zaa hhl;have r0:(0:Int)<=(k:Int):=zai _;(have r1:(k:Int)<(xs.length:Int):=by omega);clear hown hB hy hrw hst hba hs hhl;(go_wp2_with fail);refine HCON.out.mono ?_;rintro e w3 ⟨rfl,hb3⟩;obtain⟨hA,hN,hM,hS⟩:=aT hb3;have HB3:=zaa (HB.out.trans (hA.mono hez));have HO3:=zaa (HO.out.keep hA);have HS3:=zaa (HS.out.below hb3);clear hb3 hA f1 f2 f3 f4 f5;rcases hin:inP gone y.pre with _|_
    · have HIN:=zaa hin;obtain⟨hh,hhe⟩:∃l,y.hops=l:=⟨_,rfl⟩;have HCP:=zaa (iR y _ w3 HS3.out (by have:=HHL.out;omega));rw[hhe]at HCP hN⊢;clear hin hhe;(go_wp2_with fail);refine HCP.out.mono ?_;rintro e w4 ⟨v4,rfl,ho4,hb4⟩;have HO4:=zaa (HO3.out.keep hb4);have HB4:=zaa (HB3.out.trans (hb4.mono HB3.out.size));have HH4:=zaa ho4.slC;have HKS:=zaa (show∀k,(k<w4.heap.size/\w3.heap.size<=k)->k<w4.heap.size/\u9.ownBlock≠some k/\w.heap.size<=k from fun k hk=>⟨hk.1,fun e=>by have:=(HO3.out.base_le _ e).2;omega,zax HB3.out.size hk.2⟩);have HFL:=zaa (show((xs.take k).filter fun r=> !inP gone r.pre).length<=1000000 by have:=pj (fun r=> !inP gone r.pre) xs k;omega);clear ho4 hb4 hN hM;(go_wp2_with (at_builtin;refine gX (Z:=w.heap.size) (w:=w4) (base:=w.heap.size) (r:=y) rfl (.tmp 33) (.tmp 36) rfl HO4.out HH4.out HRW.out HKS.out rfl rfl (by first|rfl|simp) HFL.out ?_;intro v5 w5 ho5 hg5));(go_roundw);case rel=>
       refine⟨k+1,by omega,by go_num,?_,(HB4.out.alloc HB4.out.size _).grown hg5.grown (by simp;have:=HB4.out.size;omega) (fun q e=>(HO4.out.base_le q e).1)⟩;rw[HSET.out,if_neg (by rw[HIN.out];simp)];exact ho5
      case measure=>simp[intOf];omega
    · have HIN:=zaa hin;clear hin;(go_wp2_with fail);(go_roundw);case rel=>
       refine⟨k+1,by omega,by go_num,?_,HB3.out⟩;rw[HSET.out,if_pos HIN.out,zbM];exact HO3.out
      case measure=>simp[intOf];omega
  · (obtain rfl:k=xs.length:=by omega);rw[zaN]at hown;obtain⟨L,hL⟩:∃L,L=xs.filter fun r=> !inP gone r.pre:=⟨_,rfl⟩;rw[<-hL]at hown HP;have HLL:=zaa (show L.length<=200 by rw[hL];exact zax (zbC _ _) hxl);have HL:=zaa (show gg xs set gone=set.foldl ey L by rw[hL];rfl);have HO1:=zaa hown;clear hown hB hL HO;(go_wp2_with fail);(go_loopw [9,13,14,15,41] (fun s9 _ _ _ s41 wq=>∃k:Nat,k<=set.length/\s41= .int .i64 k/\OwR (cy w.heap.size) 130 w.heap.size wq s9 ((set.take k).foldl ey L)/\Below w.heap.size w wq) (fun _ _ _ _ s41 _=>set.length-(intOf s41).toNat));(case atStart=>exact⟨0,zap _,rfl,HO1.out,HB.out⟩);case round=>
     obtain⟨k,hk,rfl,hown,hBq⟩:=hrel;have HO:=zaa hown;have HBQ:=zaa hBq;have hezq:=hBq.size;obtain⟨A9,n9,c9,rfl⟩:=ap hown (show 0<5 by decide);obtain⟨p1,p2,p3⟩:=HP.out k;(have hpl:((set.take k).foldl ey L).length<=600:=by have:=HLL.out;rw[zat]at p3;omega);by_cases hlt:k<set.length
     · have hsuc:=wO ey L set hlt;obtain⟨M,hM⟩:∃M,M=(set.take k).foldl ey L:=⟨_,rfl⟩;rw[<-hM]at HO hown p1 p2 hpl hsuc;clear hM p3;obtain⟨b,off,rfl,hb⟩:=H2.out.at_ hlt;obtain⟨vh,f1,f2,f3,f4,f5,hs,hrw⟩:=(H2.out.below hBq).route hlt;have hfy:=HSF.out _ (zaw hlt);obtain⟨y,hy⟩:∃y,set[k]=y:=⟨_,rfl⟩;rw[hy]at f1 f2 f3 f4 hs hrw hfy hsuc;have HRW:=zaa hrw;have HSUC:=zaa hsuc;have HFY:=zaa hfy;have hba:Below wr.heap.size wr (wr.alloc (.cells #[.int .i64 y.pre.addr,.int .i64 y.pre.bits,.bool y.here,.int .i64 y.cost,vh] 130)):=(zac _ _).alloc (zab _) _;have HBS:=zaa (qa (.slice A9 n9 c9) M y.pre _ ((hown.keep hba).sl (show 0<5 by decide)).unZ p1 (fun x hx=>(p2 x hx).pre) hfy.pre (by omega));have HS:=zaa (hs.below hba);have HML:=zaa hpl;have HMS:=zaa p1;obtain⟨Ah,ch,hvh⟩:=hs.form;subst hvh;have r0:(0:Int)<=(k:Int):=zai _;(have r1:(k:Int)<(set.length:Int):=by omega);clear hown hBq hy hrw hsuc hba hs hfy p1 p2 hpl;(go_wp2_with fail);refine HBS.out.mono ?_;rintro e w3 ⟨rfl,hb3⟩;obtain⟨hA,hN,hM,hS⟩:=aT hb3;have HB3:=zaa (HBQ.out.trans (hA.mono hezq));have HO3:=zaa (HO.out.keep hA);have HS3:=zaa (HS.out.below hb3);have HCP:=zaa (iR y _ w3 HS3.out (by have:=HFY.out.len;omega));obtain⟨hh,hhe⟩:∃l,y.hops=l:=⟨_,rfl⟩;have HHE:=zaa hhe;rw[hhe]at HCP hN⊢;clear hb3 hA f1 f2 f3 f4 f5 hhe;rcases hin:fM M y.pre with _|_
       · have HAD:=zaa (xV HMS.out hin);have hlb:=AK (fun x:af=>ak x.pre y.pre) M;clear hin;(go_wp2_with fail);refine HCP.out.mono ?_;rintro e w4 ⟨v4,rfl,ho4,hb4⟩;obtain⟨A4,n4,c4,rfl⟩:=ap ho4 (by decide);have HO4:=zaa (HO3.out.keep hb4);have HB4:=zaa (HB3.out.trans (hb4.mono HB3.out.size));have hal:=(zac w4.heap.size w4).alloc (zab _) (.cells #[.int .i64 y.pre.addr,.int .i64 y.pre.bits,.bool y.here,.int .i64 y.cost,.slice A4 n4 c4] 130);have hh4:=SlR.keep (w':=w4.alloc (.cells #[.int .i64 y.pre.addr,.int .i64 y.pre.bits,.bool y.here,.int .i64 y.cost,.slice A4 n4 c4] 130)) (S':=fun q=>(q<(w4.alloc (.cells #[.int .i64 y.pre.addr,.int .i64 y.pre.bits,.bool y.here,.int .i64 y.cost,.slice A4 n4 c4] 130)).heap.size/\(Value.slice A9 n9 c9).ownBlock≠some q)/\w.heap.size<=q) ho4.slC (fun q hq=>zbf _ _ _ hq.1) (fun q hq=>⟨⟨by simp;omega,fun e=>by have h5:=(HO3.out.base_le _ e).2;have h6:w3.heap.size<=q:=hq.2;omega⟩,zax HB3.out.size hq.2⟩);have HIN:=zaa (mb (.slice A9 n9 c9) M y (.slice A4 n4 c4) (lbP M y.pre) _ w4.heap.size w.heap.size w.heap.size (HO4.out.keep hal) hlb (by have:=HML.out;omega) (heap_alloc_new w4 _) (fun e=>by have:=(HO4.out.base_le _ e).2;omega) hh4 HRW.out);have HBA:=zaa (HB4.out.trans (hal.mono HB4.out.size));have HOA:=zaa (HO4.out.keep hal);clear ho4 hb4 hN hM hal hh4 hlb;(go_wp2_with fail);refine HIN.out.mono ?_;rintro e w5 ⟨v5,rfl,ho5,hg5⟩;have HO5:=zaa ho5;have HB5:=zaa (mM HBA.out HOA.out hg5);clear ho5 hg5;(go_wp2_with fail);(go_roundw);(case rel=>exact⟨k+1,by omega,by go_num,by rw[HSUC.out,HAD.out];exact HO5.out,HB5.out⟩);case measure=>simp[intOf];omega
       · obtain⟨hil,hadd⟩:=tG HMS.out hin;have HAD:=zaa hadd;obtain⟨i,hi⟩:∃i,i=lbP M y.pre:=⟨_,rfl⟩;rw[<-hi]at hil HAD⊢;clear hin hadd hi;(go_wp2_with fail);refine HCP.out.mono ?_;rintro e w4 ⟨v4,rfl,ho4,hb4⟩;obtain⟨A4,n4,c4,rfl⟩:=ap ho4 (by decide);have HO4:=zaa (HO3.out.keep hb4);have HB4:=zaa (HB3.out.trans (hb4.mono HB3.out.size));have hh4:=ho4.slC;(have hn9:n9=M.length:=by obtain⟨A,c,e⟩:=HO4.out.form;injection e);subst hn9;obtain⟨g,hgA,hgo,hgw,hfz⟩:∃g,A9=some ⟨g,0,none⟩/\w.heap.size<=g/\g<w3.heap.size/\(∀j,w4.frozen? ⟨g,j,none⟩=false):=by
          obtain⟨css,d1,_,d3,_⟩:=HO4.out;rcases d3.2 with⟨_,h0⟩|⟨g,cap,cur,e,hbg,hgc,_⟩
          · omega
          · injection e with e1 _ _;subst e1;exact⟨g,rfl,hbg,(HO3.out.base_le g rfl).2,fun j=>d3.frozenAt j⟩
         subst hgA;obtain⟨vx,g1,g2,g3,g4,g5,_⟩:=(HO4.out.sl (show 0<5 by decide)).unZ.route hil;simp only[zbb]at g1 g2 g3 g4 g5;have HRT:=zaa (OwR.setRouteZ (w:=w4) (y:=y) (vy:= .slice A4 n4 c4) HO4.out hil (SlR.keep (S':=fun q=>q<w4.heap.size/\q≠g/\w.heap.size<=q) hh4 (fun _ _=>rfl) (fun q hq=>⟨hq.1,fun e=>by have h6:w3.heap.size<=q:=hq.2;omega,zax HB3.out.size hq.2⟩)) HRW.out);have HG5:=zaa (mM HB4.out HO4.out (BW w4 (v:= .slice (some ⟨g,0,none⟩) M.length c9) rfl (i*5) (i*5+1) (i*5+2) (i*5+3) (i*5+4) (.int .i64 y.pre.addr) (.int .i64 y.pre.bits) (.bool y.here) (.int .i64 y.cost) (.slice A4 n4 c4)));(have hii:(i:Int)<(M.length:Int):=by omega);have hi0:(0:Int)<=(i:Int):=zai i;clear ho4 hb4 hN hM hh4;(go_wp2_with fail);(go_roundw);(case rel=>exact⟨k+1,by omega,by go_num,by rw[HSUC.out,HAD.out];exact HRT.out,HG5.out⟩);case measure=>simp[intOf];omega
     · (obtain rfl:k=set.length:=by omega);rw[zaN,<-HL.out]at hown;have HS9:=zaa (hown.slZ (zab _));have HCH:=zaa (eS (.slice A9 n9 c9) (gg xs set gone) wr HS9.out.sl);obtain⟨M,hM⟩:∃M,M=gg xs set gone:=⟨_,rfl⟩;have HM:=zaa hM;rw[<-hM]at HS9 HCH;clear hown hBq p1 p2 p3 hpl hM HO HP;(go_wp2_with fail);refine HCH.out.mono ?_;rintro e w5 ⟨rfl,hb5⟩;have HB5:=zaa (HBQ.out.trans (hb5.mono hezq));have HS5:=zaa (HS9.out.below hb5);clear hb5;by_cases hck:ah M=0
       · (have hckb:(ah M !=0)=false:=by rw[hck];rfl);have HK:=zaa hck;clear hck;(go_wp2_with fail);(go_ret2);exact⟨.slice A9 n9 c9,by rw[<-HM.out,HK.out];rfl,by unfold se;rw[<-HM.out,if_pos HK.out];exact HS5.out,HB5.out⟩
       · (have hckb:(ah M !=0)=true:=by simpa using hck);have HK:=zaa hck;clear hck;(go_wp2_with fail);(go_ret2);exact⟨.slice none 0 0,by rw[<-HM.out];rfl,by unfold se;rw[<-HM.out,if_neg HK.out];exact SlF.nil _ _ _,HB5.out⟩
end Go.Proofs.YtojojpjldkpmoaaGreatDoor
