/-
  
-/
import Derived.Test.YtojojpjldkpmoaaGreatDoorGTbC
set_option linter.unusedVariables false
set_option linter.unusedSimpArgs false
set_option maxHeartbeats 16000000
set_option maxRecDepth 100000
namespace Go.Proofs.YtojojpjldkpmoaaGreatDoor
section
open Go Go.RowKit Go.Deep
theorem qW{k:Nat}:∀{css:List (List Value)} {i j:Nat} {u:Value},(∀x∈css,hJ k x)->(hi:i<css.length)->j<k->(css.set i (css[i].set j u)).flatten=css.flatten.set (i*k+j) u
 | [],_,_,_,_,hi,_=>by simp at hi
 | a::css,0,j,u,h,_,hj=>by
   have ha:=(h a (by simp)).1;simp only[zan,zaf,zaU,Nat.zero_mul,zbb];rw[List.set_append_left _ _ (by omega)]
 | a::css,i+1,j,u,h,hi,hj=>by
   have ha:=(h a (by simp)).1;simp only[zam,zag,zaU];rw[qW (css:=css) (fun x hx=>h x (by simp[hx])) (by simpa using hi) hj,List.set_append_right _ _ (by rw[zco];omega)];congr 2;rw[zco];omega
theorem Bk{k:Nat}{x:List Value}(h:hJ k x)(j:Nat){u:Value}(hu:u.oneCell'=true):hJ k (x.set j u):=by
 refine⟨by rw[zbL];exact h.1,fun v hv=> ?_⟩;rcases zcx hv with e|e
 · exact h.2 v e
 · rw[e];exact hu
theorem OwR.setRaw{k:Nat}{E base:Nat}{w:World}{g n cap:Nat}{css:List (List Value)}(h:OwR (jz k) E base w (.slice (some ⟨g,0,none⟩) n cap) css){i j:Nat}(hi:i<css.length)(hj:j<k){u:Value}(hu:u.oneCell'=true):
  OwR (jz k) E base (w.setCell ⟨g,i*k+j,none⟩ u) (.slice (some ⟨g,0,none⟩) n cap) (css.set i (css[i].set j u)):=by
 obtain⟨h1,h2,h3⟩:=OwR.to_raw h;have hn:n=css.length:=by
  rcases h1.2 with⟨e,_⟩|⟨g',cap',cur,e,_⟩
  · cases e
  · injection e
 subst hn;obtain⟨s1,k1⟩:=h1.stored (i*k+j) u;refine OwR.of_raw ?_ ?_ (zax h3 k1.size)
 · rw[zbL,qW h2 hi hj];exact s1
 · intro x hx;rcases zcx hx with e|e
   · exact h2 x e
   · rw[e];exact Bk (h2 _ (zaw hi)) j hu
theorem uw(a b c d e p q r s t:Value):((((([a,b,c,d,e].set 0 p).set 1 q).set 2 r).set 3 s).set 4 t)=[p,q,r,s,t]:=rfl
theorem OwR.setRoute{base:Nat}{w:World}{g n cap:Nat}{xs:List af}(h:OwR aB 130 base w (.slice (some ⟨g,0,none⟩) n cap) xs){i:Nat}(hi:i<xs.length){y:af}{vy:Value}
  (hy:SlR aI w (fun k=>k<w.heap.size/\k≠g) vy y.hops) (hw:y.wf):
  OwR aB 130 base (((((w.setCell ⟨g,i*5,none⟩ (.int .i64 y.pre.addr)).setCell ⟨g,i*5+1,none⟩ (.int .i64 y.pre.bits)).setCell ⟨g,i*5+2,none⟩ (.bool y.here)).setCell ⟨g,i*5+3,none⟩ (.int .i64 y.cost)).setCell ⟨g,i*5+4,none⟩ vy) (.slice (some ⟨g,0,none⟩) n cap) (xs.set i y):=by
 obtain⟨css,c1,c2,c3⟩:=h.css;have hvy:vy.oneCell'=true:=by obtain⟨A,c,rfl,_⟩:=hy;rfl
 have hi':i<css.length:=by omega
 have s0:=c3.setRaw (i:=i) (j:=0) hi' (by decide) (u:= .int .i64 y.pre.addr) rfl;have s1:=s0.setRaw (i:=i) (j:=1) (by simpa using hi') (by decide) (u:= .int .i64 y.pre.bits) rfl;have s2:=s1.setRaw (i:=i) (j:=2) (by simpa using hi') (by decide) (u:= .bool y.here) rfl;have s3:=s2.setRaw (i:=i) (j:=3) (by simpa using hi') (by decide) (u:= .int .i64 y.cost) rfl;have s4:=s3.setRaw (i:=i) (j:=4) (by simpa using hi') (by decide) (u:=vy) hvy;obtain⟨_,r2,_⟩:=OwR.to_raw c3;obtain⟨a,b,c,d,e,hc⟩:∃a b c d e,css[i]=[a,b,c,d,e]:=by
  have:=(r2 _ (zaw hi')).1
  match css[i],this with
  | [a,b,c,d,e],_=>exact⟨a,b,c,d,e,rfl⟩
 simp only[List.set_set,List.getElem_set_self,hc,uw,zbH]at s4;have hblk:∀k,k≠g->(((((w.setCell ⟨g,i*5,none⟩ (.int .i64 y.pre.addr)).setCell ⟨g,i*5+1,none⟩ (.int .i64 y.pre.bits)).setCell ⟨g,i*5+2,none⟩ (.bool y.here)).setCell ⟨g,i*5+3,none⟩ (.int .i64 y.cost)).setCell ⟨g,i*5+4,none⟩ vy).heap[k]? =w.heap[k]? :=by
  intro k hk;rw[zao _ _ _ _ (by exact hk),zao _ _ _ _ (by exact hk),zao _ _ _ _ (by exact hk),zao _ _ _ _ (by exact hk),zao _ _ _ _ (by exact hk)]
 refine OwR.of_css (css:=css.set i [.int .i64 y.pre.addr,.int .i64 y.pre.bits,.bool y.here,.int .i64 y.cost,vy]) (by simp[c1]) (fun m cs x hcs hx=> ?_) s4;have hsz:(((((w.setCell ⟨g,i*5,none⟩ (.int .i64 y.pre.addr)).setCell ⟨g,i*5+1,none⟩ (.int .i64 y.pre.bits)).setCell ⟨g,i*5+2,none⟩ (.bool y.here)).setCell ⟨g,i*5+3,none⟩ (.int .i64 y.cost)).setCell ⟨g,i*5+4,none⟩ vy).heap.size=w.heap.size:=by simp[World.setCell]
 by_cases e:m=i
 · subst e;rw[zbs (by omega)]at hcs hx;injection hcs with hcs;injection hx with hx;subst hcs hx;exact⟨vy,rfl,SlR.keep hy (fun k hk=>hblk k hk.2) (fun k hk=>⟨by rw[hsz];exact hk.1,fun e=>by have e2:g=k:=Option.some.inj e;exact hk.2 e2.symm⟩),hw⟩
 · rw[zaF (fun x=>e x.symm)]at hcs hx;exact aB.keep (c2 m cs x hcs hx) (fun k hk=>hblk k (fun e2=>hk.2 (by rw[e2];rfl))) (fun k hk=>⟨by rw[hsz];exact hk.1,hk.2⟩)
theorem OwR.setHops{base:Nat}{w:World}{g n cap:Nat}{xs:List af}(h:OwR aB 130 base w (.slice (some ⟨g,0,none⟩) n cap) xs){i:Nat}(hi:i<xs.length){l:List Int}{vy:Value}
  (hy:SlR aI w (fun k=>k<w.heap.size/\k≠g) vy l):
  OwR aB 130 base (w.setCell ⟨g,i*5+4,none⟩ vy) (.slice (some ⟨g,0,none⟩) n cap) (xs.set i {xs[i]with hops:=l}):=by
 obtain⟨css,c1,c2,c3⟩:=h.css;have hvy:vy.oneCell'=true:=by obtain⟨A,c,rfl,_⟩:=hy;rfl
 have hi':i<css.length:=by omega
 have s4:=c3.setRaw (i:=i) (j:=4) hi' (by decide) (u:=vy) hvy;obtain⟨v0,hc,_,hwf⟩:=c2 i css[i] xs[i] (zad hi') (zad hi);have hset:css[i].set 4 vy=({xs[i]with hops:=l}:af).cells vy:=by rw[hc];rfl
 rw[hset]at s4;refine OwR.of_css (by simp[c1]) (fun m cs x hcs hx=> ?_) s4;have hsz:(w.setCell ⟨g,i*5+4,none⟩ vy).heap.size=w.heap.size:=by simp[World.setCell]
 have hblk:∀k,k≠g->(w.setCell ⟨g,i*5+4,none⟩ vy).heap[k]? =w.heap[k]? :=fun k hk=>zao _ _ _ _ (by exact hk);by_cases e:m=i
 · subst e;rw[zbs (by omega)]at hcs hx;injection hcs with hcs;injection hx with hx;subst hcs hx;exact⟨vy,rfl,SlR.keep hy (fun k hk=>hblk k hk.2) (fun k hk=>⟨by rw[hsz];exact hk.1,fun e=>by have e2:g=k:=Option.some.inj e;exact hk.2 e2.symm⟩),hwf⟩
 · rw[zaF (fun x=>e x.symm)]at hcs hx;exact aB.keep (c2 m cs x hcs hx) (fun k hk=>hblk k (fun e2=>hk.2 (by rw[e2];rfl))) (fun k hk=>⟨by rw[hsz];exact hk.1,hk.2⟩)
theorem mV(v:Value)(xs:List af)(y:af)(vy:Value)(i:Nat)(w:World)(vb base:Nat)(h:OwR aB 130 base w v xs)(hi:i<=xs.length)(hl:xs.length<=1000)
  (hvb:w.heap[vb]? =some (.cells (y.cells vy).toArray 130 (0,0))) (hne:v.ownBlock≠some vb) (hy:SlR aI w (fun k=>k<w.heap.size/\v.ownBlock≠some k) vy y.hops) (hw:y.wf):
  Calls Tryz.prog 123 #[v,.int .i64 (i:Nat),.slice (some ⟨vb,0,none⟩) 1 1] w fun e w'=>∃v',e= .returned v'/\OwR aB 130 base w' v' (xs.take i++y::xs.drop i)/\al w v w' v':=by
 obtain⟨css,c1,c2,c3⟩:=h.css;have hvy:vy.oneCell'=true:=by obtain⟨A,c,rfl,_⟩:=hy;rfl
 have hraw:hJ 5 (y.cells vy):=⟨rfl,fun u hu=>by
  simp[af.cells]at hu;rcases hu with rfl|rfl|rfl|rfl|rfl
  · rfl
  · rfl
  · rfl
  · rfl
  · exact hvy⟩
 refine(mA v css (y.cells vy) i w vb base c3 (by omega) (by omega) hvb hne hraw).mono ?_;rintro e w' ⟨v',rfl,ho,hg⟩;refine⟨v',rfl,OwR.of_css (by simp[c1]) (fun m cs x hcs hx=> ?_) ho,hg⟩;have hblk:∀k,(k<w.heap.size/\v.ownBlock≠some k)->w'.heap[k]? =w.heap[k]? :=fun k hk=>hg.grown.block k hk.1 (fun e=>hk.2 e.symm);have hsub:∀k,(k<w.heap.size/\v.ownBlock≠some k)->(k<w'.heap.size/\v'.ownBlock≠some k):=fun k hk=>
  ⟨zas hk.1 hg.grown.size,fun e=>by
   rcases hg.own k e with h1|h1
   · exact hk.2 h1
   · omega⟩
 by_cases h1:m<i
 · rw[zbi (by rw[zat];omega),zbo,if_pos h1]at hcs hx;exact aB.keep (c2 m cs x hcs hx) hblk hsub
 · rw[zba (by rw[zat];omega),zat,Nat.min_eq_left (by omega)]at hcs hx;by_cases h2:m=i
   · subst h2;rw[Nat.sub_self]at hcs hx;simp at hcs hx;subst hcs hx;exact⟨vy,rfl,SlR.keep hy hblk hsub,hw⟩
   · obtain⟨q,hq⟩:∃q,m-i=q+1:=⟨m-i-1,by omega⟩;rw[hq,zaA,zbI]at hcs hx;exact aB.keep (c2 _ cs x hcs hx) hblk hsub
theorem dG.wf{r:af}(h:dG r):r.wf:=by
 have:=eH h.pre;have:=h.c0;have:=h.c1;unfold af.wf inR;omega
theorem dG.len{r:af}(h:dG r):r.hops.length<=12:=by
 have:=h.canon;unfold gJ at this;rw[<-this];exact zax (zbC _ _) (by decide)
def DN(base:Nat)(w:World)(v:Value)(ys:List af)(e:Ending)(w':World):Prop:=
 ∃v',e= .returned v'/\OwR aB 130 base w' v' ys/\al w v w' v'
theorem al.set(w:World){v:Value}{g:Nat}(hv:v.ownBlock=some g)(o:Nat)(u:Value):al w v (w.setCell ⟨g,o,none⟩ u) v:=⟨by rw[hv];exact kf w ⟨g,o,none⟩ u,fun _ h=> .inl h⟩
theorem BW(w:World){v:Value}{g:Nat}(hv:v.ownBlock=some g)(a b c d e:Nat)(p q r s t:Value):al w v (((((w.setCell ⟨g,a,none⟩ p).setCell ⟨g,b,none⟩ q).setCell ⟨g,c,none⟩ r).setCell ⟨g,d,none⟩ s).setCell ⟨g,e,none⟩ t) v:=
 ((((al.set w hv a p).trans (al.set _ hv b q)).trans (al.set _ hv c r)).trans (al.set _ hv d s)).trans (al.set _ hv e t)
theorem yG(v:Value)(xs:List af)(r:af)(vh:Value)(base:Nat)(w:World)(h:OwR aB 130 base w v xs)(hs:aE xs)(hg:∀x∈xs,dG x)(hr:dG r)
  (hh:SlR aI w (fun k=>k<w.heap.size/\v.ownBlock≠some k) vh r.hops) (hl:xs.length<=1000):
  Calls Tryz.prog 111 #[v,r.agg vh] w (DN base w v (fA xs r)):=by
 obtain⟨A,c,rfl⟩:=h.form;obtain⟨Av,nv,cv,rfl⟩:∃A n c,vh= .slice A n c:=by obtain⟨A,c,e,_⟩:=hh;exact⟨A,_,c,e⟩
 have hbase:base<=w.heap.size:=h.choose_spec.2.2.2;have hal:=(zac w.heap.size w).alloc (zab _) (.cells #[.int .i64 r.pre.addr,.int .i64 r.pre.bits,.bool r.here,.int .i64 r.cost,.slice Av nv cv] 130);have ho1:=h.keep hal;have hbs:=qb _ xs r.pre _ (ho1.sl (by decide)) hs (fun x hx=>(hg x hx).pre) hr.pre (by omega);have HBS:=zaa hbs;have HAL:=zaa hal;have HO:=zaa h;have HS:=zaa hs;have HG:=zaa hg;have HR:=zaa hr;have HH:=zaa hh;clear h hs hg hr hh hal ho1 hbs;unfold af.agg;rcases hp:fM xs r.pre with _|_
 · rw[hp]at HBS;have HP:=zaa hp;clear hp;(go_enter Tryz.func111,Tryz.ntmps111);(go_wp2_with fail);refine HBS.out.mono ?_;rintro e w1 ⟨rfl,hb1⟩;obtain⟨hA,hN,hM,hSZ⟩:=aT hb1;have b0:=hN 0;have b1:=hN 1;have b2:=hN 2;have b3:=hN 3;have b4:=hN 4;simp only[zaB,zaC,zaA]at b0 b1 b2 b3 b4;have HA:=zaa hA;have HO1:=zaa (HO.out.keep hA);have HH1:=zaa (SlR.keep (S':=fun k=>k<w1.heap.size/\(Value.slice A xs.length c).ownBlock≠some k) HH.out (fun k hk=>hA.block k hk.1) (fun k hk=>⟨zas hk.1 hA.size,hk.2⟩));have HG1:=zaa (al.of_below hA (Value.slice A xs.length c));clear hb1 hN hM hSZ hA;(go_wp2_with fail);have hal2:=(zac w1.heap.size w1).alloc (zab _) (.cells #[.int .i64 r.pre.addr,.int .i64 r.pre.bits,.bool r.here,.int .i64 r.cost,.slice Av nv cv] 130);have HIN:=zaa (mV _ xs r (.slice Av nv cv) (lbP xs r.pre) _ w1.heap.size base (HO1.out.keep hal2) (AK _ xs) hl (heap_alloc_new w1 _) (fun e=>by have:=(HO1.out.base_le _ e).2;omega) (SlR.keep (S':=fun k=>k<(w1.alloc (.cells #[.int .i64 r.pre.addr,.int .i64 r.pre.bits,.bool r.here,.int .i64 r.cost,.slice Av nv cv] 130)).heap.size/\(Value.slice A xs.length c).ownBlock≠some k) HH1.out (fun k hk=>hal2.block k hk.1) (fun k hk=>⟨zas hk.1 hal2.size,hk.2⟩)) HR.out.wf);have HG2:=zaa (HG1.out.trans (al.of_below hal2 (Value.slice A xs.length c)));have HAD:=zaa (yH HS.out HP.out);clear hal2 b0 b1 b2 b3 b4;refine HIN.out.mono ?_;rintro e w3 ⟨v3,rfl,ho3,hg3⟩;have HO3:=zaa ho3;have HG3:=zaa hg3;clear ho3 hg3;(go_wp2_with fail);(go_ret);exact⟨v3,rfl,by rw[HAD.out];exact HO3.out,HG2.out.trans HG3.out⟩
 · rw[hp]at HBS;obtain⟨hlt,hpre,hadd⟩:=vf HS.out hp;obtain⟨i,hi⟩:∃i,i=lbP xs r.pre:=⟨_,rfl⟩;simp only[<-hi]at hlt hpre hadd;rw[<-hi]at HBS;obtain⟨x,hx⟩:∃x,x=xs[i]:=⟨_,rfl⟩;rw[<-hx]at hpre hadd;have HX:=zaa hx;have HPR:=zaa hpre;have HAD:=zaa hadd;have HGX:=zaa (show dG x by rw[hx];exact HG.out _ (zaw hlt));clear hp hpre hadd hx hi;(go_enter Tryz.func111,Tryz.ntmps111);(go_wp2_with fail);refine HBS.out.mono ?_;rintro e w1 ⟨rfl,hb1⟩;obtain⟨hA,hN,hM,hSZ⟩:=aT hb1;have b0:=hN 0;have b1:=hN 1;have b2:=hN 2;have b3:=hN 3;have b4:=hN 4;simp only[zaB,zaC,zaA]at b0 b1 b2 b3 b4;have HO1:=zaa (HO.out.keep hA);have HH1:=zaa (SlR.keep (S':=fun k=>k<w1.heap.size/\(Value.slice A xs.length c).ownBlock≠some k) HH.out (fun k hk=>hA.block k hk.1) (fun k hk=>⟨zas hk.1 hA.size,hk.2⟩));have HG1:=zaa (al.of_below hA (Value.slice A xs.length c));have hsl:=HO1.out.sl (by decide);have HBW:=zaa hSZ;clear hb1 hN hM hSZ hA HBS;obtain⟨g,hgA,hown,hgw,hfz⟩:∃g,A=some ⟨g,0,none⟩/\base<=g/\g<w1.heap.size/\(∀j,w1.frozen? ⟨g,j,none⟩=false):=by
    obtain⟨css,c1,_,c3,_⟩:=HO1.out;rcases c3.2 with⟨_,h0⟩|⟨g,cap,cur,e,hbg,hgc,_⟩
    · omega
    · injection e with e1 _ _;subst e1;exact⟨g,rfl,hbg,(c3.lt g rfl).2,fun j=>c3.frozenAt j⟩
   subst hgA;obtain⟨vx,f1,f2,f3,f4,f5,hs5,_⟩:=hsl.route hlt;rw[<-HX.out]at f1 f2 f3 f4 hs5;have HS5:=zaa hs5;(have hii:(i:Int)<(xs.length:Int):=by omega);have hi0:(0:Int)<=(i:Int):=zai i;simp only[zbb]at f1 f2 f3 f4 f5;clear hsl hs5;rcases hrh:r.here with _|_
   · rw[hrh]at b2;have HRH:=zaa hrh;rcases hxh:x.here with _|_
     · rw[hxh]at f3;by_cases hc1:r.cost<x.cost
       · have HU:=zaa (show fT x r=r by unfold fT;rw[hrh,hxh,if_pos (by simp[hc1])]);clear hrh hxh;(go_wp2_with fail);(go_quiet (fail));obtain⟨q1,rfl⟩:∃m,m=nq:=⟨nq,rfl⟩;have HRT:=zaa (OwR.setRoute (w:=w1.drewN q1) (y:=r) (vy:= .slice Av nv cv) (HO1.out.keep (ag (zac w1.heap.size w1) q1)) hlt (SlR.keep HH1.out (fun _ _=>rfl) (fun k hk=>⟨hk.1,fun e=>hk.2 (by rw[e];rfl)⟩)) HR.out.wf);rw[HRH.out]at HRT;(go_wp2_with fail);(go_ret);exact⟨_,rfl,by rw[HAD.out,HU.out];exact HRT.out,(HG1.out.trans (al.of_below (ag (zac w1.heap.size w1) q1) _)).trans (BW _ rfl _ _ _ _ _ _ _ _ _ _)⟩
       · by_cases hc2:r.cost=x.cost
         · have HU:=zaa (show fT x r={x with hops:=iX x.hops r.hops}by unfold fT;rw[hrh,hxh,if_neg (by simp[hc1]),if_pos (by simp[hc2])]);clear hrh hxh;have hlb:=HR.out.len;have hlx:=HGX.out.len;have HJ:=zaa (fun w' (hb:Below w1.heap.size w1 w')=>wE vx (.slice Av nv cv) x.hops r.hops w' (HS5.out.below hb) (SlR.keep (S':=fun k=>k<w'.heap.size) HH1.out (fun k hk=>hb.block k hk.1) (fun k hk=>zas hk.1 hb.size)) (lE HGX.out.canon) (lE HR.out.canon) (by omega) (by omega));clear hlb hlx;(go_wp2_with fail);(go_quiet (fail));obtain⟨q1,rfl⟩:∃m,m=nq:=⟨nq,rfl⟩;(go_wp2_with fail);(go_quiet (fail));obtain⟨q2,rfl⟩:∃m,m=nq:=⟨nq,rfl⟩;have hbq:=ag (ag (zac w1.heap.size w1) q1) q2;have f5':=aa hbq f5;have b4':=aa hbq b4;have HBQ:=zaa hbq;have HFZ:=zaa hfz;have hgz:g<((w1.drewN q1).drewN q2).heap.size:=hgw;generalize (w1.drewN q1).drewN q2=W2 at HBQ f5' b4' hgz⊢;have HGZ:=zaa hgz;have HGW:=zaa hgw;clear hbq f1 f2 f3 f4 f5 b0 b1 b2 b3 b4 hfz hgz hgw;(go_wp2_with fail);(go_region_with (go_at_call 153;refine(HJ.out _ HBQ.out.drew).mono ?_;rintro e w4 ⟨v4,rfl,ho4,hb4⟩;obtain⟨A4,n4,c4,rfl⟩:=ap ho4 (by decide);have HB4:=zaa (HBQ.out.drew.trans (hb4.mono HBQ.out.size));have z1:=(bAt HB4.out HGW.out (i*5+4)).trans (by first|exact f5|exact(bAt HBQ.out HGW.out (i*5+4)).symm.trans f5');have z2:=(bFz HB4.out HGW.out (i*5+4)).trans (HFZ.out _);have HO4:=zaa ho4;have HZ4:=zaa (show W2.heap.size<=W2.drew.heap.size from zab _);clear hb4 ho4));all_goals
            have hsh:=SlR.keep (S':=fun k=>k<w4.heap.size/\k≠g) HO4.out.slF (fun _ _=>rfl) (fun k hk=>⟨hk.1,by have h1:=hk.2;have h2:=HZ4.out;have h3:=HGZ.out;omega⟩);have HRT:=zaa ((HO1.out.keep HB4.out).setHops hlt hsh);rw[<-HX.out]at HRT;clear hsh;(go_wp2_with fail);(go_ret);exact⟨_,rfl,by rw[HAD.out,HU.out];exact HRT.out,(HG1.out.trans (al.of_below HB4.out _)).trans (al.set _ rfl _ _)⟩
         · (have hcb:(r.cost==x.cost)=false:=by rw[beq_eq_false_iff_ne];exact hc2);have HU:=zaa (show fT x r=x by unfold fT;rw[hrh,hxh,if_neg (by simp;omega),if_neg (by simp[hc2])]);clear hrh hxh;have HFX:=zaa (show xs.set i (fT x r)=xs by rw[HU.out,HX.out];exact List.set_getElem_self hlt);(go_wp2_with fail);(go_quiet (fail));obtain⟨q1,rfl⟩:∃m,m=nq:=⟨nq,rfl⟩;(go_wp2_with fail);(go_quiet (fail));obtain⟨q2,rfl⟩:∃m,m=nq:=⟨nq,rfl⟩;(go_wp2_with fail);(go_ret);exact⟨_,rfl,by rw[HAD.out,HFX.out];exact HO1.out.keep (ag (ag (zac w1.heap.size w1) q1) q2),HG1.out.trans (al.of_below (ag (ag (zac w1.heap.size w1) q1) q2) _)⟩
     · rw[hxh]at f3;have HU:=zaa (show fT x r=x by unfold fT;rw[hrh,hxh,if_neg (by simp),if_neg (by simp)]);clear hrh hxh;have HFX:=zaa (show xs.set i (fT x r)=xs by rw[HU.out,HX.out];exact List.set_getElem_self hlt);(go_wp2_with fail);(go_quiet (fail));obtain⟨q1,rfl⟩:∃m,m=nq:=⟨nq,rfl⟩;(go_wp2_with fail);(go_quiet (fail));obtain⟨q2,rfl⟩:∃m,m=nq:=⟨nq,rfl⟩;(go_wp2_with fail);(go_ret);exact⟨_,rfl,by rw[HAD.out,HFX.out];exact HO1.out.keep (ag (ag (zac w1.heap.size w1) q1) q2),HG1.out.trans (al.of_below (ag (ag (zac w1.heap.size w1) q1) q2) _)⟩
   · rw[hrh]at b2;have HRH:=zaa hrh;have HU:=zaa (show fT x r=r by unfold fT;rw[hrh];simp);clear hrh;(go_wp2_with fail);(go_quiet (fail));obtain⟨q1,rfl⟩:∃m,m=nq:=⟨nq,rfl⟩;have HRT:=zaa (OwR.setRoute (w:=w1.drewN q1) (y:=r) (vy:= .slice Av nv cv) (HO1.out.keep (ag (zac w1.heap.size w1) q1)) hlt (SlR.keep HH1.out (fun _ _=>rfl) (fun k hk=>⟨hk.1,fun e=>hk.2 (by rw[e];rfl)⟩)) HR.out.wf);rw[HRH.out]at HRT;(go_wp2_with fail);(go_ret);exact⟨_,rfl,by rw[HAD.out,HU.out];exact HRT.out,(HG1.out.trans (al.of_below (ag (zac w1.heap.size w1) q1) _)).trans (BW _ rfl _ _ _ _ _ _ _ _ _ _)⟩
end
end Go.Proofs.YtojojpjldkpmoaaGreatDoor
