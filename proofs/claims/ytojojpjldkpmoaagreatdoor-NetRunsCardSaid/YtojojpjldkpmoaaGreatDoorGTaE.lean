/-
  
-/
import Derived.Test.YtojojpjldkpmoaaGreatDoorGTaB
import Derived.Lib.SlicesCompact
import Derived.Test.YtojojpjldkpmoaaGreatDoorGWaF
import Derived.Test.YtojojpjldkpmoaaGreatDoorGRibC
set_option linter.unusedVariables false
set_option linter.unusedSimpArgs false
set_option maxHeartbeats 16000000
set_option maxRecDepth 100000
namespace Go.Proofs.YtojojpjldkpmoaaGreatDoor
section
open Go
theorem mL{zs:List Int}{x:Int}:x∈Lib.compact zs↔x∈zs:=by
 unfold Lib.compact Lib.compactUpTo;rw[zbR];constructor
 · rintro⟨j,hj,rfl⟩;have hl:=zbT.1 (zbu.1 hj).1;rw[getElem!_pos _ j (by simpa using hl)];exact zaw _
 · intro hx;have key:∀n j,j<n->(hj:j<zs.length)->zs[j]=x->∃i,∃hi:i<zs.length,zs[i]=x/\Lib.keeps zs.toArray i=true:=by
    intro n
    induction n with
    | zero=>intro j h;omega
    | succ n ih=>
      intro j hjn hj he;by_cases hk:Lib.keeps zs.toArray j=true
      · exact⟨j,hj,he,hk⟩
      · have h0:j≠0:=fun e=>hk (by subst e;exact Lib.keeps_lt_one _ 0 (by omega));have h1:zs.toArray[j]! =zs.toArray[j-1]! :=Classical.byContradiction fun hne=>hk (Lib.keeps_pos hne);rw[getElem!_pos _ j (by simpa using hj),getElem!_pos _ (j-1) (by simp;omega)]at h1;exact ih (j-1) (by omega) (by omega) (by rw[<-he];exact h1.symm)
   obtain⟨j,hj,he⟩:=zau hx;obtain⟨i,hi,h1,h2⟩:=key (j+1) j (by omega) hj he;refine⟨i,zbu.2 ⟨zbT.2 hi,h2⟩,?_⟩;rw[getElem!_pos _ i (by simpa using hi)];exact h1
theorem wY{zs:List Int}(hs:zs.Pairwise (·<=·)):(Lib.compact zs).Pairwise (·<·):=by
 unfold Lib.compact Lib.compactUpTo;rw[List.pairwise_map];have hr:(List.range zs.length).Pairwise (·<·):=List.pairwise_lt_range;have hp:=List.Pairwise.filter (Lib.keeps zs.toArray) hr;refine List.Pairwise.imp_of_mem ?_ hp;intro i j hi hj hij;have hjl:=zbT.1 (zbu.1 hj).1;have hk:=(zbu.1 hj).2;rw[getElem!_pos _ i (by simp;omega),getElem!_pos _ j (by simpa using hjl)];have hne:zs[j]≠zs[j-1]'(by omega):=by
  intro e;have hf:=Lib.keeps_neg (d:=zs.toArray) (m:=j) (by omega) (by rw[getElem!_pos _ j (by simpa using hjl),getElem!_pos _ (j-1) (by simp;omega)];exact e);rw[hf]at hk;cases hk
 have h1:zs[j-1]'(by omega)<=zs[j]:=zaR.1 hs (j-1) j (by omega) hjl (by omega);have h2:zs[i]'(by omega)<=zs[j-1]'(by omega):=by
  by_cases e:i=j-1
  · subst e;exact zbZ _
  · exact zaR.1 hs i (j-1) (by omega) (by omega) (by omega)
 show zs[i]'(by omega)<zs[j];omega
theorem nO:∀{l m:List Int},l.Pairwise (·<·)->m.Pairwise (·<·)->(∀x,x∈l↔x∈m)->l=m
 | [],[],_,_,_=>rfl
 | [],y::m,_,_,h=>by have:=(h y).2 (by simp);cases this
 | x::l,[],_,_,h=>by have:=(h x).1 (by simp);cases this
 | x::l,y::m,hl,hm,h=>by
   obtain⟨h1,h2⟩:=zaP.1 hl;obtain⟨g1,g2⟩:=zaP.1 hm;have hxy:x=y:=by
    rcases zaS.1 ((h x).1 (by simp))with e|e
    · exact e
    · rcases zaS.1 ((h y).2 (by simp))with e2|e2
      · exact e2.symm
      · have:=g1 x e;have:=h1 y e2;omega
   subst hxy;have:l=m:=nO h2 g2 (fun z=>by
    have hz:=h z;rw[zaS,zaS]at hz;constructor
    · intro hl;rcases hz.1 (.inr hl)with e|e
      · have:=h1 z hl;omega
      · exact e
    · intro hm;rcases hz.2 (.inr hm)with e|e
      · have:=g1 z hm;omega
      · exact e)
   rw[this]
theorem oN:dz.Pairwise (·<·):=by decide
theorem jo{k:Int}:k∈dz↔0<=k/\k<=11:=by
 unfold dz;rw[zbR];constructor
 · rintro⟨n,hn,rfl⟩;have:=zbT.1 hn;omega
 · intro h;exact⟨k.toNat,zbT.2 (by omega),by omega⟩
theorem zE{a b:List Int}(ha:∀x∈a,0<=x/\x<=11)(hb:∀x∈b,0<=x/\x<=11):
  Lib.compact ((a++b).mergeSort fun x y=>decide (x<=y))=iX a b:=by
 have hs:((a++b).mergeSort fun x y=>decide (x<=y)).Pairwise (·<=·):=by
  have:=List.pairwise_mergeSort (le:=fun(x y:Int)=>decide (x<=y)) (fun x y z h1 h2=>by simp at*;omega) (fun x y=>by simp;omega) (a++b);exact this.imp (fun h=>by simpa using h)
 refine nO (wY hs) (oN.filter _) (fun x=> ?_);unfold iX;rw[mL,List.mem_mergeSort,zbd,zbu,jo];simp only[Bool.or_eq_true,zcq];constructor
 · rintro(h|h)
   · exact⟨ha x h,.inl h⟩
   · exact⟨hb x h,.inr h⟩
 · rintro⟨_,h|h⟩
   · exact .inl h
   · exact .inr h
theorem lE{l:List Int}(h:gJ l):∀x∈l,0<=x/\x<=11:=by
 intro x hx;rw[<-h]at hx;exact jo.1 (zbu.1 hx).1
theorem xg(a b:List Int):gJ (iX a b):=lF _
theorem jv(e:ab){n:Nat}(hn:n<12):(ik e=[112]/\gE e=n)↔e.key=dO n:=by
 unfold ik gE;constructor
 · rintro⟨h1,h2⟩;obtain⟨m,h3,_,h5⟩:=ng (s:=(cQ 58 e.key.data.toList).2.1) (most:=11) (by omega);(have hm:m=n:=by omega);subst hm;rcases mn 58 e.key.data.toList with h|h
   · unfold dO;rw[h1,h3]at h;rw[<-lH e.key,h];rfl
   · rw[h]at h3;exact absurd h3.symm (sB m)
 · intro h;have hc:cQ 58 e.key.data.toList=([112],Lib.decDigits n,true):=by
    rw[h];unfold dO;rw[cG];exact lB (a:=[112]) (Lib.decDigits n) (by decide)
   rw[hc];exact⟨rfl,sg n 11 (by omega) (by omega)⟩
theorem sd{xs:List ab}(h:OkS xs){k:Nat}(hk:k<xs.length)(n:Nat):ar (xs.take (k+1)) n=if xs[k].key=dO n then(bG xs[k].value.data.toList).1 else ar (xs.take k) n:=by
 unfold ar;rw[pg h.ord hk];by_cases e:xs[k].key=dO n
 · rw[if_pos e,if_pos e]
 · rw[if_neg e,if_neg e]
theorem tJ{xs:List ab}(h:OkS xs):∀k,k<=xs.length->∀a,a<12->(bq xs k).P a=ar (xs.take k) a
 | 0,_,a,_=>rfl
 | k+1,hk,a,ha=>by
   have hk':k<xs.length:=hk;have ih:=tJ h k (by omega) a ha;rw[ky hk',sd h hk'];have hno:en (bq xs k) xs[k]=bq xs k∨True:= .inr trivial;rcases jq xs[k]with hn|⟨n,hn,hn12⟩
   · rw[if_neg (fun e=>by have:=((jv xs[k] ha).2 e).2;omega)];(have hs:en (bq xs k) xs[k]=bq xs k:=by unfold en;rw[if_pos hn]);rw[hs];exact ih
   · (have hnn:¬ gE xs[k]<0:=by omega);(have hnt:(gE xs[k]).toNat=n:=by omega);by_cases hk1:ik xs[k]=[97]
     · (have hs:en (bq xs k) xs[k]=tj (bq xs k) n xs[k].value.data.toList:=by unfold en;rw[if_neg hnn,if_pos hk1,hnt]);rw[hs,if_neg (fun e=>by have:=((jv xs[k] ha).2 e).1;rw[hk1]at this;cases this)];exact ih
     · by_cases hk2:ik xs[k]=[112]
       · (have hs:en (bq xs k) xs[k]=xM (bq xs k) n xs[k].value.data.toList:=by unfold en;rw[if_neg hnn,if_neg hk1,if_pos hk2,hnt]);rw[hs];show(if a=n then(bG xs[k].value.data.toList).1 else(bq xs k).P a)=_;by_cases e:a=n
         · subst e;rw[if_pos rfl,if_pos ((jv xs[k] ha).1 ⟨hk2,hn⟩)]
         · rw[if_neg e,if_neg (fun e2=>by have:=((jv xs[k] ha).2 e2).2;omega)];exact ih
       · (have hs:en (bq xs k) xs[k]=bq xs k:=by unfold en;rw[if_neg hnn,if_neg hk1,if_neg hk2]);rw[hs,if_neg (fun e=>hk2 ((jv xs[k] ha).2 e).1)];exact ih
theorem sv{xs:List ab}(h:aj xs=0):∀a,a<12->(mg xs).P a=ar xs a:=by
 intro a ha;have:=tJ (dX h) xs.length (zab _) a ha;rw[zaN]at this;exact this
theorem t6:∀(l:List af) (r:af),(fA l r).length<=l.length+1
 | [],_=>by simp[fA]
 | x::l,r=>by
   unfold fA;have:=t6 l r;split
   · simp;exact this
   · split<;>simp
theorem sk{xs:List ab}{s n:Nat}:∀(ps:List ae) (l:List af),(jb xs s n l ps).length<=l.length+ps.length
 | [],l=>by simp[jb]
 | p::ps,l=>by
   have h1:=sk (xs:=xs) (s:=s) (n:=n) ps (g9 xs s n l p);have h2:(g9 xs s n l p).length<=l.length+1:=by
    unfold g9;split
    · omega
    · exact t6 _ _
   show(jb xs s n (g9 xs s n l p) ps).length<=_;simp only[zaD];omega
theorem ni(xs:List ab)(s:Nat):∀n,(cH xs s n).length<=6*n
 | 0=>zab _
 | n+1=>by
   have h1:=ni xs s n;have h2:=sk (xs:=xs) (s:=s) (n:=n) (ar xs n) (cH xs s n);have h3:=(bi (cC xs n)).1;show(jb xs s n (cH xs s n) (ar xs n)).length<=_;omega
section
variable {C:Nat->Nat->Nat} {D:Nat->Bool}
end
theorem wV(xs:List ab){s i:Nat}(hi:i≠s):
  ((ax xs s i).cost= -1/\∀c,¬ Pth (bB xs) (fun a=>(aP xs a).1) s (fun _=>True) i c)∨
  ∃m:Nat,(ax xs s i).cost=m/\Mn (bB xs) (fun a=>(aP xs a).1) s (fun _=>True) i m:=by
 have hall:∀c,Pth (bB xs) (fun a=>(aP xs a).1) s (fun k=>eW (-1) k=true) i c↔Pth (bB xs) (fun a=>(aP xs a).1) s (fun _=>True) i c:=fun c=>Pth.same yl;have hw:(ax xs s i).cost=gI (ib (bB xs) (fun a=>(aP xs a).1) s (eV (bB xs) s (eW (-1))) 12) i:=by
  unfold ax;rw[if_neg hi];rfl
 rw[hw];rcases gP (C:=bB xs) (D:=fun a=>(aP xs a).1) (s:=s) (F:=eW (-1)) i with⟨r1,r2⟩|⟨m,r1,r2⟩
 · exact .inl ⟨r1,fun c h=>r2 c ((hall c).2 h)⟩
 · exact .inr ⟨m,r1,(hall m).1 r2.1,fun c h=>r2.2 c ((hall c).2 h)⟩
theorem Cz(xs:List ab){s i m:Nat}(hm:Mn (bB xs) (fun a=>(aP xs a).1) s (fun _=>True) i m)(k:Nat):
  gI (fY xs s (k:Int) 12) i=m↔Pth (bB xs) (fun a=>(aP xs a).1) s (·=k) i m:=by
 have hone:∀c,Pth (bB xs) (fun a=>(aP xs a).1) s (fun j=>eW (k:Int) j=true) i c↔Pth (bB xs) (fun a=>(aP xs a).1) s (·=k) i c:=fun c=>Pth.same (yk k);show gI (ib (bB xs) (fun a=>(aP xs a).1) s (eV (bB xs) s (eW (k:Int))) 12) i=m↔_;rcases gP (C:=bB xs) (D:=fun a=>(aP xs a).1) (s:=s) (F:=eW (k:Int)) i with⟨r1,r2⟩|⟨m',r1,r2⟩
 · rw[r1];exact⟨fun e=>by omega,fun h=>absurd ((hone m).2 h) (r2 m)⟩
 · rw[r1];constructor
   · intro e;(have:m'=m:=by omega);rw[<-this];exact(hone m').1 r2.1
   · intro h;have h1:=r2.2 m ((hone m).2 h);have h2:=hm.2 m' (((hone m').1 r2.1).mono (fun _ _=>trivial));omega
theorem mD(xs:List ab)(s q:Nat)(c:Int):∀k,fW xs s q c k=((List.range k).map fun(i:Nat)=>(i:Int)).filter fun i=>decide (gI (fY xs s i 12) q=c)
 | 0=>rfl
 | k+1=>by
   unfold fW;rw[List.range_succ,zbe,zbV,<-mD xs s q c k];by_cases e:gI (fY xs s (k:Int) 12) q=c
   · rw[if_pos e];simp[e]
   · rw[if_neg e];simp[e]
theorem Es{C:Nat->Nat->Nat}{D:Nat->Bool}{s:Nat}(hC:∀a b,C a b<=1000)(hs:s<12):∀(n:Nat) (st:Ds) (R:Nat->Nat->Prop),mu st<=n->Inv C D s R st->Cov C D s 0 12 R st->
  ∃st' R',Inv C D s R' st'/\Cov C D s 0 12 R' st'/\st'.heap=[]:=by
 intro n
 induction n with
 | zero=>
   intro st R hm hi hc;refine⟨st,R,hi,hc,zaH ?_⟩;unfold mu at hm;omega
 | succ n ih=>
   intro st R hm hi hc;by_cases hl:0<st.heap.length
   · obtain⟨_,_,⟨R',h1,h2⟩,h3,_⟩:=tg hC hs hi hc hl;exact ih _ R' (by omega) h1 h2
   · exact⟨st,R,hi,hc,zaH (by omega)⟩
theorem vu(xs:List ab){s q:Nat}(hs:s<12)(hq:q<12): -1<=(ax xs s q).cost/\(ax xs s q).cost<=1048576:=by
 obtain⟨h1,h2⟩:=yi (bB xs) (fun a=>(aP xs a).1) hs;obtain⟨st,R,g1,g2,g3⟩:=Es (ij xs) hs _ _ _ (zab _) h1 h2;rw[<-nF hs (fun _ _=>rfl) (fun _=>rfl) g1 g2 g3 hq];show-1<=fO st q/\fO st q<=1048576;have:=g1.nn hq;unfold fO;split<;>omega
theorem sN{xs:List ab}{s q:Nat}(hq:q≠s)(hc:0<=(ax xs s q).cost):(ax xs s q).hops≠[]:=by
 rcases wV xs hq with⟨r1,_⟩|⟨m,r1,r2⟩
 · omega
 · obtain⟨k,_,hk12,_,_,hk5⟩:=r2.1.first;(have hw:(ax xs s q).hops=bO xs s q (ax xs s q).cost 12:=by unfold ax;rw[if_neg hq]);rw[hw,r1];unfold bO;rw[if_neg (by omega),mD];intro e;have:(k:Int)∈(((List.range 12).map fun(i:Nat)=>(i:Int)).filter fun i=>decide (gI (fY xs s i 12) q=(m:Int))):=
    zbu.2 ⟨zbR.2 ⟨k,zbT.2 hk12,rfl⟩,by simpa using(Cz xs r2 k).2 hk5⟩
   rw[e]at this;cases this
theorem jh{α:Type}{bad:α->Int}{ord:α->α->Bool}(l:List α)(h1:∀x∈l,bad x=0)(h2:l.Pairwise fun a b=>ord a b=true):∀n k,br bad ord l n k=0
 | 0,_=>rfl
 | n+1,k=>by
   unfold br;by_cases hk:k<l.length
   · rw[zad hk];simp only;rw[if_neg (by rw[h1 _ (zaw hk)];simp)];cases k with
     | zero=>simp;exact jh l h1 h2 n 1
     | succ j=>
       have hj:l[j]? =some l[j]:=zad (by omega);have ho:ord l[j] l[j+1]=true:=zaR.1 h2 j (j+1) (by omega) hk (by omega);simp[hj,ho];exact jh l h1 h2 n (j+1+1)
   · rw[zbU (by omega)]
theorem su{l:List Int}(h1:∀x∈l,0<=x/\x<=11)(h2:l.Pairwise (·<·)):∀n k,cz l n k=true
 | 0,_=>rfl
 | n+1,k=>by
   unfold cz;by_cases hk:k<l.length
   · rw[zad hk];have hb:=h1 _ (zaw hk);cases k with
     | zero=>simp[hb];exact su h1 h2 n 1
     | succ j=>
       have hj:l[j]? =some l[j]:=zad (by omega);have ho:l[j]<l[j+1]:=zaR.1 h2 j (j+1) (by omega) hk (by omega);simp[hj,ho,hb];exact su h1 h2 n (j+1+1)
   · rw[zbU (by omega)]
theorem Cy{l:List Int}(h:gJ l):gZ l=true:=
 su (lE h) (by rw[<-h];exact oN.filter _) _ _
structure dG(r:af):Prop where
 pre:aq r.pre=0
 c0:0<=r.cost
 c1:r.cost<=1048576
 canon:gJ r.hops
 kind:(r.here=true/\r.cost=0/\r.hops=[])∨(r.here=false/\r.hops≠[])
theorem dG.ok{r:af}(h:dG r):aX r=0:=by
 unfold aX;rw[Cy h.canon];have:eh r=true:=by
  rcases fU r with⟨h1,_⟩|⟨_,h1|h1|h1⟩
  · exact h1
  · exact absurd h.pre h1
  · have:=h.c0;have:=h.c1;omega
  · obtain⟨_,_,_,h2⟩:=h1;rcases h.kind with⟨k1,k2,k3⟩|⟨k1,k2⟩
    · rcases h2 with⟨_,h2⟩|⟨_,_,h2⟩|⟨h2,_⟩
      · exact absurd k2 h2
      · rw[k3]at h2;simp at h2
      · rw[k1]at h2;cases h2
    · rcases h2 with⟨h2,_⟩|⟨h2,_,_⟩|⟨_,h2⟩
      · rw[k1]at h2;cases h2
      · rw[k1]at h2;cases h2
      · exact absurd (zaH h2) k2
 rw[this];rfl
theorem BY{x r:af}(hx:dG x)(hr:dG r)(he:x.pre=r.pre):dG (fT x r):=by
 unfold fT;split
 · exact hr
 · split
   · rename_i h2;simp only[Bool.and_eq_true,beq_iff_eq,Bool.not_eq_true']at h2;have hxf:x.here=false:=h2.1;refine⟨hx.pre,hx.c0,hx.c1,xg _ _,.inr ⟨hxf,?_⟩⟩;rcases hx.kind with⟨k1,_⟩|⟨_,k2⟩
     · rw[hxf]at k1;cases k1
     · intro e;cases hh:x.hops with
       | nil=>exact k2 hh
       | cons a l=>
         have ha:=lE hx.canon a (by rw[hh];simp);have:a∈iX x.hops r.hops:=zbu.2 ⟨jo.2 ha,by rw[hh];simp⟩;rw[show iX x.hops r.hops=[]from e]at this;cases this
   · exact hx
theorem um{r:af}(hr:dG r):∀{l:List af},(∀x∈l,dG x)->∀y∈fA l r,dG y
 | [],_,y,hy=>by simp[fA]at hy;rw[hy];exact hr
 | x::l,h,y,hy=>by
   unfold fA at hy;split at hy
   · rcases zaS.1 hy with e|e
     · rw[e];exact h x (by simp)
     · exact um hr (fun z hz=>h z (by simp[hz])) y e
   · split at hy
     · rename_i hs;rcases zaS.1 hy with e|e
       · rw[e];exact BY (h x (by simp)) hr ((aO _ _).1 hs)
       · exact h y (by simp[e])
     · rcases zaS.1 hy with e|e
       · rw[e];exact hr
       · exact h y e
theorem rv:gJ []:=by unfold gJ;simp
theorem Dv{xs:List ab}{s n:Nat}(hs:s<12)(hn:n<12){p:ae}(hp:aq p=0){r:af}(h:bv xs s n p=some r):dG r:=by
 unfold bv at h;split at h
 · injection h with h;subst h;exact⟨hp,zbZ _,(by show(0:Int)<=1048576;omega),rv,.inl ⟨rfl,rfl,rfl⟩⟩
 · rename_i hne;split at h
   · rename_i hc;injection h with h;subst h;exact⟨hp,hc,(vu xs hs hn).2,iw _ _ _,.inr ⟨rfl,sN hne hc⟩⟩
   · cases h
theorem zQ{xs:List ab}{s n:Nat}(hs:s<12)(hn:n<12){l:List af}(hl:∀x∈l,dG x){p:ae}(hp:aq p=0):∀y∈g9 xs s n l p,dG y:=by
 unfold g9;split
 · exact hl
 · rename_i r hr;exact um (Dv hs hn hp hr) hl
theorem o9{xs:List ab}{s n:Nat}(hs:s<12)(hn:n<12):∀(ps:List ae) (l:List af),(∀p∈ps,aq p=0)->(∀x∈l,dG x)->∀y∈jb xs s n l ps,dG y
 | [],_,_,hl=>hl
 | p::ps,l,hp,hl=>o9 hs hn ps (g9 xs s n l p) (fun q hq=>hp q (by simp[hq])) (zQ hs hn hl (hp p (by simp)))
theorem lp{xs:List ab}{s:Nat}(hs:s<12):∀n,n<=12->∀y∈cH xs s n,dG y
 | 0,_=>fun y hy=>by cases hy
 | n+1,hn=>o9 hs (by omega) _ _ (bi (cC xs n)).2.1 (lp hs n (by omega))
theorem nT(xs:List ab)(s n:Nat):aE (cH xs s n):=(nN (fun n=>(bi (cC xs n)).2.2) n).1
theorem xe{l:List af}(h1:∀x∈l,dG x)(h2:aE l)(h3:l.length<=200):ah l=0:=by
 unfold ah;rw[if_neg (by omega)];exact jh l (fun x hx=>(h1 x hx).ok) h2 _ _
theorem yy{xs:List ab}{s:Nat}(hs:s<12):ah (cH xs s 12)=0:=
 xe (lp hs 12 (zab _)) (nT xs s 12) (by have:=ni xs s 12;omega)
end
end Go.Proofs.YtojojpjldkpmoaaGreatDoor
