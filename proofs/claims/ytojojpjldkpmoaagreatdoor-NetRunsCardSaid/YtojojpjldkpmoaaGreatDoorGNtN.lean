/-
  
-/
import Derived.Test.YtojojpjldkpmoaaGreatDoorGPaA
import Derived.Test.YtojojpjldkpmoaaGreatDoorGDoG
import Derived.Test.YtojojpjldkpmoaaGreatDoorGDoK
import Derived.Test.YtojojpjldkpmoaaGreatDoorGTaE
import Derived.Test.YtojojpjldkpmoaaGreatDoorGDoD
import Derived.Test.YtojojpjldkpmoaaGreatDoorGOwn
set_option linter.unusedVariables false
set_option linter.unusedSimpArgs false
set_option maxHeartbeats 16000000
set_option maxRecDepth 100000
namespace Go.Proofs.YtojojpjldkpmoaaGreatDoor
section
open Go
theorem r9{l:List ae}(h1:l.length<=6)(h2:∀p∈l,aq p=0)(h3:l.Pairwise (fun a b=>ak a b=true)):ai l=0:=by
 unfold ai;rw[if_neg (by omega)];exact jh l h2 h3 _ _
theorem xU{st:List ab}(h:OkS st){a:Int}{key value:ByteArray}(h2:(dj st a key value).2=0):OkS (dj st a key value).1:=by
 have hc:=h.check;by_cases n:a<0∨11<a
 · rw[oB hc n]at h2;cases h2
 · (have n':0<=a/\a<=11:=by omega);by_cases k:eu key=false
   · rw[r7 hc n' k]at h2;cases h2
   · (have k':eu key=true:=by simpa using k);by_cases z:120<value.size
     · rw[oA hc n' k' z]at h2;cases h2
     · (have z':value.size<=120:=by omega);rcases hf:bR st key with _|e
       · have hh:dm st key=false:=by
          rw[Bool.eq_false_iff];intro e;obtain⟨hl,hk⟩:=(cF h.ord key).1 e;rw[dZ h.ord key hl hk]at hf;cases hf
         by_cases f:60<=st.length
         · rw[oD hc n' k' z' hh f]at h2;cases h2
         · rw[r6 hc n' k' z' hh (by omega)];refine kJ h ?_ (.inr (by omega));unfold bj;simp only[k',Bool.true_and,Bool.and_eq_true,decide_eq_true_eq];omega
       · by_cases v:e.version=1099511627776
         · rw[oC hc n' k' z' hf v]at h2;cases h2
         · rw[r5 hc n' k' z' hf v];refine kJ h ?_ (.inl (qT hf));have he:=h.ok e (mh hf).2;obtain⟨_,_,e3,e4,_⟩:=d5 he;unfold bj;simp only[k',Bool.true_and,Bool.and_eq_true,decide_eq_true_eq];omega
theorem r8{st:List ab}(h:OkS st)(a:Nat)(key value:ByteArray):OkS (cD st a key value).1:=by
 unfold cD;split
 · exact h
 · split
   · exact h
   · rename_i _ h2;exact xU h (by simpa using h2)
theorem ya{x:Net}(h:bg x)(a:Nat)(b c:Int):bg (bF x a b c).1:=by
 unfold bF;split
 · exact h
 · rename_i h1;split
   · exact h
   · rename_i h2;split
     · exact h
     · refine⟨h.nd,fun p q=> ?_,fun p q=> ?_,fun p=> ?_⟩
       · show 0<=dN _ _ _ _ p q/\dN _ _ _ _ p q<=1000;unfold dN;have:=h.co p q;have h1':=not_or.1 h1;have h1'':=not_or.1 h1'.2;split
         · omega
         · split
           · omega
           · exact this
       · show dN _ _ _ _ p q=dN _ _ _ _ q p;unfold dN;have:=h.sym p q;by_cases e1:p=b.toNat/\q=a
         · rw[if_pos e1];by_cases e2:q=b.toNat/\p=a
           · rw[if_pos e2]
           · rw[if_neg e2,if_pos ⟨e1.2,e1.1⟩]
         · rw[if_neg e1];by_cases e2:q=b.toNat/\p=a
           · rw[if_pos e2,if_pos ⟨e2.2,e2.1⟩]
           · rw[if_neg e2,if_neg (fun e=>e2 ⟨e.2,e.1⟩),if_neg (fun e=>e1 ⟨e.2,e.1⟩)];exact this
       · show dN _ _ _ _ p p=0;unfold dN;have h1':=not_or.1 h1;have hb:=(aV b).1 (by simpa using h1'.1);rw[if_neg (by omega),if_neg (by omega)];exact h.self p
theorem Dx{x:Net}(h:bg x){a:Nat}(ha:a<12)(p:ae):bg (ew x a p).1:=by
 unfold ew;split
 · exact h
 · split
   · exact h
   · rename_i h2;exact h.setN ⟨(h.nd a ha).st,by simpa using h2,(h.nd a ha).tb⟩
theorem CZ{x:Net}(h:bg x){a:Nat}(ha:a<12)(p:ae):bg (fg x a p).1:=by
 unfold fg;split
 · obtain⟨h1,h2,h3⟩:=bi (h.nd a ha).pf;exact h.setN ⟨(h.nd a ha).st,r9 (zax (zbC _ _) h1) (fun q hq=>h2 q (zbu.1 hq).1) (h3.sublist List.filter_sublist),(h.nd a ha).tb⟩
 · exact h
theorem CY{x:Net}(h:bg x){a:Nat}(ha:a<12):bg (dv x a).1:=by
 unfold dv;split
 · exact h
 · split
   · exact h
   · exact h.setN ⟨r8 (r8 (h.nd a ha).st _ _ _) _ _ _,(h.nd a ha).pf,(h.nd a ha).tb⟩
theorem C7{x:Net}(h:bg x)(a:Nat)(b n:Int):bg (bT x a b n).1:=by
 unfold bT;split
 · exact h
 · rename_i hb;obtain⟨b0,b1⟩:=(aV b).1 (by simpa using hb);(have hb12:b.toNat<12:=by omega);split
   · exact h
   · split
     · exact h
     · rename_i h2;(have hd:(eP (dt (x.nd a).st n)).2=0:=by simpa using h2);have hk:=(sC (b:=dt (x.nd a).st n) (xs:=(eP (dt (x.nd a).st n)).1) (by rw[<-hd])).1;exact h.setN ⟨zC (h.nd _ hb12).st (dX hk),(h.nd _ hb12).pf,(h.nd _ hb12).tb⟩
theorem AA{x:Net}(h:bg x){a:Nat}(ha:a<12)(key value:ByteArray):bg (df x a key value).1:=by
 unfold df;split
 · exact h
 · rename_i h2;exact h.setN ⟨xU (h.nd a ha).st (by simpa using h2),(h.nd a ha).pf,(h.nd a ha).tb⟩
theorem Ac{x:Net}(h:bg x){a:Nat}(ha:a<12):bg (lx x a):=
 h.setN ⟨(h.nd a ha).st,(h.nd a ha).pf,yy ha⟩
theorem Ex{x:Net}(h:bg x)(c:ao):bg (aK x c).1:=by
 rcases Aq x c with e|e|⟨a,k,_,ha,_,k1,k2,e⟩
 · rw[e];exact h
 · rw[e];exact h
 · rw[e];rcases Dr k1 k2 with rfl|rfl|rfl|rfl|rfl|rfl|rfl|rfl|rfl|rfl
   · rw[mp];split
     · exact ya h _ _ _
     · exact h
   · exact ya h _ _ _
   · rw[mo];split
     · exact h.setN ⟨(h.nd _ ha).st,(h.nd _ ha).pf,(h.nd _ ha).tb⟩
     · exact h
   · exact Dx h ha _
   · exact CZ h ha _
   · exact CY h ha
   · exact C7 h _ _ _
   · exact AA h ha _ _
   · exact Ac h ha
   · exact h
theorem rO:∀(l:List ao) {x:Net},bg x->bg (dh x l).1
 | [],_,h=>h
 | c::l,_,h=>rO l (Ex h c)
theorem Cn{n:Int}(h0:0<=n)(h1:n<=1000):(Lib.decDigits n.toNat).length<=4:=cm 3 n.toNat (by show _<10000;omega)
theorem uE{n:Int}(h0:0<=n)(h1:n<=11):(Lib.decDigits n.toNat).length<=2:=cm 1 n.toNat (by show _<100;omega)
theorem Co{n:Int}(h0:0<=n)(h1:n<=255):(Lib.decDigits n.toNat).length<=3:=cm 2 n.toNat (by show _<1000;omega)
theorem xo(d:Bool){l:List cY}(h:aw l=0):(CF d l).length<=97:=by
 have h1:=lR h;have h2:=il 7 (l.map dC) (fun x hx=>by
  obtain⟨p,hp,rfl⟩:=zbR.1 hx;obtain⟨i,hi,rfl⟩:=zau hp;obtain⟨a1,a2,a3,a4⟩:=ef h i hi;have b1:=uE a1 a2;have b2:=Cn (n:=l[i].cost) (by omega) a4;unfold dC cl
  rw[zaq,zaD];omega)
 rw[zaI]at h2;unfold CF;split
 · rw[zaD];omega
 · omega
theorem sa{l:List ae}(h:ai l=0):(oF l).length<=48:=by
 have h1:=jL h;have h2:=il 7 (l.map eT) (fun x hx=>by
  obtain⟨p,hp,rfl⟩:=zbR.1 hx;obtain⟨i,hi,rfl⟩:=zau hp;obtain⟨a1,a2,a3,a4⟩:=lV h i hi;have b1:=Co a3 a4;have b2:=uE (n:=l[i].bits) a1 (by omega);unfold eT cl
  rw[zaq,zaD];omega)
 rw[zaI]at h2;unfold oF;omega
theorem je{f:Nat->Int}{s:cY}:∀{k:Nat},s∈bI f k↔∃i,i<k/\0<f i/\s=⟨i,f i⟩
 | 0=>by simp[bI]
 | k+1=>by
   have ih:=je (f:=f) (s:=s) (k:=k);unfold bI;split
   · rename_i hp;rw[zbd,ih,zcn];constructor
     · rintro(⟨i,h1,h2,h3⟩|h)
       · exact⟨i,by omega,h2,h3⟩
       · exact⟨k,by omega,hp,h⟩
     · rintro⟨i,h1,h2,h3⟩;by_cases e:i=k
       · subst e;exact .inr h3
       · exact .inl ⟨i,by omega,h2,h3⟩
   · rename_i hp;rw[ih];constructor
     · rintro⟨i,h1,h2,h3⟩;exact⟨i,by omega,h2,h3⟩
     · rintro⟨i,h1,h2,h3⟩;by_cases e:i=k
       · subst e;exact absurd h2 hp
       · exact⟨i,by omega,h2,h3⟩
theorem jd(f:Nat->Int):∀k,(bI f k).Pairwise (fun a b=>dK a b=true)
 | 0=>List.Pairwise.nil
 | k+1=>by
   unfold bI;split
   · rw[List.pairwise_append];refine⟨jd f k,List.pairwise_singleton _ _,fun a ha b hb=> ?_⟩;obtain⟨i,h1,_,rfl⟩:=je.1 ha;rw[zcn]at hb;subst hb;unfold dK;simp;omega
   · exact jd f k
theorem jg{f:Nat->Int}(h:∀b,0<=f b/\f b<=1000):aw (bI f 12)=0:=by
 unfold aw;refine jh _ (fun s hs=> ?_) (jd f 12) _ _;obtain⟨i,h1,h2,rfl⟩:=je.1 hs;have:=h i;unfold eg;rw[if_pos (by refine⟨?_,?_,?_,?_⟩<;>show _<=_<;>simp only<;>omega)]
theorem nJ{x:Net}(h:bg x)(a:Nat):(dB x a).size<=120:=by
 unfold dB;rw[bf];have:=xo (x.nd a).dr (jg (fun b=>h.co a b));omega
theorem nI{x:Net}(h:bg x){a:Nat}(ha:a<12):(fe x a).size<=120:=by
 unfold fe;rw[bf];have:=sa (h.nd a ha).pf;omega
open Classical in
theorem C6(x:Net)(a:Nat)(y:Nd)(h:y=x.nd a):x.setN a y=x:=by
 subst h;unfold Net.setN;have:(fun i=>if i=a then x.nd a else x.nd i)=x.nd:=by
  funext i;by_cases e:i=a
  · subst e;rw[if_pos rfl]
  · rw[if_neg e]
 rw[this]
end
section
open Go
end
section
open Go
def far(r:af):Int:=r.pre.bits*2097152-r.cost
end
section
open Go
end
section
open Go Go.RowKit
def Zn(N:Nat)(X:Nat->Prop)(k:Nat):Prop:=N<k/\¬ X k
def SlN{α:Type}(r:Rep α)(N:Nat)(X:Nat->Prop)(w:World)(v:Value)(xs:List α):Prop:=SlR r w (fun k=>k<w.heap.size/\Zn N X k) v xs
theorem SlN.sl{α:Type}{r:Rep α}{N:Nat}{X:Nat->Prop}{w:World}{v:Value}{xs:List α}(h:SlN r N X w v xs):Sl r w v xs:=SlR.keep h (fun _ _=>rfl) (fun _ hk=>hk.1)
theorem SlN.nil{α:Type}(r:Rep α)(N:Nat)(X:Nat->Prop)(w:World):SlN r N X w (.slice none 0 0) []:=⟨none,0,rfl,zab _,zap _,fun i x h=>by simp at h⟩
theorem SlN.below{α:Type}{r:Rep α}{N:Nat}{X:Nat->Prop}{w w':World}{v:Value}{xs:List α}(h:SlN r N X w v xs)(hb:Below w.heap.size w w'):SlN r N X w' v xs:=SlR.keep h (fun k hk=>hb.block k hk.1) (fun k hk=>⟨zas hk.1 hb.size,hk.2⟩)
theorem SlN.grownN{α:Type}{r:Rep α}{N:Nat}{X:Nat->Prop}{w w':World}{v:Value}{l:List α}(h:SlN r N X w v l)(hg:w.grownBy w' (some N)):SlN r N X w' v l:=
 SlR.keep h (fun k hk=>hg.block k hk.1 (fun e=>by injection e with e;have:=hk.2.1;omega)) (fun k hk=>⟨zas hk.1 hg.size,hk.2⟩)
theorem SlF.toN{α:Type}{r:Rep α}{b N:Nat}{X:Nat->Prop}{w:World}{v:Value}{xs:List α}(h:SlF r b w v xs)(h1:N<b)(h2:∀k,b<=k->¬ X k):SlN r N X w v xs:=SlR.keep h (fun _ _=>rfl) (fun k hk=>⟨hk.1,by have:=hk.2;omega,h2 k hk.2⟩)
structure NdM(X:Nat->Prop)(w:World)(N a:Nat)(y:Nd):Prop where
 st:∃v,w.cell? ⟨N,a*4,none⟩=some v/\SlN aW N X w v y.st
 dr:w.cell? ⟨N,a*4+1,none⟩=some (.bool y.dr)
 pf:∃v,w.cell? ⟨N,a*4+2,none⟩=some v/\SlN aA N X w v y.pf
 tb:∃v,w.cell? ⟨N,a*4+3,none⟩=some v/\SlN aB N X w v y.tb
structure bC(X:Nat->Prop)(w:World)(N:Nat)(x:Net):Prop where
 top:∀k,w.heap.size<=k->¬ X k
 nd:∀a,a<12->NdM X w N a (x.nd a)
 co:∀a b,a<12->b<12->w.cell? ⟨N,48+a*12+b,none⟩=some (.int .i64 (x.co a b))
 fz:∀i,w.frozen? ⟨N,i,none⟩=false
 lt:N<w.heap.size
theorem NdM.eq{X:Nat->Prop}{w w':World}{N a:Nat}{y:Nd}(h:NdM X w N a y)(hc:∀j,j<4->w'.cell? ⟨N,a*4+j,none⟩=w.cell? ⟨N,a*4+j,none⟩)(hk:∀k,k<w.heap.size->N<k->w'.heap[k]? =w.heap[k]?)(hs:w.heap.size<=w'.heap.size):NdM X w' N a y:=by
 have key:∀{α:Type} {r:Rep α} {v:Value} {l:List α},SlN r N X w v l->SlN r N X w' v l:=fun h=>
  SlR.keep h (fun k hk'=>hk k hk'.1 hk'.2.1) (fun k hk'=>⟨zas hk'.1 hs,hk'.2⟩)
 obtain⟨v0,a0,b0⟩:=h.st;obtain⟨v2,a2,b2⟩:=h.pf;obtain⟨v3,a3,b3⟩:=h.tb;exact⟨⟨v0,(hc 0 (by decide)).trans a0,key b0⟩,(hc 1 (by decide)).trans h.dr,⟨v2,(hc 2 (by decide)).trans a2,key b2⟩,⟨v3,(hc 3 (by decide)).trans a3,key b3⟩⟩
theorem bC.below{X:Nat->Prop}{w w':World}{N:Nat}{x:Net}(h:bC X w N x)(hb:Below w.heap.size w w'):bC X w' N x:=
 ⟨fun k hk=>h.top k (zax hb.size hk),fun a ha=>(h.nd a ha).eq (fun j _=>hb.cell (p:=⟨N,a*4+j,none⟩) h.lt) (fun k hk _=>hb.block k hk) hb.size,fun a b ha hb'=>(hb.cell (p:=⟨N,48+a*12+b,none⟩) h.lt).trans (h.co a b ha hb'),fun i=>(hb.frozen (p:=⟨N,i,none⟩) h.lt).trans (h.fz i),zas h.lt hb.size⟩
theorem bV{w:World}{N o o':Nat}{u:Value}(h:o'≠o):(w.setCell ⟨N,o,none⟩ u).cell? ⟨N,o',none⟩=w.cell? ⟨N,o',none⟩:=
 zaj w _ _ u (fun e=>by injection e with _ e2;exact h e2.symm)
theorem jr{w:World}{N o:Nat}{u v:Value}(h:w.cell? ⟨N,o,none⟩=some v):(w.setCell ⟨N,o,none⟩ u).cell? ⟨N,o,none⟩=some u:=zbP w _ u h
theorem eC{α:Type}{r:Rep α}{X:Nat->Prop}{w:World}{N o:Nat}{u v:Value}{l:List α}(h:SlN r N X w v l):SlN r N X (w.setCell ⟨N,o,none⟩ u) v l:=
 SlR.keep h (fun k hk=>zao _ _ _ _ (show k≠N by have:=hk.2.1;omega)) (fun k hk=>⟨by simpa [World.setCell]using hk.1,hk.2⟩)
theorem NdM.other{X:Nat->Prop}{w:World}{N a o:Nat}{y:Nd}{u:Value}(h:NdM X w N a y)(ho:∀j,j<4->a*4+j≠o):NdM X (w.setCell ⟨N,o,none⟩ u) N a y:=
 h.eq (fun j hj=>bV (ho j hj)) (fun k _ hk=>zao _ _ _ _ (show k≠N by omega)) (by simp[World.setCell])
theorem bC.setNd{X:Nat->Prop}{w:World}{N:Nat}{x:Net}(h:bC X w N x){a j:Nat}(ha:a<12)(hj:j<4){u:Value}{y:Nd}(hy:NdM X (w.setCell ⟨N,a*4+j,none⟩ u) N a y):bC X (w.setCell ⟨N,a*4+j,none⟩ u) N (x.setN a y):=by
 refine⟨by simpa [World.setCell]using h.top,fun i hi=> ?_,fun i k hi hk=> ?_,fun i=> ?_,by simpa [World.setCell]using h.lt⟩
 · by_cases e:i=a
   · subst e;rw[bo];exact hy
   · rw[kn _ _ e];exact(h.nd i hi).other (fun m hm=>by omega)
 · rw[bV (by omega)];exact h.co i k hi hk
 · rw[zaz];exact h.fz i
theorem bC.setSt{X:Nat->Prop}{w:World}{N:Nat}{x:Net}(h:bC X w N x){a:Nat}(ha:a<12){v:Value}{l:List ab}(hv:SlN aW N X w v l):bC X (w.setCell ⟨N,a*4,none⟩ v) N (x.setN a {x.nd a with st:=l}):=by
 obtain⟨v0,a0,_⟩:=(h.nd a ha).st;obtain⟨v2,a2,b2⟩:=(h.nd a ha).pf;obtain⟨v3,a3,b3⟩:=(h.nd a ha).tb;exact h.setNd (j:=0) ha (by decide) ⟨⟨v,jr a0,eC hv⟩,(bV (by omega)).trans (h.nd a ha).dr,⟨v2,(bV (by omega)).trans a2,eC b2⟩,⟨v3,(bV (by omega)).trans a3,eC b3⟩⟩
theorem bC.setDr{X:Nat->Prop}{w:World}{N:Nat}{x:Net}(h:bC X w N x){a:Nat}(ha:a<12)(d:Bool):bC X (w.setCell ⟨N,a*4+1,none⟩ (.bool d)) N (x.setN a {x.nd a with dr:=d}):=by
 obtain⟨v0,a0,b0⟩:=(h.nd a ha).st;obtain⟨v2,a2,b2⟩:=(h.nd a ha).pf;obtain⟨v3,a3,b3⟩:=(h.nd a ha).tb;exact h.setNd (j:=1) ha (by decide) ⟨⟨v0,(bV (by omega)).trans a0,eC b0⟩,jr (h.nd a ha).dr,⟨v2,(bV (by omega)).trans a2,eC b2⟩,⟨v3,(bV (by omega)).trans a3,eC b3⟩⟩
theorem bC.setPf{X:Nat->Prop}{w:World}{N:Nat}{x:Net}(h:bC X w N x){a:Nat}(ha:a<12){v:Value}{l:List ae}(hv:SlN aA N X w v l):bC X (w.setCell ⟨N,a*4+2,none⟩ v) N (x.setN a {x.nd a with pf:=l}):=by
 obtain⟨v0,a0,b0⟩:=(h.nd a ha).st;obtain⟨v2,a2,b2⟩:=(h.nd a ha).pf;obtain⟨v3,a3,b3⟩:=(h.nd a ha).tb;exact h.setNd (j:=2) ha (by decide) ⟨⟨v0,(bV (by omega)).trans a0,eC b0⟩,(bV (by omega)).trans (h.nd a ha).dr,⟨v,jr a2,eC hv⟩,⟨v3,(bV (by omega)).trans a3,eC b3⟩⟩
theorem bC.setTb{X:Nat->Prop}{w:World}{N:Nat}{x:Net}(h:bC X w N x){a:Nat}(ha:a<12){v:Value}{l:List af}(hv:SlN aB N X w v l):bC X (w.setCell ⟨N,a*4+3,none⟩ v) N (x.setN a {x.nd a with tb:=l}):=by
 obtain⟨v0,a0,b0⟩:=(h.nd a ha).st;obtain⟨v2,a2,b2⟩:=(h.nd a ha).pf;obtain⟨v3,a3,b3⟩:=(h.nd a ha).tb;exact h.setNd (j:=3) ha (by decide) ⟨⟨v0,(bV (by omega)).trans a0,eC b0⟩,(bV (by omega)).trans (h.nd a ha).dr,⟨v2,(bV (by omega)).trans a2,eC b2⟩,⟨v,jr a3,eC hv⟩⟩
theorem bC.setCo{X:Nat->Prop}{w:World}{N:Nat}{x:Net}(h:bC X w N x){a b:Nat}(ha:a<12)(hb:b<12)(c:Int):bC X (w.setCell ⟨N,48+a*12+b,none⟩ (.int .i64 c)) N {x with co:=dN x.co a b c}:=by
 refine⟨by simpa [World.setCell]using h.top,fun i hi=>(h.nd i hi).other (fun m hm=>by omega),fun i k hi hk=> ?_,fun i=> ?_,by simpa [World.setCell]using h.lt⟩
 · show _=some (Value.int .i64 (dN x.co a b c i k));unfold dN;by_cases e:i=a/\k=b
   · obtain⟨rfl,rfl⟩:=e;rw[if_pos ⟨rfl,rfl⟩];exact jr (h.co i k hi hk)
   · rw[if_neg e,bV (by omega)];exact h.co i k hi hk
 · rw[zaz];exact h.fz i
theorem mE{w w':World}{N:Nat}(h:w.grownBy w' (some N))(hN:N<=w.heap.size):Below N w w':=
 ⟨h.os,h.tape,h.output,h.size,fun k hk=>h.block k (by omega) (fun e=>by injection e with e;omega)⟩
theorem am{w w':World}(N:Nat)(h:Below w.heap.size w w'):w.grownBy w' (some N):=
 ⟨h.os,h.tape,h.output,h.size,fun k hk _=>h.block k hk⟩
theorem ba(w:World)(N o:Nat)(u:Value):w.grownBy (w.setCell ⟨N,o,none⟩ u) (some N):=
 ⟨rfl,rfl,rfl,by simp[World.setCell],fun k _ hne=>zao _ _ _ _ (fun e=>hne (by first|exact congrArg some e.symm|exact congrArg some e))⟩
def ao.cells(c:ao):List Value:=[.int .i64 c.kind,.int .i64 c.a,.int .i64 c.b,.int .i64 c.n,.int .i64 c.m,.int .i64 c.pre.addr,.int .i64 c.pre.bits,.string c.key,.string c.value]
structure ao.wf(c:ao):Prop where
 kind:inR c.kind
 a:inR c.a
 b:inR c.b
 n:inR c.n
 m:inR c.m
 addr:inR c.pre.addr
 bits:inR c.pre.bits
 key:c.key.size<=maxLen
 value:c.value.size<=maxLen
def sG:Rep ao:=dw 9 ao.cells ao.wf (fun _=>rfl) (fun x u h=>by simp[ao.cells]at h;rcases h with rfl|rfl|rfl|rfl|rfl|rfl|rfl|rfl|rfl<;>rfl)
theorem Sl.act{w:World}{b off c n:Nat}{xs:List ao}(h:Sl sG w (.slice (some ⟨b,off,none⟩) n c) xs){k:Nat}(hk:k<xs.length):
  w.cell? ⟨b,off+k*9,none⟩=some (.int .i64 xs[k].kind)/\w.cell? ⟨b,off+k*9+1,none⟩=some (.int .i64 xs[k].a)/\w.cell? ⟨b,off+k*9+2,none⟩=some (.int .i64 xs[k].b)/\
  w.cell? ⟨b,off+k*9+3,none⟩=some (.int .i64 xs[k].n)/\w.cell? ⟨b,off+k*9+4,none⟩=some (.int .i64 xs[k].m)/\w.cell? ⟨b,off+k*9+5,none⟩=some (.int .i64 xs[k].pre.addr)/\
  w.cell? ⟨b,off+k*9+6,none⟩=some (.int .i64 xs[k].pre.bits)/\w.cell? ⟨b,off+k*9+7,none⟩=some (.string xs[k].key)/\w.cell? ⟨b,off+k*9+8,none⟩=some (.string xs[k].value)/\xs[k].wf:=by
 obtain⟨cs,⟨rfl,hw⟩,hc⟩:=h.cell hk;exact⟨hc 0 _ rfl,hc 1 _ rfl,hc 2 _ rfl,hc 3 _ rfl,hc 4 _ rfl,hc 5 _ rfl,hc 6 _ rfl,hc 7 _ rfl,hc 8 _ rfl,hw⟩
def oa:Rep Rpl:=
 { size:=4,holds:=fun w S cs x=>∃v u,cs=[.int .i64 x.code,v,.int .i64 x.cost,u]/\SlR aI w S v x.path/\SlR bs w S u x.keys
   len:=fun⟨v,u,h,_⟩=>by rw[h];rfl
   one:=fun⟨v,u,h,⟨A,c,hv,_⟩,⟨B,d,hu,_⟩⟩ z hz=>by
    rw[h,hv,hu]at hz;simp at hz;rcases hz with rfl|rfl|rfl|rfl<;>rfl
   keep:=fun⟨v,u,h1,h2,h3⟩ k1 k2=>⟨v,u,h1,h2.keep k1 k2,h3.keep k1 k2⟩}
theorem Sl.rpl{w:World}{b off c n:Nat}{xs:List Rpl}(h:Sl oa w (.slice (some ⟨b,off,none⟩) n c) xs){k:Nat}(hk:k<xs.length):
  ∃v u,w.cell? ⟨b,off+k*4,none⟩=some (.int .i64 xs[k].code)/\w.cell? ⟨b,off+k*4+1,none⟩=some v/\w.cell? ⟨b,off+k*4+2,none⟩=some (.int .i64 xs[k].cost)/\w.cell? ⟨b,off+k*4+3,none⟩=some u/\
   Sl aI w v xs[k].path/\Sl bs w u xs[k].keys:=by
 obtain⟨cs,⟨v,u,rfl,h1,h2⟩,hc⟩:=h.cell hk;exact⟨v,u,hc 0 _ rfl,hc 1 _ rfl,hc 2 _ rfl,hc 3 _ rfl,h1,h2⟩
end
end Go.Proofs.YtojojpjldkpmoaaGreatDoor
