/-
  
-/
import Derived.Test.YtojojpjldkpmoaaGreatDoorGDoK
import Derived.Test.YtojojpjldkpmoaaGreatDoorGMem
import Derived.Test.YtojojpjldkpmoaaGreatDoorGDoL
import Derived.Test.YtojojpjldkpmoaaGreatDoorGDoM
set_option linter.unusedVariables false
set_option linter.unusedSimpArgs false
set_option maxHeartbeats 16000000
set_option maxRecDepth 100000
namespace Go.Proofs.YtojojpjldkpmoaaGreatDoor
section
structure Gph where
 C:Nat->Nat->Int
 D:Nat->Bool
 P:Nat->List ae
def ik(e:ab):List UInt8:=(cQ 58 e.key.data.toList).1
def gE(e:ab):Int:=ez 11 (cQ 58 e.key.data.toList).2.1
def dN(C:Nat->Nat->Int)(n m:Nat)(x:Int):Nat->Nat->Int:=fun a b=>if a=n/\b=m then x else C a b
def iF(n:Nat)(C:Nat->Nat->Int)(x:cY):Nat->Nat->Int:=if x.node=n then C else dN C n x.node.toNat x.cost
def dF(C:Nat->Nat->Int)(n:Nat)(l:List cY):Nat->Nat->Int:=l.foldl (iF n) C
def tj(g:Gph)(n:Nat)(v:List UInt8):Gph:={C:=dF g.C n (aJ v).2.1,D:=fun a=>if a=n then(aJ v).1 else g.D a,P:=g.P}
def xM(g:Gph)(n:Nat)(v:List UInt8):Gph:={g with P:=fun a=>if a=n then(bG v).1 else g.P a}
def en(g:Gph)(e:ab):Gph:=
 if gE e<0 then g else if ik e=[97]then tj g (gE e).toNat e.value.data.toList else if ik e=[112]then xM g (gE e).toNat e.value.data.toList else g
def EI:Gph:=⟨fun _ _=>0,fun _=>false,fun _=>[]⟩
def bq(xs:List ab)(k:Nat):Gph:=(xs.take k).foldl en EI
theorem ky{xs:List ab}{k:Nat}(hk:k<xs.length):bq xs (k+1)=en (bq xs k) xs[k]:=by
 unfold bq;rw[List.take_add_one,zad hk,zcr];rfl
theorem ka{C:Nat->Nat->Int}{n:Nat}{l:List cY}{k:Nat}(hk:k<l.length):dF C n (l.take (k+1))=iF n (dF C n (l.take k)) l[k]:=by
 unfold dF;rw[List.take_add_one,zad hk,zcr];rfl
def da(C:Nat->Nat->Int)(i k:Nat)(a b:Nat):Int:=
 if(max a b<i∨(max a b=i/\min a b<k))/\a≠b/\(C a b=0∨C b a=0)then 0 else C a b
def lO(C:Nat->Nat->Int)(a b:Nat):Int:=if a≠b/\(C a b=0∨C b a=0)then 0 else C a b
def mg(xs:List ab):Gph:={C:=lO (bq xs xs.length).C,D:=(bq xs xs.length).D,P:=(bq xs xs.length).P}
theorem jq(e:ab):gE e<0∨∃n:Nat,gE e=n/\n<12:=by
 have:=Bz 11 (by omega) (cQ 58 e.key.data.toList).2.1;unfold gE;rcases Int.lt_or_le (ez 11 (cQ 58 e.key.data.toList).2.1) 0 with h|h
 · exact .inl h
 · exact .inr ⟨(ez 11 (cQ 58 e.key.data.toList).2.1).toNat,by omega,by omega⟩
theorem AR{C:Nat->Nat->Int}{i k a b:Nat}(h:¬ (C i k=0∨C k i=0))(hk:k<i):da C i (k+1) a b=da C i k a b:=by
 unfold da;by_cases hd:max a b<i∨(max a b=i/\min a b<k)
 · (have:max a b<i∨(max a b=i/\min a b<k+1):=by omega);simp only[hd,this]
 · by_cases hd2:max a b<i∨(max a b=i/\min a b<k+1)
   · (have h1:(a=i/\b=k)∨(a=k/\b=i):=by omega);rcases h1 with⟨rfl,rfl⟩|⟨rfl,rfl⟩
     · rw[if_neg (fun e=>h e.2.2),if_neg (fun e=>h e.2.2)]
     · rw[if_neg (fun e=>h (e.2.2.symm)),if_neg (fun e=>h (e.2.2.symm))]
   · simp only[hd,hd2]
theorem xK{C:Nat->Nat->Int}{i k a b:Nat}(h:C i k=0∨C k i=0)(hk:k<i):da C i (k+1) a b=if(a=i/\b=k)∨(a=k/\b=i)then 0 else da C i k a b:=by
 unfold da;by_cases h1:(a=i/\b=k)∨(a=k/\b=i)
 · rw[if_pos h1,if_pos];rcases h1 with⟨rfl,rfl⟩|⟨rfl,rfl⟩
   · exact⟨by omega,by omega,h⟩
   · exact⟨by omega,by omega,h.symm⟩
 · rw[if_neg h1];(have:(max a b<i∨(max a b=i/\min a b<k+1))↔(max a b<i∨(max a b=i/\min a b<k)):=by omega);simp only[this]
theorem C3{C:Nat->Nat->Int}{i a b:Nat}:da C (i+1) 0 a b=da C i i a b:=by
 unfold da;by_cases e:a=b
 · rw[if_neg (fun h=>h.2.1 e),if_neg (fun h=>h.2.1 e)]
 · (have:(max a b<i+1∨(max a b=i+1/\min a b<0))↔(max a b<i∨(max a b=i/\min a b<i)):=by omega);simp only[this]
theorem AQ{C:Nat->Nat->Int}{a b:Nat}:da C 0 0 a b=C a b:=by
 unfold da;rw[if_neg (fun h=>by omega)]
theorem C4{C:Nat->Nat->Int}{a b:Nat}(ha:a<12)(hb:b<12):da C 12 0 a b=lO C a b:=by
 unfold da lO;have:(max a b<12∨(max a b=12/\min a b<0)):=by omega
 simp only[this,true_and]
structure aS where
 node:Int
 cost:Int
def cO(x y:aS):Bool:=decide (x.cost<y.cost)||(decide (x.cost=y.cost)&&decide (x.node<y.node))
def atS(l:List aS)(i:Nat):aS:=l.getD i ⟨0,0⟩
def gq(l:List aS)(i j:Nat):List aS:=(l.set i (atS l j)).set j (atS l i)
def leS(x y:aS):Prop:=x.cost<y.cost∨(x.cost=y.cost/\x.node<=y.node)
theorem lf(x y:aS):cO x y=true↔¬ leS y x:=by
 simp only[cO,leS,Bool.or_eq_true,decide_eq_true_eq,Bool.and_eq_true];omega
theorem sj(x y:aS):cO x y=false↔leS y x:=by
 rw[<-Bool.not_eq_true,lf];exact Classical.not_not
theorem leS.trans{x y z:aS}(h:leS x y)(h':leS y z):leS x z:=by unfold leS at*;omega
theorem leS.refl(x:aS):leS x x:=by unfold leS;omega
theorem leS.total{x y:aS}(h:¬ leS x y):leS y x:=by unfold leS at*;omega
theorem leS.cost{x y:aS}(h:leS x y):x.cost<=y.cost:=by unfold leS at h;omega
theorem b6(l:List aS)(i j:Nat):(gq l i j).length=l.length:=by simp[gq]
theorem eE{l:List aS}{i j:Nat}(hi:i<l.length)(hj:j<l.length)(k:Nat):atS (gq l i j) k=if k=j then atS l i else if k=i then atS l j else atS l k:=by
 unfold gq;rw[atS,zay,zcg,zcg];by_cases h1:j=k
 · subst h1;simp[hj]
 · have h1':¬ k=j:=fun e=>h1 e.symm;by_cases h2:i=k
   · subst h2;simp[h1,hi,h1']
   · have h2':¬ k=i:=fun e=>h2 e.symm;rw[if_neg h1,if_neg h2,if_neg h1',if_neg h2',atS,zay]
theorem yD{l:List aS}{k:Nat}(h:k<l.length):atS l k=l[k]:=by
 rw[atS,zay,zad h];rfl
theorem kv{l:List aS}{x:aS}:x∈l↔∃k,k<l.length/\atS l k=x:=by
 constructor
 · intro h;obtain⟨k,hk,e⟩:=zau h;exact⟨k,hk,by rw[yD hk];exact e⟩
 · rintro⟨k,hk,rfl⟩;rw[yD hk];exact zaw hk
theorem sZ{l:List aS}{i j:Nat}(hi:i<l.length)(hj:j<l.length)(x:aS):x∈gq l i j↔x∈l:=by
 rw[kv,kv,b6];constructor
 · rintro⟨k,hk,e⟩;rw[eE hi hj]at e;split at e
   · exact⟨i,hi,e⟩
   · split at e
     · exact⟨j,hj,e⟩
     · exact⟨k,hk,e⟩
 · rintro⟨k,hk,e⟩;by_cases h1:k=i
   · refine⟨j,hj,?_⟩;rw[eE hi hj,if_pos rfl,<-h1];exact e
   · by_cases h2:k=j
     · refine⟨i,hi,?_⟩;rw[eE hi hj];split
       · rename_i h3;rw[h3,<-h2];exact e
       · rw[if_pos rfl,<-h2];exact e
     · refine⟨k,hk,?_⟩;rw[eE hi hj,if_neg h2,if_neg h1];exact e
def Hp(l:List aS):Prop:=∀j,0<j->j<l.length->leS (atS l ((j-1)/2)) (atS l j)
theorem Hp.top{l:List aS}(h:Hp l):∀(n j:Nat),j<n->j<l.length->leS (atS l 0) (atS l j)
 | 0,j,hn,_=>by omega
 | n+1,j,hn,hj=>by
   rcases zaG j with h0|h0
   · subst h0;exact leS.refl _
   · exact(h.top n ((j-1)/2) (by omega) (by omega)).trans (h j h0 hj)
def up:Nat->List aS->Nat->List aS
 | 0,l,_=>l
 | f+1,l,i=>if 0<i/\cO (atS l i) (atS l ((i-1)/2))=true then up f (gq l i ((i-1)/2)) ((i-1)/2)else l
def ic(l:List aS)(x:aS):List aS:=up (l.length+1) (l++[x]) l.length
theorem AI:∀(f:Nat) (l:List aS) (i:Nat),(up f l i).length=l.length
 | 0,_,_=>rfl
 | f+1,l,i=>by
   unfold up;split
   · rw[AI f,b6]
   · rfl
theorem AH:∀(f:Nat) (l:List aS) (i:Nat),i<l.length->∀x,x∈up f l i↔x∈l
 | 0,_,_,_,_=>Iff.rfl
 | f+1,l,i,hi,x=>by
   unfold up;split
   · rw[AH f _ _ (by rw[b6];omega),sZ hi (by omega)]
   · exact Iff.rfl
theorem DO:∀(f:Nat) (l:List aS) (i:Nat),i<f->i<l.length->
  (∀j,0<j->j<l.length->j≠i->leS (atS l ((j-1)/2)) (atS l j))->
  (∀j,0<j->j<l.length->(j-1)/2=i->0<i->leS (atS l ((i-1)/2)) (atS l j))->Hp (up f l i)
 | 0,_,_,h,_,_,_=>by omega
 | f+1,l,i,hf,hi,h1,h2=>by
   unfold up;split
   · rename_i hc;obtain⟨h0,hl⟩:=hc;(have hp:(i-1)/2<l.length:=by omega);have hlt:¬ leS (atS l ((i-1)/2)) (atS l i):=(lf _ _).1 hl;have hle:=leS.total hlt;refine DO f _ _ (by omega) (by rw[b6];exact hp) ?_ ?_
     · intro j j0 jl jn;rw[b6]at jl;rw[eE hi hp,eE hi hp,if_neg jn];by_cases e:j=i
       · subst e;rw[if_pos rfl,if_pos rfl];exact hle
       · rw[if_neg e];by_cases e2:(j-1)/2=(i-1)/2
         · rw[if_pos e2];have:=h1 j j0 jl e;rw[e2]at this;exact hle.trans this
         · rw[if_neg e2];by_cases e3:(j-1)/2=i
           · rw[if_pos e3];exact h2 j j0 jl e3 h0
           · rw[if_neg e3];exact h1 j j0 jl e
     · intro j j0 jl jp p0;rw[b6]at jl;have hpp:=h1 ((i-1)/2) p0 hp (by omega);rw[eE hi hp,eE hi hp,if_neg (show ¬ ((i-1)/2-1)/2=(i-1)/2 by omega),if_neg (show ¬ ((i-1)/2-1)/2=i by omega)];rw[if_neg (show ¬ j=(i-1)/2 by omega)];by_cases e:j=i
       · rw[if_pos e];exact hpp
       · rw[if_neg e];have:=h1 j j0 jl e;rw[jp]at this;exact hpp.trans this
   · rename_i hc;intro j j0 jl;by_cases e:j=i
     · subst e;have:cO (atS l j) (atS l ((j-1)/2))=false:=by
        rcases e:cO (atS l j) (atS l ((j-1)/2))with _|_
        · rfl
        · exact absurd ⟨j0,e⟩ hc
       exact(sj _ _).1 this
     · exact h1 j j0 jl e
theorem CB{l:List aS}{x:aS}{k:Nat}(h:k<l.length):atS (l++[x]) k=atS l k:=by
 rw[atS,atS,zay,zay,zbi h]
theorem xW{l:List aS}(h:Hp l)(x:aS):Hp (ic l x):=by
 refine DO _ _ _ (by omega) (by simp) ?_ ?_
 · intro j j0 jl jn;(have:j<l.length:=by simp at jl;omega);rw[CB (by omega),CB this];exact h j j0 this
 · intro j j0 jl jp _;simp at jl;omega
theorem kY(l:List aS)(x y:aS):y∈ic l x↔y∈l∨y=x:=by
 unfold ic;rw[AH _ _ _ (by simp)];simp
theorem tI(l:List aS)(x:aS):(ic l x).length=l.length+1:=by unfold ic;rw[AI];simp
def kid(l:List aS)(last i:Nat):Nat:=if 2*i+2<last/\cO (atS l (2*i+2)) (atS l (2*i+1))=true then 2*i+2 else 2*i+1
def down:Nat->List aS->Nat->List aS
 | 0,l,_=>l
 | f+1,l,i=>if l.length<=2*i+1 then l else if cO (atS l (kid l l.length i)) (atS l i)=true then down f (gq l i (kid l l.length i)) (kid l l.length i)else l
theorem uC:∀(f:Nat) (l:List aS) (i:Nat),(down f l i).length=l.length
 | 0,_,_=>rfl
 | f+1,l,i=>by
   unfold down;split
   · rfl
   · split
     · rw[uC f,b6]
     · rfl
theorem BP{l:List aS}{i:Nat}(h:2*i+1<l.length):kid l l.length i<l.length/\(kid l l.length i=2*i+1∨kid l l.length i=2*i+2):=by
 unfold kid;split
 · rename_i hc;exact⟨hc.1,.inr rfl⟩
 · exact⟨h,.inl rfl⟩
theorem BQ{l:List aS}{i j:Nat}(hj:j<l.length)(j0:0<j)(hp:(j-1)/2=i):leS (atS l (kid l l.length i)) (atS l j):=by
 have hj2:j=2*i+1∨j=2*i+2:=by omega
 unfold kid;split
 · rename_i hc;rcases hj2 with rfl|rfl
   · exact leS.total ((lf _ _).1 hc.2)
   · exact leS.refl _
 · rename_i hc;rcases hj2 with rfl|rfl
   · exact leS.refl _
   · have:cO (atS l (2*i+2)) (atS l (2*i+1))=false:=by
      rcases e:cO (atS l (2*i+2)) (atS l (2*i+1))with _|_
      · rfl
      · exact absurd ⟨hj,e⟩ hc
     exact(sj _ _).1 this
theorem uB:∀(f:Nat) (l:List aS) (i:Nat),i<l.length->∀x,x∈down f l i↔x∈l
 | 0,_,_,_,_=>Iff.rfl
 | f+1,l,i,hi,x=>by
   unfold down;split
   · exact Iff.rfl
   · rename_i h1;obtain⟨hk,_⟩:=BP (l:=l) (i:=i) (by omega);split
     · rw[uB f _ _ (by rw[b6];exact hk),sZ hi hk]
     · exact Iff.rfl
theorem yr:∀(f:Nat) (l:List aS) (i:Nat),l.length<f+i->i<l.length->
  (∀j,0<j->j<l.length->(j-1)/2≠i->leS (atS l ((j-1)/2)) (atS l j))->
  (∀j,0<j->j<l.length->(j-1)/2=i->0<i->leS (atS l ((i-1)/2)) (atS l j))->Hp (down f l i)
 | 0,_,_,h,h',_,_=>by omega
 | f+1,l,i,hf,hi,h1,h2=>by
   unfold down;split
   · rename_i hc;intro j j0 jl;exact h1 j j0 jl (by omega)
   · rename_i hc;obtain⟨hk,hk2⟩:=BP (l:=l) (i:=i) (by omega);split
     · rename_i hl;have hle:=leS.total ((lf _ _).1 hl);generalize hK:kid l l.length i=k at*;refine yr f _ _ (by rw[b6];omega) (by rw[b6];exact hk) ?_ ?_
       · intro j j0 jl jn;rw[b6]at jl;rw[eE hi hk,eE hi hk,if_neg jn];by_cases e:(j-1)/2=i
         · rw[if_pos e];have hkj:=BQ (l:=l) (i:=i) jl j0 e;rw[hK]at hkj;by_cases e2:j=k
           · rw[if_pos e2];exact hle
           · rw[if_neg e2,if_neg (by omega)];exact hkj
         · rw[if_neg e];by_cases e2:j=k
           · exfalso;omega
           · rw[if_neg e2];by_cases e3:j=i
             · subst e3;rw[if_pos rfl];exact h2 k (by omega) hk (by omega) j0
             · rw[if_neg e3];exact h1 j j0 jl e
       · intro j j0 jl jp k0;rw[b6]at jl;(have hki:(k-1)/2=i:=by omega);rw[eE hi hk,eE hi hk,hki,if_neg (show ¬ i=k by omega),if_pos rfl,if_neg (show ¬ j=k by omega),if_neg (show ¬ j=i by omega)];have:=h1 j j0 jl (by omega);rw[jp]at this;exact this
     · rename_i hl;(have hl':cO (atS l (kid l l.length i)) (atS l i)=false:=by simpa using hl);intro j j0 jl;by_cases e:(j-1)/2=i
       · rw[e];exact((sj _ _).1 hl').trans (BQ jl j0 e)
       · exact h1 j j0 jl e
def dJ(l:List aS):List aS:=down (l.length+1) ((l.set 0 (atS l (l.length-1))).take (l.length-1)) 0
theorem k6(l:List aS):(dJ l).length=l.length-1:=by unfold dJ;rw[uC];simp
theorem oG{l:List aS}{k:Nat}(h:k<l.length-1):atS ((l.set 0 (atS l (l.length-1))).take (l.length-1)) k=if k=0 then atS l (l.length-1)else atS l k:=by
 rw[atS,zay,zbo,if_pos h,zcg];by_cases e:0=k
 · subst e;rw[if_pos rfl,if_pos (by omega),if_pos rfl];rfl
 · rw[if_neg e,if_neg (fun x=>e x.symm),atS,zay]
theorem Bo{l:List aS}(h:Hp l):Hp (dJ l):=by
 rcases zbF 1 l.length with h1|h1
 · (have hl:((l.set 0 (atS l (l.length-1))).take (l.length-1)).length=l.length-1:=by simp);refine yr _ _ _ (by omega) (by omega) ?_ ?_
   · intro j j0 jl jn;rw[hl]at jl;rw[oG jl,oG (by omega),if_neg jn,if_neg (by omega)];exact h j j0 (by omega)
   · intro j _ _ _ hi;omega
 · intro j j0 jl;rw[k6]at jl;omega
theorem Dg{l:List aS}(hl:0<l.length)(y:aS):(y∈dJ l∨y=atS l 0)↔y∈l:=by
 rcases zbF 1 l.length with h1|h1
 · (have hlen:((l.set 0 (atS l (l.length-1))).take (l.length-1)).length=l.length-1:=by simp);unfold dJ;rw[uB _ _ _ (by omega),kv,kv,hlen];constructor
   · rintro(⟨k,hk,e⟩|e)
     · rw[oG hk]at e;split at e
       · exact⟨l.length-1,by omega,e⟩
       · exact⟨k,by omega,e⟩
     · exact⟨0,hl,e.symm⟩
   · rintro⟨k,hk,e⟩;by_cases k0:k=0
     · subst k0;exact .inr e.symm
     · left;by_cases kl:k=l.length-1
       · refine⟨0,by omega,?_⟩;rw[oG (by omega),if_pos rfl,<-kl];exact e
       · refine⟨k,by omega,?_⟩;rw[oG (by omega),if_neg k0];exact e
 · (have e1:l.length=1:=by omega);have e2:dJ l=[]:=zaH (by rw[k6,e1]);rw[e2]
   match l,e1 with
   | [x],_=>simp[atS]
structure Ds where
 cost:List Int
 hops:List Nat
 done:List Bool
 heap:List aS
def gN(l:List Nat)(i:Nat):Nat:=l.getD i 0
def gD(l:List Bool)(i:Nat):Bool:=l.getD i false
theorem wL(l:List Nat)(i j v:Nat)(h:i<l.length):gN (l.set i v) j=if i=j then v else gN l j:=by
 unfold gN;rw[zay,zay,zcg];by_cases e:i=j
 · subst e;simp[h]
 · simp[e]
theorem B7(l:List Bool)(i j:Nat)(v:Bool)(h:i<l.length):gD (l.set i v) j=if i=j then v else gD l j:=by
 unfold gD;rw[zay,zay,zcg];by_cases e:i=j
 · subst e;simp[h]
 · simp[e]
def ip(s n k:Nat)(st:Ds):Nat:=if n=s then 2^k else gN st.hops n
def g8(C:Nat->Nat->Nat)(s n:Nat)(st:Ds)(k:Nat):Ds:=
 if C n k=0∨1048576<gI st.cost n+C n k∨k=s then st
 else if gI st.cost n+C n k<gI st.cost k then
  { cost:=st.cost.set k (gI st.cost n+C n k),hops:=st.hops.set k (ip s n k st),done:=st.done,heap:=ic st.heap ⟨k,gI st.cost n+C n k⟩}
 else if gI st.cost n+C n k=gI st.cost k then{st with hops:=st.hops.set k (gN st.hops k|||ip s n k st)}
 else st
def bP(C:Nat->Nat->Nat)(s n:Nat)(st:Ds):Nat->Ds
 | 0=>st
 | k+1=>g8 C s n (bP C s n st k) k
def eR(st:Ds):Nat:=(atS st.heap 0).node.toNat
def ep(C:Nat->Nat->Nat)(D:Nat->Bool)(s:Nat)(st:Ds):Ds:=
 if gD st.done (eR st)=true then{st with heap:=dJ st.heap}
 else if eR st≠s/\D (eR st)=true then{st with heap:=dJ st.heap,done:=st.done.set (eR st) true}
 else bP C s (eR st) {st with heap:=dJ st.heap,done:=st.done.set (eR st) true} 12
def cd(st:Ds):Nat:=st.done.countP id
def mu(st:Ds):Nat:=13*(12-cd st)+st.heap.length
structure Inv(C:Nat->Nat->Nat)(D:Nat->Bool)(s:Nat)(R:Nat->Nat->Prop)(st:Ds):Prop where
 lc:st.cost.length=12
 lh:st.hops.length=12
 ld:st.done.length=12
 cs:gI st.cost s=0
 hs:gN st.hops s=0
 snd:∀i,i<12->i≠s->(gI st.cost i=1048577/\gN st.hops i=0)∨(0<=gI st.cost i/\gI st.cost i<=1048576/\Pth C D s (fun _=>True) i (gI st.cost i).toNat)
 hp:Hp st.heap
 ent:∀x,x∈st.heap->∃i:Nat,i<12/\x.node=i/\gI st.cost i<=x.cost/\x.cost<=1048576
 und:∀i,i<12->gI st.cost i<=1048576->gD st.done i=false->⟨i,gI st.cost i⟩∈st.heap
 dle:∀i,i<12->gD st.done i=true->gI st.cost i<=1048576/\∀x,x∈st.heap->gI st.cost i<=x.cost
 bnd:∀i,i<12->gI st.cost i<=1048576->gI st.cost i<=1000*(cd st:Int)
 rd:∀a b,R a b->a<12/\b<12/\gD st.done a=true/\(a=s∨D a=false)/\C a b≠0/\b≠s
 rel:∀a b,R a b->gI st.cost b<=gI st.cost a+C a b
 hop:∀b,b<12->b≠s->gI st.cost b<=1048576->∀j,(gN st.hops b).testBit j=true↔∃a,R a b/\gI st.cost a+C a b=gI st.cost b/\(if a=s then j=b else(gN st.hops a).testBit j=true)
 h12:∀b,gN st.hops b<4096
def Cov(C:Nat->Nat->Nat)(D:Nat->Bool)(s n k:Nat)(R:Nat->Nat->Prop)(st:Ds):Prop:=
 ∀a b,a<12->b<12->gD st.done a=true->(a=s∨D a=false)->C a b≠0->b≠s->R a b∨(a=n/\k<=b)
structure Cur(D:Nat->Bool)(s n:Nat)(st:Ds):Prop where
 lt:n<12
 dn:gD st.done n=true
 ok:n=s∨D n=false
 bd:gI st.cost n+1000<=1000*(cd st:Int)
 mx:∀a,a<12->gD st.done a=true->gI st.cost a<=gI st.cost n
section
variable {C:Nat->Nat->Nat} {D:Nat->Bool} {s:Nat} {R:Nat->Nat->Prop} {st:Ds}
theorem D1(h:st.done.length=12):cd st<=12:=by
 unfold cd;have:=List.countP_le_length (p:=id) (l:=st.done);omega
theorem Inv.nn(h:Inv C D s R st){i:Nat}(hi:i<12):0<=gI st.cost i:=by
 by_cases e:i=s
 · subst e;rw[h.cs];omega
 · rcases h.snd i hi e with⟨h1,_⟩|⟨h1,_⟩
   · omega
   · exact h1
theorem Ci{n k:Nat}(h:Inv C D s R st)(hc:Cur D s n st)(hk:k<12):Cur D s n (g8 C s n st k):=by
 unfold g8;split
 · exact hc
 · rename_i h0;split
   · rename_i h1;have hnk:gD st.done k=false:=by
      rcases e:gD st.done k with _|_
      · rfl
      · have:=hc.mx k hk e;omega
     (have ne:∀a,gD st.done a=true->¬ k=a:=fun a ha e=>by rw[e,ha]at hnk;cases hnk);refine⟨hc.lt,hc.dn,hc.ok,?_,fun a ha hd=> ?_⟩
     · show gI (st.cost.set k _) n+1000<=_;rw[g7 _ _ _ _ (by rw[h.lc];exact hk),if_neg (ne n hc.dn)];exact hc.bd
     · show gI (st.cost.set k _) a<=gI (st.cost.set k _) n;rw[g7 _ _ _ _ (by rw[h.lc];exact hk),g7 _ _ _ _ (by rw[h.lc];exact hk),if_neg (ne n hc.dn),if_neg (ne a hd)];exact hc.mx a ha hd
   · split
     · exact⟨hc.lt,hc.dn,hc.ok,hc.bd,hc.mx⟩
     · exact hc
theorem rf{n k:Nat}:(g8 C s n st k).done=st.done:=by
 unfold g8;split
 · rfl
 · split
   · rfl
   · split<;>rfl
theorem zZ{n k:Nat}:(g8 C s n st k).heap.length<=st.heap.length+1:=by
 unfold g8;split
 · omega
 · split
   · show(ic _ _).length<=_;rw[tI];omega
   · split<;>simp
theorem Ch{n k:Nat}(hC:∀a b,C a b<=1000)(h:Inv C D s R st)(hc:Cur D s n st)(hk:k<12)(hs12:s<12):
  Inv C D s (fun a b=>R a b∨(a=n/\b=k/\C n k≠0/\k≠s)) (g8 C s n st k):=by
 have hcd:=D1 h.ld;have hcn:=hC n k;have hbd:=hc.bd;have hn0:=h.nn hc.lt;have hdn:=h.dle n hc.lt hc.dn;unfold g8;split
 · rename_i h0;have hno:¬ (C n k≠0/\k≠s):=by
    rintro⟨e1,e2⟩;rcases h0 with e|e|e
    · exact e1 e
    · omega
    · exact e2 e
   have hR:∀a b,(R a b∨(a=n/\b=k/\C n k≠0/\k≠s))↔R a b:=fun a b=>⟨fun e=>e.elim id (fun e=>absurd ⟨e.2.2.1,e.2.2.2⟩ hno),.inl⟩;(have e:(fun a b=>R a b∨(a=n/\b=k/\C n k≠0/\k≠s))=R:=by funext a b;exact propext (hR a b));rw[e];exact h
 · rename_i h0;have hc0:C n k≠0:=fun e=>h0 (.inl e);have hks:k≠s:=fun e=>h0 (.inr (.inr e));have hM:gI st.cost n+C n k<=1048576:=by
    rcases Int.lt_or_le 1048576 (gI st.cost n+C n k)with e|e
    · exact absurd (.inr (.inl e)) h0
    · exact e
   have hpk:Pth C D s (fun _=>True) k (gI st.cost n+C n k).toNat:=by
    by_cases e:n=s
    · subst e;rw[h.cs];(have:((0:Int)+(C n k:Int)).toNat=C n k:=by omega);rw[this];exact .one k hk hks hc0 trivial
    · rcases h.snd n hc.lt e with⟨e1,_⟩|⟨e1,_,e3⟩
      · omega
      · (have:(gI st.cost n+(C n k:Int)).toNat=(gI st.cost n).toNat+C n k:=by omega);rw[this];exact .step n k _ e3 (hc.ok.resolve_left e) hk hks hc0
   have hf12:ip s n k st<4096:=by
    unfold ip;split
    · exact zas (Nat.pow_lt_pow_right (by omega) hk) (by decide)
    · exact h.h12 n
   (have hlk:k<st.cost.length:=by rw[h.lc];exact hk);(have hlh:k<st.hops.length:=by rw[h.lh];exact hk);have hfb:∀j,(ip s n k st).testBit j=true↔(if n=s then j=k else(gN st.hops n).testBit j=true):=by
    intro j;unfold ip;split
    · rw[Nat.testBit_two_pow];simp[eq_comm]
    · exact Iff.rfl
   have hrd':∀a b,(R a b∨(a=n/\b=k/\C n k≠0/\k≠s))->a<12/\b<12/\gD st.done a=true/\(a=s∨D a=false)/\C a b≠0/\b≠s:=by
    rintro a b (e|⟨rfl,rfl,_,_⟩)
    · exact h.rd a b e
    · exact⟨hc.lt,hk,hc.dn,hc.ok,hc0,hks⟩
   split
   · rename_i h1;have hnk:gD st.done k=false:=by
      rcases e:gD st.done k with _|_
      · rfl
      · have:=hc.mx k hk e;omega
     (have ne:∀a,gD st.done a=true->¬ k=a:=fun a ha e=>by rw[e,ha]at hnk;cases hnk);have gc:∀a,gI (st.cost.set k (gI st.cost n+C n k)) a=if k=a then gI st.cost n+C n k else gI st.cost a:=fun a=>g7 _ _ _ _ hlk;have gh:∀a,gN (st.hops.set k (ip s n k st)) a=if k=a then ip s n k st else gN st.hops a:=fun a=>wL _ _ _ _ hlh;refine⟨by simp[h.lc],by simp[h.lh],h.ld,?_,?_,?_,xW h.hp _,?_,?_,?_,?_,hrd',?_,?_,?_⟩
     · simp only[gc];rw[if_neg hks];exact h.cs
     · simp only[gh];rw[if_neg hks];exact h.hs
     · intro i hi his;simp only[gc,gh];by_cases e:k=i
       · subst e;rw[if_pos rfl,if_pos rfl];exact .inr ⟨by omega,hM,hpk⟩
       · rw[if_neg e,if_neg e];exact h.snd i hi his
     · intro x hx;rw[kY]at hx;rcases hx with hx|rfl
       · obtain⟨i,h2,h3,h4,h5⟩:=h.ent x hx;refine⟨i,h2,h3,?_,h5⟩;simp only[gc];split
         · rename_i e;subst e;omega
         · exact h4
       · exact⟨k,hk,rfl,by simp only[gc];rw[if_pos trivial];exact zbZ _,hM⟩
     · intro i hi hle hd;simp only[gc]at hle⊢;rw[kY];by_cases e:k=i
       · subst e;right;rw[if_pos rfl]
       · rw[if_neg e]at hle⊢;exact .inl (h.und i hi hle hd)
     · intro i hi hd;simp only[gc];rw[if_neg (ne i hd)];obtain⟨h2,h3⟩:=h.dle i hi hd;refine⟨h2,fun x hx=> ?_⟩;rw[kY]at hx;rcases hx with hx|rfl
       · exact h3 x hx
       · have:=hc.mx i hi hd;show gI st.cost i<=gI st.cost n+C n k;omega
     · intro i hi hle;simp only[gc]at hle⊢;show _<=1000*(cd st:Int);by_cases e:k=i
       · rw[if_pos e];omega
       · rw[if_neg e]at hle⊢;exact h.bnd i hi hle
     · intro a b hab;simp only[gc];have ha:=(hrd' a b hab).2.2.1;rw[if_neg (ne a ha)];rcases hab with hab|⟨rfl,rfl,_,_⟩
       · have:=h.rel a b hab;split
         · rename_i e;subst e;omega
         · exact this
       · rw[if_pos rfl];exact zbZ _
     · intro b hb hbs hle j;simp only[gc,gh]at hle⊢;by_cases e:k=b
       · subst e;rw[if_pos rfl,if_pos rfl,hfb];constructor
         · intro hj;refine⟨n,.inr ⟨rfl,rfl,hc0,hks⟩,?_,?_⟩
           · rw[if_neg (ne n hc.dn)]
           · rw[if_neg (ne n hc.dn)];exact hj
         · rintro⟨a,hab,h2,h3⟩;have ha:=(hrd' a k hab).2.2.1;rw[if_neg (ne a ha)]at h2 h3;rcases hab with hab|⟨rfl,_,_,_⟩
           · have:=h.rel a k hab;omega
           · exact h3
       · rw[if_neg e]at hle;rw[if_neg e,if_neg e,h.hop b hb hbs hle j];constructor
         · rintro⟨a,hab,h2,h3⟩;have ha:=(h.rd a b hab).2.2.1;exact⟨a,.inl hab,by rw[if_neg (ne a ha)];exact h2,by rw[if_neg (ne a ha)];exact h3⟩
         · rintro⟨a,hab,h2,h3⟩;have ha:=(hrd' a b hab).2.2.1;rw[if_neg (ne a ha)]at h2 h3;rcases hab with hab|⟨_,e2,_,_⟩
           · exact⟨a,hab,h2,h3⟩
           · exact absurd e2.symm e
     · intro b;simp only[gh];split
       · exact hf12
       · exact h.h12 b
   · rename_i h1;split
     · rename_i h2;have hnk:gD st.done k=false:=by
        rcases e:gD st.done k with _|_
        · rfl
        · have:=hc.mx k hk e;omega
       (have ne:∀a,gD st.done a=true->¬ k=a:=fun a ha e=>by rw[e,ha]at hnk;cases hnk);have gh:∀a,gN (st.hops.set k (gN st.hops k|||ip s n k st)) a=if k=a then gN st.hops k|||ip s n k st else gN st.hops a:=fun a=>wL _ _ _ _ hlh;refine⟨h.lc,by simp[h.lh],h.ld,h.cs,?_,?_,h.hp,h.ent,h.und,h.dle,h.bnd,hrd',?_,?_,?_⟩
       · simp only[gh];rw[if_neg hks];exact h.hs
       · intro i hi his;simp only[gh];rcases h.snd i hi his with⟨h3,h4⟩|h3
         · left;by_cases e:k=i
           · subst e;omega
           · rw[if_neg e];exact⟨h3,h4⟩
         · exact .inr h3
       · rintro a b (e|⟨rfl,rfl,_,_⟩)
         · exact h.rel a b e
         · show gI st.cost b<=gI st.cost a+C a b;omega
       · intro b hb hbs hle j;simp only[gh];by_cases e:k=b
         · subst e;rw[if_pos rfl,Nat.testBit_or,Bool.or_eq_true,h.hop k hb hbs hle j,hfb];constructor
           · rintro(⟨a,hab,h3,h4⟩|h3)
             · have ha:=(h.rd a k hab).2.2.1;exact⟨a,.inl hab,h3,by rw[if_neg (ne a ha)];exact h4⟩
             · exact⟨n,.inr ⟨rfl,rfl,hc0,hks⟩,h2,by rw[if_neg (ne n hc.dn)];exact h3⟩
           · rintro⟨a,hab,h3,h4⟩;have ha:=(hrd' a k hab).2.2.1;rw[if_neg (ne a ha)]at h4;rcases hab with hab|⟨rfl,_,_,_⟩
             · exact .inl ⟨a,hab,h3,h4⟩
             · exact .inr h4
         · rw[if_neg e,h.hop b hb hbs hle j];constructor
           · rintro⟨a,hab,h3,h4⟩;have ha:=(h.rd a b hab).2.2.1;exact⟨a,.inl hab,h3,by rw[if_neg (ne a ha)];exact h4⟩
           · rintro⟨a,hab,h3,h4⟩;have ha:=(hrd' a b hab).2.2.1;rw[if_neg (ne a ha)]at h4;rcases hab with hab|⟨_,e2,_,_⟩
             · exact⟨a,hab,h3,h4⟩
             · exact absurd e2.symm e
       · intro b;simp only[gh];split
         · exact Nat.or_lt_two_pow (n:=12) (h.h12 k) hf12
         · exact h.h12 b
     · rename_i h2;refine⟨h.lc,h.lh,h.ld,h.cs,h.hs,h.snd,h.hp,h.ent,h.und,h.dle,h.bnd,hrd',?_,?_,h.h12⟩
       · rintro a b (e|⟨rfl,rfl,_,_⟩)
         · exact h.rel a b e
         · show gI st.cost b<=gI st.cost a+C a b;omega
       · intro b hb hbs hle j;rw[h.hop b hb hbs hle j];constructor
         · rintro⟨a,hab,h3⟩;exact⟨a,.inl hab,h3⟩
         · rintro⟨a,hab|⟨rfl,rfl,_,_⟩,h3⟩
           · exact⟨a,hab,h3⟩
           · exact absurd h3.1 h2
theorem jV{n:Nat}(hC:∀a b,C a b<=1000)(hs12:s<12)(h:Inv C D s R st)(hc:Cur D s n st)(hv:Cov C D s n 0 R st):
  ∀k,k<=12->(∃R',Inv C D s R' (bP C s n st k)/\Cov C D s n k R' (bP C s n st k))/\Cur D s n (bP C s n st k)/\(bP C s n st k).done=st.done/\(bP C s n st k).heap.length<=st.heap.length+k
 | 0,_=>⟨⟨R,h,hv⟩,hc,rfl,zab _⟩
 | k+1,hk=>by
   obtain⟨⟨R',h1,h2⟩,h3,h4,h5⟩:=jV hC hs12 h hc hv k (by omega);refine⟨⟨_,Ch hC h1 h3 (by omega) hs12,?_⟩,Ci h1 h3 (by omega),?_,?_⟩
   · intro a b ha hb hd hda hab hbs;have hd':gD (bP C s n st k).done a=true:=by
      have:(g8 C s n (bP C s n st k) k).done=(bP C s n st k).done:=rf;rw[<-this];exact hd
     rcases h2 a b ha hb hd' hda hab hbs with h6|⟨h6,h7⟩
     · exact .inl (.inl h6)
     · by_cases e:b=k
       · left;right;subst e;subst h6;exact⟨rfl,rfl,hab,hbs⟩
       · exact .inr ⟨h6,by omega⟩
   · exact rf.trans h4
   · have:=zZ (C:=C) (s:=s) (st:=bP C s n st k) (n:=n) (k:=k);show(g8 C s n (bP C s n st k) k).heap.length<=_;omega
theorem yx:∀{l:List Bool} {i:Nat},i<l.length->gD l i=false->(l.set i true).countP id=l.countP id+1
 | [],i,h,_=>by simp at h
 | b::l,0,_,h=>by
   (have:b=false:=by simpa [gD]using h);subst this;simp
 | b::l,i+1,hi,h=>by
   have:=yx (l:=l) (i:=i) (by simpa using hi) (by simpa [gD]using h);simp only[zam,List.countP_cons,this];omega
theorem Ct:∀{l:List Bool} {i:Nat},i<l.length->gD l i=false->l.countP id<l.length
 | [],i,h,_=>by simp at h
 | b::l,0,_,h=>by
   (have:b=false:=by simpa [gD]using h);subst this;have:=List.countP_le_length (p:=id) (l:=l);simp;omega
 | b::l,i+1,hi,h=>by
   have:=Ct (l:=l) (i:=i) (by simpa using hi) (by simpa [gD]using h);simp only[List.countP_cons,zaD];split<;>omega
theorem tg(hC:∀a b,C a b<=1000)(hs12:s<12)(h:Inv C D s R st)(hv:Cov C D s 0 12 R st)(hl:0<st.heap.length):
  eR st<12/\(atS st.heap 0).node=(eR st:Int)/\(∃R',Inv C D s R' (ep C D s st)/\Cov C D s 0 12 R' (ep C D s st))/\mu (ep C D s st)<mu st/\
  (gD st.done (eR st)=false->(eR st=s∨D (eR st)=false)->∃R',Inv C D s R' {st with heap:=dJ st.heap,done:=st.done.set (eR st) true}/\Cur D s (eR st) {st with heap:=dJ st.heap,done:=st.done.set (eR st) true}/\Cov C D s (eR st) 0 R' {st with heap:=dJ st.heap,done:=st.done.set (eR st) true}):=by
 have hx0:atS st.heap 0∈st.heap:=kv.2 ⟨0,hl,rfl⟩;obtain⟨i,hi,hxi,hle,hxM⟩:=h.ent _ hx0;have hti:eR st=i:=by unfold eR;rw[hxi];rfl
 have hpm:=Dg hl;refine⟨by omega,by rw[hxi,hti],?_⟩;have hlen:=k6 st.heap;by_cases hd:gD st.done i=true
 · (have e:ep C D s st={st with heap:=dJ st.heap}:=by unfold ep;rw[hti,if_pos hd]);rw[e];refine⟨⟨R,⟨h.lc,h.lh,h.ld,h.cs,h.hs,h.snd,Bo h.hp,fun x hx=>h.ent x ((hpm x).1 (.inl hx)),fun j hj h1 h2=> ?_,fun j hj h1=> ?_,h.bnd,h.rd,h.rel,h.hop,h.h12⟩,hv⟩,?_,?_⟩
   · have h3:=h.und j hj h1 h2;rcases(hpm _).2 h3 with h4|h4
     · exact h4
     · rw[<-h4]at hxi;have:j=i:=by
        have h9:(j:Int)=(i:Int):=hxi;omega
       subst this;have h2':gD st.done j=false:=h2;rw[hd]at h2';cases h2'
   · obtain⟨h3,h4⟩:=h.dle j hj h1;exact⟨h3,fun x hx=>h4 x ((hpm x).1 (.inl hx))⟩
   · show 13*(12-cd st)+(dJ st.heap).length<13*(12-cd st)+st.heap.length;omega
   · rw[hti,hd];intro e;cases e
 · (have hd':gD st.done i=false:=by simpa using hd);have hin:=h.und i hi (by omega) hd';have hxc:(atS st.heap 0).cost=gI st.cost i:=by
    obtain⟨k,hk,e⟩:=kv.1 hin;have:=(h.hp.top (k+1) k (by omega) hk).cost;rw[e]at this;have:(atS st.heap 0).cost<=gI st.cost i:=this;omega
   have hcd2:cd {st with heap:=dJ st.heap,done:=st.done.set i true}=cd st+1:=yx (by rw[h.ld];exact hi) hd';(have hcl:cd st<12:=by have:=Ct (l:=st.done) (i:=i) (by rw[h.ld];exact hi) hd';rw[h.ld]at this;exact this);have gd:∀j,gD (st.done.set i true) j=if i=j then true else gD st.done j:=fun j=>B7 _ _ _ _ (by rw[h.ld];exact hi);have hI:Inv C D s R {st with heap:=dJ st.heap,done:=st.done.set i true}:=by
    refine⟨h.lc,h.lh,by simp[h.ld],h.cs,h.hs,h.snd,Bo h.hp,fun x hx=>h.ent x ((hpm x).1 (.inl hx)),?_,?_,?_,?_,h.rel,h.hop,h.h12⟩
    · intro j hj h1 h2;simp only[gd]at h2;by_cases e:i=j
      · rw[if_pos e]at h2;cases h2
      · rw[if_neg e]at h2;rcases(hpm _).2 (h.und j hj h1 h2)with h4|h4
        · exact h4
        · rw[<-h4]at hxi;have:j=i:=by
           have h9:(j:Int)=(i:Int):=hxi;omega
          exact absurd this.symm e
    · intro j hj h2;simp only[gd]at h2;by_cases e:i=j
      · subst e;refine⟨by show gI st.cost i<=_;omega,fun x hx=> ?_⟩;obtain⟨k,hk,e⟩:=kv.1 ((hpm x).1 (.inl hx));have:=(h.hp.top (k+1) k (by omega) hk).cost;rw[e]at this;show gI st.cost i<=x.cost;omega
      · rw[if_neg e]at h2;obtain⟨h3,h4⟩:=h.dle j hj h2;exact⟨h3,fun x hx=>h4 x ((hpm x).1 (.inl hx))⟩
    · intro j hj h1;rw[hcd2];have:=h.bnd j hj h1;show gI st.cost j<=_;omega
    · intro a b hab;obtain⟨h1,h2,h3,h4⟩:=h.rd a b hab;refine⟨h1,h2,?_,h4⟩;simp only[gd];split
      · rfl
      · exact h3
   by_cases hq:i≠s/\D i=true
   · (have e:ep C D s st={st with heap:=dJ st.heap,done:=st.done.set i true}:=by unfold ep;rw[hti,if_neg hd,if_pos hq]);rw[e];refine⟨⟨R,hI,?_⟩,?_,?_⟩
     · intro a b ha hb hda h1 h2 h3;simp only[gd]at hda;by_cases e2:i=a
       · subst e2;rcases h1 with h1|h1
         · exact absurd h1 hq.1
         · rw[hq.2]at h1;cases h1
       · rw[if_neg e2]at hda;exact hv a b ha hb hda h1 h2 h3
     · unfold mu;rw[hcd2];show 13*(12-(cd st+1))+(dJ st.heap).length<_;omega
     · rw[hti];intro _ h1;rcases h1 with h1|h1
       · exact absurd h1 hq.1
       · rw[hq.2]at h1;cases h1
   · (have e:ep C D s st=bP C s i {st with heap:=dJ st.heap,done:=st.done.set i true} 12:=by unfold ep;rw[hti,if_neg hd,if_neg hq]);have hok:i=s∨D i=false:=by
      by_cases e1:i=s
      · exact .inl e1
      · right;rcases e2:D i with _|_
        · rfl
        · exact absurd ⟨e1,e2⟩ hq
     have hcur:Cur D s i {st with heap:=dJ st.heap,done:=st.done.set i true}:=by
      refine⟨hi,?_,hok,?_,?_⟩
      · simp only[gd];rw[if_pos trivial]
      · rw[hcd2];have:=h.bnd i hi (by omega);show gI st.cost i+1000<=_;omega
      · intro a ha h1;simp only[gd]at h1;by_cases e2:i=a
        · subst e2;exact zbZ _
        · rw[if_neg e2]at h1;have:=(h.dle a ha h1).2 _ hx0;show gI st.cost a<=gI st.cost i;omega
     have hcov:Cov C D s i 0 R {st with heap:=dJ st.heap,done:=st.done.set i true}:=by
      intro a b ha hb hda h1 h2 h3;simp only[gd]at hda;by_cases e2:i=a
      · exact .inr ⟨e2.symm,zap _⟩
      · rw[if_neg e2]at hda;rcases hv a b ha hb hda h1 h2 h3 with h4|⟨_,h4⟩
        · exact .inl h4
        · omega
     obtain⟨⟨R',h1,h2⟩,h3,h4,h5⟩:=jV hC hs12 hI hcur hcov 12 (zab _);rw[e];refine⟨⟨R',h1,?_⟩,?_,?_⟩
     · intro a b ha hb hda h6 h7 h8;rcases h2 a b ha hb hda h6 h7 h8 with h9|⟨_,h9⟩
       · exact .inl h9
       · omega
     · unfold mu;(have:cd (bP C s i {st with heap:=dJ st.heap,done:=st.done.set i true} 12)=cd st+1:=by rw[<-hcd2];unfold cd;rw[h4]);rw[this];have h5':(bP C s i {st with heap:=dJ st.heap,done:=st.done.set i true} 12).heap.length<=(dJ st.heap).length+12:=h5;omega
     · rw[hti];intro _ _;exact⟨R,hI,hcur,hcov⟩
theorem vB(hC:∀a b,C a b<=1000)(h:Inv C D s R st)(hv:Cov C D s 0 12 R st)(hs12:s<12)(hl:st.heap=[]){i:Nat}(hi:i<12)(his:i≠s):
  (gI st.cost i=1048577/\gN st.hops i=0/\∀c,¬ Pth C D s (fun _=>True) i c)∨
  ∃m:Nat,gI st.cost i=m/\m<=1048576/\Mn C D s (fun _=>True) i m/\∀j,(gN st.hops i).testBit j=true↔Pth C D s (·=j) i m:=by
 have hdn:∀i,i<12->gI st.cost i<=1048576->gD st.done i=true:=by
  intro i hi hle;rcases e:gD st.done i with _|_
  · have:=h.und i hi hle e;rw[hl]at this;simp at this
  · rfl
 have hcd:=D1 h.ld;have hR:∀a b,a<12->b<12->gI st.cost a<=1048576->(a=s∨D a=false)->C a b≠0->b≠s->R a b:=by
  intro a b ha hb h1 h2 h3 h4;rcases hv a b ha hb (hdn a ha h1) h2 h3 h4 with h5|⟨_,h5⟩
  · exact h5
  · omega
 have low:∀F i c,Pth C D s F i c->gI st.cost i<=c/\gI st.cost i<=1048576:=by
  intro F i c hp
  induction hp with
  | one k h1 h2 h3 h4=>
    have:=h.rel s k (hR s k hs12 h1 (by rw[h.cs];omega) (.inl rfl) h3 h2);have h5:=hC s k;rw[h.cs]at this;omega
  | step a b c hp h1 h2 h3 h4 ih=>
    have:=h.rel a b (hR a b hp.lt.1 h2 ih.2 (.inr h1) h4 h3);have h5:=hC a b;have h6:=h.bnd a hp.lt.1 ih.2;omega
 rcases h.snd i hi his with⟨h1,h2⟩|⟨h1,h2,h3⟩
 · left;refine⟨h1,h2,fun c hc=> ?_⟩;have:=(low _ i c hc).2;omega
 · right;refine⟨(gI st.cost i).toNat,by omega,by omega,⟨h3,fun c hc=> ?_⟩,fun j=>⟨?_,?_⟩⟩
   · have:=(low _ i c hc).1;omega
   · have key:∀(n:Nat) (i:Nat),i<12->i≠s->gI st.cost i<=1048576->(gI st.cost i).toNat<n->(gN st.hops i).testBit j=true->Pth C D s (·=j) i (gI st.cost i).toNat:=by
      intro n
      induction n with
      | zero=>intro i _ _ _ e;omega
      | succ n ih=>
        intro i hi his hle hn hj;obtain⟨a,hab,h4,h5⟩:=(h.hop i hi his hle j).1 hj;obtain⟨ha,_,_,h6,h7,_⟩:=h.rd a i hab;have hna:=h.nn ha;by_cases e:a=s
        · subst e;rw[if_pos rfl]at h5;rw[h.cs]at h4;(have e3:(gI st.cost i).toNat=C a i:=by omega);rw[e3];exact .one i hi his h7 h5.symm
        · rw[if_neg e]at h5;have h8:=ih a ha e (by omega) (by omega) h5;(have e3:(gI st.cost i).toNat=(gI st.cost a).toNat+C a i:=by omega);rw[e3];exact .step a i _ h8 (h6.resolve_left e) hi his h7
     exact key _ i hi his h2 (zbt _)
   · intro hp;have key:∀i c,Pth C D s (·=j) i c->c=(gI st.cost i).toNat->(gN st.hops i).testBit j=true:=by
      intro i c hp
      induction hp with
      | one k h1 h2 h3 h4=>
        intro hc;have h5:=low _ k _ (.one (F:=fun _=>True) (D:=D) k h1 h2 h3 trivial);have h6:=h.nn h1;refine(h.hop k h1 h2 h5.2 j).2 ⟨s,hR s k hs12 h1 (by rw[h.cs];omega) (.inl rfl) h3 h2,by rw[h.cs];omega,by rw[if_pos rfl];exact h4.symm⟩
      | step a b c hp h1 h2 h3 h4 ih=>
        intro hc;have h5:=low _ a c hp;have h6:=low _ b _ (.step a b c hp h1 h2 h3 h4);have h7:=h.nn hp.lt.1;have h8:=h.nn h2;have hr:=hR a b hp.lt.1 h2 h5.2 (.inr h1) h4 h3;have h9:=h.rel a b hr;(have hca:c=(gI st.cost a).toNat:=by omega);exact(h.hop b h2 h3 h6.2 j).2 ⟨a,hr,by omega,by rw[if_neg hp.lt.2.1];exact ih hca⟩
     exact key i _ hp rfl
end
def ini(s:Nat):Ds:=⟨(List.replicate 12 1048577).set s 0,List.replicate 12 0,List.replicate 12 false,ic [] ⟨s,0⟩⟩
theorem sx(i:Nat):gN (List.replicate 12 0) i=0:=by
 unfold gN;rw[zay,zbE];split<;>rfl
theorem wN(i:Nat):gD (List.replicate 12 false) i=false:=by
 unfold gD;rw[zay,zbE];split<;>rfl
theorem iP{s i:Nat}(hs:s<12)(hi:i<12):gI ((List.replicate 12 (1048577:Int)).set s 0) i=if s=i then 0 else 1048577:=by
 rw[g7 _ _ _ _ (by simpa using hs)];split
 · rfl
 · unfold gI;rw[zay,zbE,if_pos hi];rfl
theorem yi(C:Nat->Nat->Nat)(D:Nat->Bool){s:Nat}(hs:s<12):Inv C D s (fun _ _=>False) (ini s)/\Cov C D s 0 12 (fun _ _=>False) (ini s):=by
 have hm:∀x,x∈(ini s).heap↔x=⟨s,0⟩:=by intro x;unfold ini;simp only;rw[kY];simp
 refine⟨⟨by simp[ini],by simp[ini],by simp[ini],?_,sx _,?_,?_,?_,?_,?_,?_,fun _ _ h=>h.elim,fun _ _ h=>h.elim,?_,?_⟩,?_⟩
 · show gI ((List.replicate 12 (1048577:Int)).set s 0) s=0;rw[iP hs hs,if_pos rfl]
 · intro i hi his;left;refine⟨?_,sx _⟩;show gI ((List.replicate 12 (1048577:Int)).set s 0) i=_;rw[iP hs hi,if_neg (fun e=>his e.symm)]
 · show Hp (ic [] ⟨s,0⟩);exact xW (by intro j _ h;simp at h) _
 · intro x hx;rw[hm]at hx;subst hx;refine⟨s,hs,rfl,?_,by show(0:Int)<=1048576;omega⟩;show gI ((List.replicate 12 (1048577:Int)).set s 0) s<=0;rw[iP hs hs,if_pos rfl];omega
 · intro i hi hle _;have hle':gI ((List.replicate 12 (1048577:Int)).set s 0) i<=1048576:=hle;rw[iP hs hi]at hle';split at hle'
   · rename_i e;subst e;rw[hm];show aS.mk (s:Int) (gI ((List.replicate 12 (1048577:Int)).set s 0) s)=_;rw[iP hs hs,if_pos rfl]
   · omega
 · intro i _ h;have h':gD (List.replicate 12 false) i=true:=h;rw[wN]at h';cases h'
 · intro i hi hle;have hle':gI ((List.replicate 12 (1048577:Int)).set s 0) i<=1048576:=hle;rw[iP hs hi]at hle';show gI ((List.replicate 12 (1048577:Int)).set s 0) i<=_;rw[iP hs hi];split at hle'<;>split<;>omega
 · intro b hb hbs hle j;have hle':gI ((List.replicate 12 (1048577:Int)).set s 0) b<=1048576:=hle;rw[iP hs hb,if_neg (fun e=>hbs e.symm)]at hle';omega
 · intro b;show gN (List.replicate 12 0) b<4096;rw[sx];omega
 · intro a b _ _ h;have h':gD (List.replicate 12 false) a=true:=h;rw[wN]at h';cases h'
end
section
open Go
theorem pg{b:List ab}(hb:b.Pairwise ltE){n:Nat}(hn:n<b.length)(k:ByteArray):bR (b.take (n+1)) k=if b[n].key=k then some b[n]else bR (b.take n) k:=by
 rw[zar hn];unfold bR;rw[List.find?_append];by_cases e:b[n].key=k
 · have hnone:(b.take n).find? (fun e=>decide (e.key=k))=none:=by
    rw[zbQ];intro x hx hk;obtain⟨i,hi,rfl⟩:=zau hx;rw[zat]at hi;have hlt:ltE b[i] b[n]:=zaR.1 hb i n (by omega) hn (by omega);rw[zbS]at hk;have hk':b[i].key=k:=of_decide_eq_true hk;unfold ltE at hlt;rw[hk',e]at hlt;rw[cV]at hlt;cases hlt
   rw[hnone,if_pos e];simp[e]
 · rw[if_neg e];simp[e]
theorem mn(b:UInt8):∀l:List UInt8,(l=(cQ b l).1++b::(cQ b l).2.1)∨(cQ b l).2.1=[]
 | []=> .inr rfl
 | c::r=>by
   unfold cQ;by_cases e:c=b
   · rw[if_pos e];left;subst e;rfl
   · rw[if_neg e];rcases mn b r with h|h
     · left;show c::r=c::(cQ b r).1++b::(cQ b r).2.1;rw[zbX,<-h]
     · exact .inr h
theorem nl(e:ab){n:Nat}(hn:n<12):(ik e=[97]/\gE e=n)↔e.key=bQ n:=by
 unfold ik gE;constructor
 · rintro⟨h1,h2⟩;obtain⟨m,h3,_,h5⟩:=ng (s:=(cQ 58 e.key.data.toList).2.1) (most:=11) (by omega);(have hm:m=n:=by omega);subst hm;rcases mn 58 e.key.data.toList with h|h
   · unfold bQ;rw[h1,h3]at h;rw[<-lH e.key,h];rfl
   · rw[h]at h3;exact absurd h3.symm (sB m)
 · intro h;have hc:cQ 58 e.key.data.toList=([97],Lib.decDigits n,true):=by
    rw[h];unfold bQ;rw[cG];exact lB (a:=[97]) (Lib.decDigits n) (by decide)
   rw[hc];exact⟨rfl,sg n 11 (by omega) (by omega)⟩
theorem tm{l:List cY}(h:aw l=0):∀(d i:Nat) (hi:i+d+1<l.length),(l[i]'(by omega)).node<l[i+d+1].node
 | 0,i,hi=>lQ h i hi
 | d+1,i,hi=>by
   have h1:=tm h d i (by omega);have h2:=lQ h (i+d+1) hi;exact Int.lt_trans h1 h2
theorem vX{C:Nat->Nat->Int}{n a b:Nat}(ha:a≠n):∀l:List cY,dF C n l a b=C a b:=by
 intro l
 induction l generalizing C with
 | nil=>rfl
 | cons x l ih=>
   show dF (iF n C x) n l a b=_;rw[ih];unfold iF;split
   · rfl
   · unfold dN;rw[if_neg (fun h=>ha h.1)]
theorem zc{C:Nat->Nat->Int}{n:Nat}(h0:C n n=0):∀l:List cY,(∀x∈l,0<=x.node)->dF C n l n n=0:=by
 intro l
 induction l generalizing C with
 | nil=>intro _;exact h0
 | cons x l ih=>
   intro hx;show dF (iF n C x) n l n n=_;refine ih ?_ (fun y hy=>hx y (by simp[hy]));unfold iF;split
   · exact h0
   · rename_i h;have:=hx x (by simp);unfold dN;rw[if_neg (fun e=>h (by omega))];exact h0
theorem qu{C:Nat->Nat->Int}{n b:Nat}{l:List cY}(hl:aw l=0)(hC:C n b=0)(hb:b≠n):∀k,k<=l.length->dF C n (l.take k) n b=dL (l.take k) b
 | 0,_=>by simp[dF,dL,hC]
 | k+1,hk=>by
   have hk':k<l.length:=hk;have ih:=qu hl hC hb k (by omega);rw[ka hk'];have hkb:=ef hl k hk';have hsc:dL (l.take (k+1)) b=if l[k].node=b then l[k].cost else dL (l.take k) b:=by
    rw[zar hk'];unfold dL;rw[List.find?_append];by_cases e:l[k].node=b
    · have hnone:(l.take k).find? (fun x=>decide (x.node=(b:Int)))=none:=by
       rw[zbQ];intro x hx hk2;obtain⟨i,hi,rfl⟩:=zau hx;rw[zat]at hi;rw[zbS]at hk2;have hk3:l[i].node=b:=of_decide_eq_true hk2;have hlt:=tm hl (k-i-1) i (by omega);(have he:i+(k-i-1)+1=k:=by omega);simp only[he]at hlt;omega
      rw[hnone,if_pos e];simp[e]
    · rw[if_neg e];simp[e]
   rw[hsc];unfold iF;by_cases e:l[k].node=b
   · rw[if_neg (by omega),if_pos e];unfold dN;rw[if_pos ⟨rfl,by omega⟩]
   · rw[if_neg e];split
     · exact ih
     · unfold dN;rw[if_neg (fun h=>e (by omega))];exact ih
theorem fQ{xs:List ab}(h:OkS xs){k:Nat}(hk:k<xs.length)(n:Nat):aP (xs.take (k+1)) n=if xs[k].key=bQ n then((aJ xs[k].value.data.toList).1,(aJ xs[k].value.data.toList).2.1)else aP (xs.take k) n:=by
 unfold aP;rw[pg h.ord hk];by_cases e:xs[k].key=bQ n
 · rw[if_pos e,if_pos e]
 · rw[if_neg e,if_neg e]
theorem xm{xs:List ab}(h:OkS xs){k:Nat}(hk:k<xs.length){n:Nat}(e:xs[k].key=bQ n):aP (xs.take k) n=(false,[]):=by
 unfold aP;have:bR (xs.take k) (bQ n)=none:=by
  unfold bR;rw[zbQ];intro x hx hk2;obtain⟨i,hi,rfl⟩:=zau hx;rw[zat]at hi;have hlt:ltE xs[i] xs[k]:=zaR.1 h.ord i k (by omega) hk (by omega);rw[zbS]at hk2;have hk':xs[i].key=bQ n:=of_decide_eq_true hk2;unfold ltE at hlt;rw[hk',e]at hlt;rw[cV]at hlt;cases hlt
 rw[this]
theorem ul{xs:List ab}(h:OkS xs):∀k,k<=xs.length->(∀a b,a<12->b<12->(bq xs k).C a b=if a=b then 0 else dL (aP (xs.take k) a).2 b)/\(∀a,a<12->(bq xs k).D a=(aP (xs.take k) a).1)
 | 0,_=>by
   refine⟨fun a b _ _=> ?_,fun a _=>rfl⟩;show(0:Int)=_;split<;>rfl
 | k+1,hk=>by
   have hk':k<xs.length:=hk;obtain⟨ih1,ih2⟩:=ul h k (by omega);rw[ky hk'];rcases jq xs[k]with hn|⟨n,hn,hn12⟩
   · (have hno:∀a,a<12->xs[k].key≠bQ a:=fun a ha e=>by have:=((nl xs[k] ha).2 e).2;omega);(have hs:en (bq xs k) xs[k]=bq xs k:=by unfold en;rw[if_pos hn]);rw[hs];refine⟨fun a b ha hb=> ?_,fun a ha=> ?_⟩
     · rw[fQ h hk',if_neg (hno a ha)];exact ih1 a b ha hb
     · rw[fQ h hk',if_neg (hno a ha)];exact ih2 a ha
   · (have hnn:¬ gE xs[k]<0:=by omega);(have hnt:(gE xs[k]).toNat=n:=by omega);by_cases hk1:ik xs[k]=[97]
     · have hkey:xs[k].key=bQ n:=(nl xs[k] hn12).1 ⟨hk1,hn⟩;(have hs:en (bq xs k) xs[k]=tj (bq xs k) n xs[k].value.data.toList:=by unfold en;rw[if_neg hnn,if_pos hk1,hnt]);(have hoth:∀a,a<12->a≠n->xs[k].key≠bQ a:=fun a ha hne e=>by have:=((nl xs[k] ha).2 e).2;omega);rw[hs];have hbef:=xm h hk' hkey;have hchk:=jm xs[k].value.data.toList;refine⟨fun a b ha hb=> ?_,fun a ha=> ?_⟩
       · show dF (bq xs k).C n (aJ xs[k].value.data.toList).2.1 a b=_;by_cases e:a=n
         · subst e;rw[fQ h hk',if_pos hkey];by_cases e2:a=b
           · subst e2;rw[if_pos rfl];refine zc (by rw[ih1 a a ha ha,if_pos rfl]) _ (fun x hx=> ?_);obtain⟨i,hi,rfl⟩:=zau hx;exact(ef hchk i hi).1
           · rw[if_neg e2];have:=qu (C:=(bq xs k).C) (n:=a) (b:=b) hchk (by rw[ih1 a b ha hb,if_neg e2,hbef];rfl) (fun e=>e2 e.symm) _ (zab _);rw[zaN]at this;exact this
         · rw[vX e,fQ h hk',if_neg (hoth a ha e)];exact ih1 a b ha hb
       · show(if a=n then(aJ xs[k].value.data.toList).1 else(bq xs k).D a)=_;by_cases e:a=n
         · subst e;rw[fQ h hk',if_pos hkey,if_pos rfl]
         · rw[if_neg e,fQ h hk',if_neg (hoth a ha e)];exact ih2 a ha
     · have hno:∀a,a<12->xs[k].key≠bQ a:=fun a ha e=>hk1 ((nl xs[k] ha).2 e).1;have hs:(en (bq xs k) xs[k]).C=(bq xs k).C/\(en (bq xs k) xs[k]).D=(bq xs k).D:=by
        unfold en;rw[if_neg hnn,if_neg hk1];split<;>exact⟨rfl,rfl⟩
       rw[hs.1,hs.2];refine⟨fun a b ha hb=> ?_,fun a ha=> ?_⟩
       · rw[fQ h hk',if_neg (hno a ha)];exact ih1 a b ha hb
       · rw[fQ h hk',if_neg (hno a ha)];exact ih2 a ha
theorem sw{xs:List ab}(h:aj xs=0):(∀a b,a<12->b<12->(mg xs).C a b=(bB xs a b:Nat))/\(∀a,a<12->(mg xs).D a=(aP xs a).1):=by
 obtain⟨h1,h2⟩:=ul (dX h) xs.length (zab _);rw[zaN]at h1 h2;refine⟨fun a b ha hb=> ?_,h2⟩;show lO (bq xs xs.length).C a b=_;unfold lO bB;rw[h1 a b ha hb,h1 b a hb ha];by_cases e:a=b
 · subst e;rw[if_neg (fun h=>h.1 rfl),if_pos rfl,if_pos (.inl rfl)];rfl
 · rw[if_neg e,if_neg (show ¬ b=a from fun x=>e x.symm)];have hle:=kQ (jX xs a) b;by_cases e2:dL (aP xs b).2 a=0
   · rw[if_pos ⟨e,.inr e2⟩,if_pos (.inr e2)];rfl
   · rw[if_neg (show ¬ (a=b∨dL (aP xs b).2 a=0)by rintro(h|h)<;>contradiction)];split
     · rename_i h3;rcases h3.2 with h4|h4
       · rw[h4];rfl
       · exact absurd h4 e2
     · omega
def d8(h:Nat):Nat->List Int
 | 0=>[]
 | k+1=>if h.testBit k=true then d8 h k++[(k:Int)]else d8 h k
def fO(st:Ds)(q:Nat):Int:=if gI st.cost q<=1048576 then gI st.cost q else-1
def mT(st:Ds)(q:Nat):Way:=⟨fO st q,d8 (gN st.hops q) 12⟩
theorem kE(h:Nat):∀k,(d8 h k).length<=k
 | 0=>zab _
 | k+1=>by
   have:=kE h k;unfold d8;split
   · simp;omega
   · omega
theorem gH:∀k,d8 0 k=[]
 | 0=>rfl
 | k+1=>by unfold d8;rw[if_neg (by simp)];exact gH k
theorem Pth.same{C:Nat->Nat->Nat}{D:Nat->Bool}{s:Nat}{F G:Nat->Prop}(h:∀k,F k↔G k){i c:Nat}:Pth C D s F i c↔Pth C D s G i c:=
 ⟨Pth.mono fun k=>(h k).1,Pth.mono fun k=>(h k).2⟩
theorem yl(k:Nat):eW (-1) k=true↔True:=by unfold eW;simp
theorem yk(j k:Nat):eW (j:Int) k=true↔k=j:=by
 unfold eW;simp only[Bool.or_eq_true,decide_eq_true_eq];omega
theorem nF{xs:List ab}{s:Nat}(hs:s<12){C:Nat->Nat->Nat}{D:Nat->Bool}(hC:∀a b,C a b=bB xs a b)(hD:∀a,D a=(aP xs a).1){R:Nat->Nat->Prop}{st:Ds}(h:Inv C D s R st)(hv:Cov C D s 0 12 R st)(hl:st.heap=[]){q:Nat}(hq:q<12):
  mT st q=ax xs s q:=by
 obtain rfl:C=bB xs:=by funext a b;exact hC a b
 obtain rfl:D=fun a=>(aP xs a).1:=by funext a;exact hD a
 unfold ax mT;by_cases hqs:q=s
 · subst hqs;rw[if_pos rfl];unfold fO;rw[h.cs,h.hs,gH];rfl
 · rw[if_neg hqs];have hr:=gP (C:=bB xs) (D:=fun a=>(aP xs a).1) (s:=s) (F:=eW (-1)) q;have hall:∀c,Pth (bB xs) (fun a=>(aP xs a).1) s (fun k=>eW (-1) k=true) q c↔Pth (bB xs) (fun a=>(aP xs a).1) s (fun _=>True) q c:=fun c=>Pth.same yl;have hst:=vB (fun a b=>ij xs a b) h hv hs hl hq hqs;have hco:fX xs s q=gI (ib (bB xs) (fun a=>(aP xs a).1) s (eV (bB xs) s (eW (-1))) 12) q:=rfl;rcases hst with⟨e1,e2,e3⟩|⟨m,e1,e2,e3,e4⟩
   · have hc:fX xs s q= -1:=by
      rcases hr with⟨r1,_⟩|⟨m,_,r2⟩
      · rw[hco,r1]
      · exact absurd ((hall _).1 r2.1) (e3 m)
     unfold fO bO;rw[e1,e2,hc,gH,if_neg (by omega),if_pos (by omega)]
   · have hc:fX xs s q=m:=by
      rcases hr with⟨_,r1⟩|⟨m',r1,r2⟩
      · exact absurd ((hall _).2 e3.1) (r1 m)
      · have:m'=m:=Mn.uniq ⟨(hall _).1 r2.1,fun c hc=>r2.2 c ((hall c).2 hc)⟩ e3;rw[hco,r1,this]
     have hbit:∀k,(gN st.hops q).testBit k=true↔gI (fY xs s (k:Int) 12) q=m:=by
      intro k;rw[e4 k];have hone:∀c,Pth (bB xs) (fun a=>(aP xs a).1) s (fun i=>eW (k:Int) i=true) q c↔Pth (bB xs) (fun a=>(aP xs a).1) s (·=k) q c:=fun c=>Pth.same (yk k);have hb:fY xs s (k:Int) 12=ib (bB xs) (fun a=>(aP xs a).1) s (eV (bB xs) s (eW (k:Int))) 12:=rfl;rw[hb];rcases gP (C:=bB xs) (D:=fun a=>(aP xs a).1) (s:=s) (F:=eW (k:Int)) q with⟨r1,r2⟩|⟨m',r1,r2⟩
      · rw[r1];constructor
        · intro hp;exact absurd ((hone _).2 hp) (r2 m)
        · intro e;omega
      · rw[r1];constructor
        · intro hp;have h1:=r2.2 m ((hone m).2 hp);have h2:=e3.2 m' (Pth.mono (fun _ _=>trivial) r2.1);omega
        · intro e;(have:m'=m:=by omega);rw[<-this];exact(hone _).1 r2.1
     have hh:∀k,d8 (gN st.hops q) k=fW xs s q m k:=by
      intro k
      induction k with
      | zero=>rfl
      | succ k ih=>
        unfold d8 fW;rw[ih];by_cases e:gI (fY xs s (k:Int) 12) q=m
        · rw[if_pos e,if_pos ((hbit k).2 e)]
        · rw[if_neg e,if_neg (fun x=>e ((hbit k).1 x))]
     unfold fO bO;rw[e1,hc,hh,if_pos (by omega),if_neg (by omega)]
end
end Go.Proofs.YtojojpjldkpmoaaGreatDoor
