/-
  
-/
import Derived.Test.YtojojpjldkpmoaaGreatDoorGTaE
import Derived.Test.YtojojpjldkpmoaaGreatDoorGStM
import Derived.Test.YtojojpjldkpmoaaGreatDoorGStE
import Derived.Test.YtojojpjldkpmoaaGreatDoorGDoG
import Derived.Test.YtojojpjldkpmoaaGreatDoorGDeB
import Derived.Test.YtojojpjldkpmoaaGreatDoorGTaB
import Derived.Test.YtojojpjldkpmoaaGreatDoorGTbC
import Derived.Test.YtojojpjldkpmoaaGreatDoorGTbE
import Derived.Test.YtojojpjldkpmoaaGreatDoorGRibS
import Derived.Test.YtojojpjldkpmoaaGreatDoorGTbG
set_option linter.unusedVariables false
set_option linter.unusedSimpArgs false
set_option maxHeartbeats 16000000
set_option maxRecDepth 100000
namespace Go.Proofs.YtojojpjldkpmoaaGreatDoor
section
open Go
def ey:List af->af->List af
 | [],r=>[r]
 | x::l,r=>if ak x.pre r.pre=true then x::ey l r else if bA x.pre r.pre=true then r::l else r::x::l
def gg(x set:List af)(gone:List ae):List af:=set.foldl ey (x.filter fun r=> !inP gone r.pre)
theorem tW{l:List af}{r y:af}(h:y∈ey l r):y=r∨y∈l:=by
 induction l with
 | nil=>simp[ey]at h;exact .inl h
 | cons x l ih=>
   unfold ey at h;split at h
   · rcases zaS.1 h with e|e
     · exact .inr (by simp[e])
     · rcases ih e with e|e
       · exact .inl e
       · exact .inr (by simp[e])
   · split at h
     · rcases zaS.1 h with e|e
       · exact .inl e
       · exact .inr (by simp[e])
     · rcases zaS.1 h with e|e
       · exact .inl e
       · exact .inr e
theorem nU{l:List af}(h:aE l)(r:af):aE (ey l r):=by
 induction l with
 | nil=>simp[ey,aE]
 | cons x l ih=>
   obtain⟨h1,h2⟩:=zaP.1 h;unfold ey;split
   · rename_i hx;refine zaP.2 ⟨fun y hy=> ?_,ih h2⟩;rcases tW hy with e|e
     · rw[e];exact hx
     · exact h1 y e
   · rename_i hx;split
     · rename_i hs;have e:=(aO _ _).1 hs;refine zaP.2 ⟨fun y hy=> ?_,h2⟩;rw[<-e];exact h1 y hy
     · rename_i hs;have hrx:=lZ (by simpa using hx) (by simpa using hs);refine zaP.2 ⟨fun y hy=> ?_,h⟩;rcases zaS.1 hy with e|e
       · rw[e];exact hrx
       · exact ft hrx (h1 y e)
theorem Ca{l:List af}(h:aE l)(r:af)(p:ae):atP (ey l r) p=if r.pre=p then some r else atP l p:=by
 induction l with
 | nil=>unfold ey;rw[bN]
 | cons x l ih=>
   obtain⟨h1,h2⟩:=zaP.1 h;unfold ey;split
   · rename_i hx;rw[bN,bN,ih h2];by_cases e:x.pre=p
     · rw[if_pos e,if_pos e,if_neg (fun e2=>fC hx (e.trans e2.symm))]
     · rw[if_neg e,if_neg e]
   · rename_i hx;split
     · rename_i hs;have e:=(aO _ _).1 hs;rw[bN,bN,e];by_cases e2:r.pre=p
       · rw[if_pos e2,if_pos e2]
       · rw[if_neg e2,if_neg e2,if_neg e2]
     · rw[bN r]
theorem uq:∀(set:List af) (l:List af),aE l->aE set->aE (set.foldl ey l)/\∀p,atP (set.foldl ey l) p=(atP set p).or (atP l p)
 | [],l,hl,_=>⟨hl,fun p=>rfl⟩
 | r::set,l,hl,hs=>by
   obtain⟨h1,h2⟩:=zaP.1 hs;obtain⟨g1,g2⟩:=uq set (ey l r) (nU hl r) h2;refine⟨g1,fun p=> ?_⟩;show atP (set.foldl ey (ey l r)) p=_;rw[g2 p,Ca hl,bN];by_cases e:r.pre=p
   · rw[if_pos e,if_pos e,d9 (fun y hy e2=>fC (h1 y hy) (e.trans e2.symm))];rfl
   · rw[if_neg e,if_neg e]
theorem pE{l:List af}(h:aE l)(P:af->Bool)(p:ae):atP (l.filter P) p=(atP l p).filter P:=by
 induction l with
 | nil=>rfl
 | cons x l ih=>
   obtain⟨h1,h2⟩:=zaP.1 h;rw[List.filter_cons,bN];by_cases e:x.pre=p
   · rw[if_pos e];by_cases hP:P x=true
     · rw[if_pos hP,bN,if_pos e];simp[Option.filter,hP]
     · rw[if_neg hP,d9 (fun y hy e2=>fC (h1 y (zbu.1 hy).1) (e.trans e2.symm))];simp[Option.filter,hP]
   · rw[if_neg e];split
     · rw[bN,if_neg e];exact ih h2
     · exact ih h2
theorem AX{x r:af}(h:j7 x r=true):x=r:=by
 unfold j7 at h;simp only[Bool.and_eq_true,beq_iff_eq]at h;obtain⟨h1,h2,h3,h4⟩:=h;have h5:=(aO _ _).1 h1;cases x;cases r;simp at h2 h3 h4 h5;rw[h2,h3,h4,h5]
theorem vM(x:af):j7 x x=true:=by unfold j7;simp[iG]
theorem zI{a:List af}(r:af):oZ a r=true↔r∈a:=by
 unfold oZ;rw[zbp];constructor
 · rintro⟨x,hx,h⟩;rw[<-AX h];exact hx
 · intro h;exact⟨r,h,vM r⟩
theorem wi{x y:List af}(hx:aE x)(hy:aE y):gg x (dM x y) (cP x y)=y:=by
 unfold gg;have hset:aE (dM x y):=hy.filter _;obtain⟨h1,h2⟩:=uq (dM x y) _ (hx.filter (fun r=> !inP (cP x y) r.pre)) hset;refine ki h1 hy (fun p=> ?_);rw[h2 p];have hs:atP (dM x y) p=(atP y p).filter fun r=> !oZ x r:=pE hy _ p;rw[hs,pE hx];cases hyp:atP y p with
 | some r=>
   obtain⟨hr,hrp⟩:=nz hyp;by_cases hin:oZ x r=true
   · have hxr:=(zI r).1 hin;(have hxp:atP x p=some r:=by rw[<-hrp];exact jO hx hxr);have hng:inP (cP x y) r.pre=false:=by
      rw[Bool.eq_false_iff];intro e;rw[iM]at e;unfold cP at e;obtain⟨z,hz,hzp⟩:=zbR.1 e;have h3:=(zbu.1 hz).2;(have h4:mB y z=true:=by unfold mB;rw[zbp];exact⟨r,hr,by rw[hzp];exact iG _⟩);rw[h4]at h3;cases h3
     rw[hxp];simp[Option.filter,hin,hng]
   · simp[Option.filter,hin]
 | none=>
   cases hxp:atP x p with
   | none=>rfl
   | some r=>
     obtain⟨hr,hrp⟩:=nz hxp;have hg:inP (cP x y) r.pre=true:=by
      rw[iM];unfold cP;refine zbR.2 ⟨r,zbu.2 ⟨hr,?_⟩,rfl⟩;have:mB y r=false:=by
       rw[Bool.eq_false_iff];intro e;unfold mB at e;rw[zbp]at e;obtain⟨z,hz,hzp⟩:=e;have h3:=jO hy hz;rw[(aO _ _).1 hzp,hrp,hyp]at h3;cases h3
      rw[this];rfl
     simp[Option.filter,hg]
end
section
open Go.RowKit
theorem sH(a:ab):aH a a=false:=by unfold aH;simp[cV]
theorem xB{e g y:ab}(h:aH e g=false)(h2:aH y g=true):aH e y=false:=by
 unfold aH at*;by_cases v1:e.version=g.version<;>by_cases v2:y.version=g.version<;>by_cases o1:e.origin=g.origin<;>by_cases o2:y.origin=g.origin<;>by_cases v3:e.version=y.version<;>by_cases o3:e.origin=y.origin<;>simp_all<;>first
  | omega
  | (rcases hl:ltB y.value e.value with _|_
     · rfl
     · rw[jP h2 hl]at h;cases h)
  | skip
theorem lq{l:List ab}(hl:l.Pairwise ltE)(k:ByteArray)(e:ab):bR l k=some e↔e∈l/\e.key=k:=by
 constructor
 · intro h;exact(mh h).symm
 · rintro⟨hm,rfl⟩;obtain⟨j,hj,rfl⟩:=zau hm;have h1:=ns hl l[j].key hj rfl;have h2:=dZ hl l[j].key (by omega) (by simp only[h1]);simp only[h1]at h2;exact h2
theorem p9{l:List ab}(k:ByteArray):bR l k=none↔∀e∈l,e.key≠k:=by
 unfold bR;rw[zbQ];exact⟨fun h e he hk=>h e he (by simpa using hk),fun h e he hk=>h e he (by simpa using hk)⟩
theorem l8{l:List ab}(hl:l.Pairwise ltE)(x e:ab):e∈cZ l x↔e=x∨(e∈l/\e.key≠x.key):=by
 have hle:=kx l x.key;unfold cZ;rw[zbd,zaS];constructor
 · rintro(h|h|h)
   · right;obtain⟨i,hi,rfl⟩:=zau h;rw[zat]at hi;rw[zbS];refine⟨zaw _,fun e=> ?_⟩;have:=kw l x.key i (by omega) (by omega);rw[e,cV]at this;cases this
   · exact .inl h
   · right;refine⟨zbl h,fun hk=> ?_⟩;obtain⟨i,hi,rfl⟩:=zau h;rw[zaM]at hi;rw[zbY]at hk;have h1:=ns hl x.key (by omega) hk;have h2:dm l x.key=true:=by
      unfold dm;rw[zbp];exact⟨_,zaw _,decide_eq_true hk⟩
     rw[if_pos h2]at h1;omega
 · rintro(h|⟨h,hk⟩)
   · exact .inr (.inl h)
   · obtain⟨i,hi,rfl⟩:=zau h;by_cases h1:i<lbE l x.key
     · left;rw[List.mem_iff_getElem];exact⟨i,by rw[zat];omega,by rw[zbS]⟩
     · right;right;rw[List.mem_iff_getElem];have hne:lbE l x.key+(if dm l x.key=true then 1 else 0)<=i:=by
        split
        · rename_i h2;obtain⟨hl2,hk2⟩:=(cF hl _).1 h2;rcases Nat.lt_or_eq_of_le (Nat.le_of_not_lt h1)with h3|h3
          · omega
          · exact absurd (by simp only[<-h3];exact hk2) hk
        · omega
       exact⟨i-(lbE l x.key+if dm l x.key=true then 1 else 0),by rw[zaM];omega,by rw[zbY];congr 1;omega⟩
theorem pd{l:List ab}(hl:l.Pairwise ltE)(x:ab):bR (cZ l x) x.key=some x:=
 (lq (lL hl x) _ _).2 ⟨(l8 hl x x).2 (.inl rfl),rfl⟩
theorem i6{l:List ab}(hl:l.Pairwise ltE)(x:ab){k:ByteArray}(hk:k≠x.key):bR (cZ l x) k=bR l k:=by
 rcases h:bR l k with _|e
 · rw[p9]at h⊢;intro e he hek;rcases(l8 hl x e).1 he with rfl|⟨h1,_⟩
   · exact hk hek.symm
   · exact h e h1 hek
 · rw[lq hl]at h;rw[lq (lL hl x)];exact⟨(l8 hl x e).2 (.inr ⟨h.1,by rw[h.2];exact hk⟩),h.2⟩
theorem yR{p:List ab × List ByteArray}{y e g:ab}(hp:p.1.Pairwise ltE)(hg:bR p.1 e.key=some g)(ha:aH e g=false):∃g',bR (aY aH p y).1 e.key=some g'/\aH e g'=false:=by
 unfold aY;rcases hf:bR p.1 y.key with _|o
 · simp only;split
   · by_cases hk:e.key=y.key
     · rw[hk,hf]at hg;cases hg
     · exact⟨g,by simp only;rw[i6 hp y hk];exact hg,ha⟩
   · exact⟨g,hg,ha⟩
 · simp only;split
   · rename_i hab;by_cases hk:e.key=y.key
     · rw[hk,hf]at hg;injection hg with hg;subst hg;exact⟨y,by simp only;rw[hk];exact pd hp y,xB ha hab⟩
     · exact⟨g,by simp only;rw[i6 hp y hk];exact hg,ha⟩
   · exact⟨g,hg,ha⟩
theorem tX{a b:List ab}(ha:OkS a)(hb:∀e∈b,bj e=true){e:ab}(he:e∈a):∀k,k<=b.length->∃g,bR (mTo a b k).1 e.key=some g/\aH e g=false
 | 0,_=>⟨e,(lq ha.ord _ _).2 ⟨he,rfl⟩,sH e⟩
 | k+1,hk=>by
   obtain⟨g,h1,h2⟩:=tX ha hb he k (by omega);rw[jt a b k (by omega)];exact yR (oQ ha hb k).ord h1 h2
theorem AT{p:List ab × List ByteArray}(hp:p.1.Pairwise ltE)(y:ab):p.1.length<=(aY aH p y).1.length:=by
 unfold aY;split
 · split
   · simp only;rw[lM hp];omega
   · exact zab _
 · split
   · simp only;rw[lM hp];omega
   · exact zab _
theorem oR{a b:List ab}(ha:OkS a)(hb:∀e∈b,bj e=true):∀k,k<=b.length->a.length<=(mTo a b k).1.length
 | 0,_=>zab _
 | k+1,hk=>by
   rw[jt a b k (by omega)];exact zax (oR ha hb k (by omega)) (AT (oQ ha hb k).ord _)
theorem wA{a b:List ab}(ha:OkS a)(hb:OkS b):OkS (cJ aH a b).1/\(∀e∈a,∃g,iO (cJ aH a b).1 e.key=(g,0)/\¬ Ag g e<0)/\a.length<=(cJ aH a b).1.length:=by
 rw[js ha.check hb.check];have hok:=oQ ha hb.ok b.length;refine⟨hok,fun e he=> ?_,oR ha hb.ok _ (zab _)⟩;obtain⟨g,h1,h2⟩:=tX ha hb.ok he b.length (zab _);refine⟨g,by unfold iO;rw[if_pos hok.check];simp only;rw[h1],?_⟩;rw[pw,h2];split<;>simp
def mx(o p:Option ab):Option ab:=
 match o,p with
 | none,p=>p
 | o,none=>o
 | some a,some b=>if aH b a=true then some b else some a
theorem zC{a b:List ab}(ha:OkS a)(hb:OkS b):OkS (cJ aH a b).1:=(wA ha hb).1
end
section
open Go Go.RowKit
end
section
open Go
structure Nd where
 st:List ab
 dr:Bool
 pf:List ae
 tb:List af
structure Net where
 nd:Nat->Nd
 co:Nat->Nat->Int
structure ao where
 kind:Int
 a:Int
 b:Int
 n:Int
 m:Int
 pre:ae
 key:ByteArray
 value:ByteArray
structure Rpl where
 code:Int
 path:List Int
 cost:Int
 keys:List ByteArray
def nd0:Nd:=⟨[],false,[],[]⟩
def eU:Net:=⟨fun _=>nd0,fun _ _=>0⟩
def pP:Rpl:=⟨0,[],0,[]⟩
def isN(n:Int):Bool:=decide (0<=n)&&decide (n<12)
def Net.setN(x:Net)(a:Nat)(y:Nd):Net:={x with nd:=fun i=>if i=a then y else x.nd i}
theorem aV(n:Int):isN n=true↔0<=n/\n<12:=by unfold isN;simp
theorem bo(x:Net)(a:Nat)(y:Nd):(x.setN a y).nd a=y:=by simp[Net.setN]
theorem kn(x:Net){a b:Nat}(y:Nd)(h:b≠a):(x.setN a y).nd b=x.nd b:=by simp[Net.setN,h]
def bF(x:Net)(a:Nat)(b c:Int):Net × Int:=
 if isN b=false∨c<0∨1000<c then(x,2)else
 if(a:Int)=b then(x,4)else
 if c=0/\x.co a b.toNat=0 then(x,6)else
 ({ x with co:=dN (dN x.co a b.toNat c) b.toNat a c},0)
def ej:List ae->ae->List ae
 | [],p=>[p]
 | q::l,p=>if ak p q=true then p::q::l else q::ej l p
def ew(x:Net)(a:Nat)(p:ae):Net × Int:=
 if ai [p]≠0 then(x,ai [p])else
 if ai (ej (x.nd a).pf p)≠0 then(x,ai (ej (x.nd a).pf p))else
 (x.setN a {x.nd a with pf:=ej (x.nd a).pf p},0)
def fg(x:Net)(a:Nat)(p:ae):Net × Int:=
 if inP (x.nd a).pf p=true then(x.setN a {x.nd a with pf:=(x.nd a).pf.filter fun q=> !bA q p},0)else(x,6)
def cD(st:List ab)(a:Nat)(key value:ByteArray):List ab × List ByteArray × Int:=
 if(iO st key).2=0/\(iO st key).1.value=value/\(iO st key).1.origin=a then(st,[],0)else
 if(dj st a key value).2≠0 then(st,[],(dj st a key value).2)else((dj st a key value).1,[key],0)
def bI(f:Nat->Int):Nat->List cY
 | 0=>[]
 | k+1=>if 0<f k then bI f k++[⟨k,f k⟩]else bI f k
def dB(x:Net)(a:Nat):ByteArray:=bOf (CF (x.nd a).dr (bI (x.co a) 12))
def fe(x:Net)(a:Nat):ByteArray:=bOf (oF (x.nd a).pf)
def dv(x:Net)(a:Nat):Net × List ByteArray × Int:=
 if(cD (x.nd a).st a (bQ a) (dB x a)).2.2≠0 then(x,[],(cD (x.nd a).st a (bQ a) (dB x a)).2.2)else
 if(cD (cD (x.nd a).st a (bQ a) (dB x a)).1 a (dO a) (fe x a)).2.2≠0 then(x,[],(cD (cD (x.nd a).st a (bQ a) (dB x a)).1 a (dO a) (fe x a)).2.2)else
 (x.setN a {x.nd a with st:=(cD (cD (x.nd a).st a (bQ a) (dB x a)).1 a (dO a) (fe x a)).1},
  (cD (x.nd a).st a (bQ a) (dB x a)).2.1++(cD (cD (x.nd a).st a (bQ a) (dB x a)).1 a (dO a) (fe x a)).2.1,0)
def dt(l:List ab)(n:Int):List UInt8:=
 if 0<=n then(j1 l).set (n.toNat%(j1 l).length) ((j1 l).getD (n.toNat%(j1 l).length) 0^^^1)else j1 l
def bT(x:Net)(a:Nat)(b n:Int):Net × List ByteArray × Int:=
 if isN b=false then(x,[],2)else
 if x.co a b.toNat=0 then(x,[],6)else
 if(eP (dt (x.nd a).st n)).2≠0 then(x,[],(eP (dt (x.nd a).st n)).2)else
 (x.setN b.toNat {x.nd b.toNat with st:=(cJ aH (x.nd b.toNat).st (eP (dt (x.nd a).st n)).1).1},
  (cJ aH (x.nd b.toNat).st (eP (dt (x.nd a).st n)).1).2.1,0)
def df(x:Net)(a:Nat)(key value:ByteArray):Net × List ByteArray × Int:=
 if(dj (x.nd a).st a key value).2≠0 then(x,[],(dj (x.nd a).st a key value).2)else
 (x.setN a {x.nd a with st:=(dj (x.nd a).st a key value).1},[key],0)
def lx(x:Net)(a:Nat):Net:=x.setN a {x.nd a with tb:=cH (x.nd a).st a 12}
def dQ(x:Net)(addr:Int)(pick:Nat):Nat->List Int->Int->Nat->List Int × Int × Int
 | 0,_,_,_=>([],0,10)
 | f+1,path,cost,a=>
   if(bX (x.nd a).tb addr).2≠0 then([],0,(bX (x.nd a).tb addr).2)else
   if(bX (x.nd a).tb addr).1.here=true then(path,cost,0)else
   if 12<path.length then([],0,10)else
   if x.co a ((bX (x.nd a).tb addr).1.hops.getD (pick%(bX (x.nd a).tb addr).1.hops.length) 0).toNat=0 then([],0,6)else
   dQ x addr pick f (path++[(bX (x.nd a).tb addr).1.hops.getD (pick%(bX (x.nd a).tb addr).1.hops.length) 0])
    (cost+x.co a ((bX (x.nd a).tb addr).1.hops.getD (pick%(bX (x.nd a).tb addr).1.hops.length) 0).toNat)
    ((bX (x.nd a).tb addr).1.hops.getD (pick%(bX (x.nd a).tb addr).1.hops.length) 0).toNat
def du(x:Net)(a:Nat)(addr pick:Int):List Int × Int × Int:=
 if pick<0 then([],0,2)else dQ x addr pick.toNat 13 [(a:Int)] 0 a
def eQ(x:Net)(c:ao)(a:Nat):Nat->Net × Rpl
 | 1=>if 1<=c.n then((bF x a c.b c.n).1,⟨(bF x a c.b c.n).2,[],0,[]⟩)else(x,⟨2,[],0,[]⟩)
 | 2=>((bF x a c.b 0).1,⟨(bF x a c.b 0).2,[],0,[]⟩)
 | 3=>if c.n=0∨c.n=1 then(x.setN a {x.nd a with dr:=c.n==1},pP)else(x,⟨2,[],0,[]⟩)
 | 4=>((ew x a c.pre).1,⟨(ew x a c.pre).2,[],0,[]⟩)
 | 5=>((fg x a c.pre).1,⟨(fg x a c.pre).2,[],0,[]⟩)
 | 6=>((dv x a).1,⟨(dv x a).2.2,[],0,(dv x a).2.1⟩)
 | 7=>((bT x a c.b c.n).1,⟨(bT x a c.b c.n).2.2,[],0,(bT x a c.b c.n).2.1⟩)
 | 8=>((df x a c.key c.value).1,⟨(df x a c.key c.value).2.2,[],0,(df x a c.key c.value).2.1⟩)
 | 9=>(lx x a,pP)
 | _=>(x,⟨(du x a c.n c.m).2.2,(du x a c.n c.m).1,(du x a c.n c.m).2.1,[]⟩)
theorem mp(x:Net)(c:ao)(a:Nat):eQ x c a 1=if 1<=c.n then((bF x a c.b c.n).1,⟨(bF x a c.b c.n).2,[],0,[]⟩)else(x,⟨2,[],0,[]⟩):=rfl
theorem mo(x:Net)(c:ao)(a:Nat):eQ x c a 3=if c.n=0∨c.n=1 then(x.setN a {x.nd a with dr:=c.n==1},pP)else(x,⟨2,[],0,[]⟩):=rfl
def aK(x:Net)(c:ao):Net × Rpl:=
 if c.kind<1∨10<c.kind then(x,⟨3,[],0,[]⟩)else
 if isN c.a=false then(x,⟨2,[],0,[]⟩)else eQ x c c.a.toNat c.kind.toNat
theorem pI{x:Net}{c:ao}(h:c.kind<1∨10<c.kind):aK x c=(x,⟨3,[],0,[]⟩):=by unfold aK;rw[if_pos h]
theorem pH{x:Net}{c:ao}(h:¬ (c.kind<1∨10<c.kind))(h2:isN c.a=false):aK x c=(x,⟨2,[],0,[]⟩):=by unfold aK;rw[if_neg h,if_pos h2]
theorem cX{x:Net}{c:ao}(h:¬ (c.kind<1∨10<c.kind))(h2:isN c.a=true){a k:Nat}(ha:c.a=a)(hk:c.kind=k):aK x c=eQ x c a k:=by
 unfold aK;rw[if_neg h,if_neg (by rw[h2];simp),ha,hk];rfl
theorem Aq(x:Net)(c:ao):aK x c=(x,⟨3,[],0,[]⟩)∨aK x c=(x,⟨2,[],0,[]⟩)∨∃a k:Nat,c.a=a/\a<12/\c.kind=k/\1<=k/\k<=10/\aK x c=eQ x c a k:=by
 by_cases h:c.kind<1∨10<c.kind
 · exact .inl (pI h)
 · cases h2:isN c.a with
   | false=>exact .inr (.inl (pH h h2))
   | true=>
     obtain⟨a0,a1⟩:=(aV c.a).1 h2;exact .inr (.inr ⟨c.a.toNat,c.kind.toNat,by omega,by omega,by omega,by omega,by omega,cX h h2 (by omega) (by omega)⟩)
theorem Dr{k:Nat}(h1:1<=k)(h2:k<=10):k=1∨k=2∨k=3∨k=4∨k=5∨k=6∨k=7∨k=8∨k=9∨k=10:=by omega
def dh(x:Net):List ao->Net × List Rpl
 | []=>(x,[])
 | c::l=>((dh (aK x c).1 l).1,(aK x c).2::(dh (aK x c).1 l).2)
theorem tw(l m:List ao):∀x:Net,dh x (l++m)=((dh (dh x l).1 m).1,(dh x l).2++(dh (dh x l).1 m).2):=by
 induction l with
 | nil=>intro x;rfl
 | cons c l ih=>intro x;simp only[zbX,dh,ih]
theorem nZ(l:List ao):∀x:Net,(dh x l).2.length=l.length:=by
 induction l with
 | nil=>intro x;rfl
 | cons c l ih=>intro x;simp[dh,ih]
theorem yX(x:Net)(l:List ao)(c:ao):dh x (l++[c])=((aK (dh x l).1 c).1,(dh x l).2++[(aK (dh x l).1 c).2]):=by
 rw[tw];rfl
structure EB(y:Nd):Prop where
 st:OkS y.st
 pf:ai y.pf=0
 tb:ah y.tb=0
structure bg(x:Net):Prop where
 nd:∀a,a<12->EB (x.nd a)
 co:∀a b,0<=x.co a b/\x.co a b<=1000
 sym:∀a b,x.co a b=x.co b a
 self:∀a,x.co a a=0
theorem Ej:EB nd0:=⟨OkS.nil,by decide,by decide⟩
theorem sh:bg eU:=⟨fun _ _=>Ej,fun _ _=>⟨zbZ _,by show(0:Int)<=1000;omega⟩,fun _ _=>rfl,fun _=>rfl⟩
theorem bg.setN{x:Net}(h:bg x){a:Nat}{y:Nd}(hy:EB y):bg (x.setN a y):=by
 refine⟨fun i hi=> ?_,h.co,h.sym,h.self⟩;by_cases e:i=a
 · subst e;rw[bo];exact hy
 · rw[kn _ _ e];exact h.nd i hi
theorem xV:∀{l:List af} {r:af},aE l->fM l r.pre=false->ey l r=l.take (lbP l r.pre)++r::l.drop (lbP l r.pre)
 | [],r,_,_=>rfl
 | x::l,r,hs,hp=>by
   obtain⟨h1,h2⟩:=zaP.1 hs;(have hpx:bA x.pre r.pre=false/\fM l r.pre=false:=by unfold fM at hp⊢;simpa using hp);unfold ey lbP;rw[zbr];by_cases ho:ak x.pre r.pre=true
   · rw[if_pos ho,ho];simp only[if_true,zaD,zbz,zbD,zbX];rw[xV h2 hpx.2];rfl
   · (have ho':ak x.pre r.pre=false:=by simpa using ho);rw[if_neg ho,if_neg (by rw[hpx.1];simp),ho'];rfl
theorem tG:∀{l:List af} {r:af},aE l->fM l r.pre=true->lbP l r.pre<l.length/\ey l r=l.set (lbP l r.pre) r
 | [],r,_,hp=>by unfold fM at hp;simp at hp
 | x::l,r,hs,hp=>by
   obtain⟨h1,h2⟩:=zaP.1 hs;by_cases ho:ak x.pre r.pre=true
   · have hne:=Bx ho;(have hp2:fM l r.pre=true:=by unfold fM at hp⊢;rw[List.any_cons,hne,Bool.false_or]at hp;exact hp);obtain⟨hl,ha⟩:=tG h2 hp2;(have hlb:lbP (x::l) r.pre=lbP l r.pre+1:=by unfold lbP;rw[zbr,ho];rfl);refine⟨by rw[hlb];simpa using hl,?_⟩;unfold ey;rw[if_pos ho,ha];simp only[hlb,zam]
   · (have ho':ak x.pre r.pre=false:=by simpa using ho);have hsm:bA x.pre r.pre=true:=by
      unfold fM at hp;rw[List.any_cons]at hp;cases hx:bA x.pre r.pre with
      | true=>rfl
      | false=>
        rw[hx,Bool.false_or,zbp]at hp;obtain⟨y,hy,hys⟩:=hp;have h3:=h1 y hy;rw[(aO _ _).1 hys]at h3;rw[ho']at h3;cases h3
     (have hlb:lbP (x::l) r.pre=0:=by unfold lbP;rw[zbr,ho'];rfl);refine⟨by rw[hlb];simp,?_⟩;unfold ey;rw[if_neg ho,if_pos hsm];simp only[hlb,zan]
theorem tH:∀(l:List af) (r:af),(ey l r).length<=l.length+1
 | [],r=>by simp[ey]
 | x::l,r=>by
   have:=tH l r;unfold ey;split
   · simp;omega
   · split<;>simp
theorem wO{α β:Type}(f:β->α->β)(b:β)(l:List α){k:Nat}(h:k<l.length):(l.take (k+1)).foldl f b=f ((l.take k).foldl f b) l[k]:=by
 rw[zar h,zcr];rfl
theorem qV{P:af->Prop}:∀(set l:List af),aE l->(∀x∈l,P x)->(∀x∈set,P x)->aE (set.foldl ey l)/\(∀x∈set.foldl ey l,P x)/\(set.foldl ey l).length<=l.length+set.length
 | [],l,h1,h2,_=>⟨h1,h2,zab _⟩
 | r::set,l,h1,h2,h3=>by
   have hr:=h3 r (by simp);obtain⟨g1,g2,g3⟩:=qV set (ey l r) (nU h1 r) (fun x hx=>by
    rcases tW hx with e|e
    · rw[e];exact hr
    · exact h2 x e) (fun x hx=>h3 x (by simp[hx]))
   have:=tH l r;exact⟨g1,g2,by rw[zaD,List.foldl_cons];omega⟩
def mW(xs:List ae)(p:ae):Int:=match xs.findIdx? fun x=>bA x p with|some i=>(i:Int)|none=> -1
theorem uf{xs:List ae}{p:ae}{k:Nat}(hk:k<xs.length)(h:∀j,(hj:j<xs.length)->j<k->bA xs[j] p=false)(he:bA xs[k] p=true):mW xs p=k/\inP xs p=true:=by
 have:(xs.findIdx? fun x=>bA x p)=some k:=by
  rw[zbv];exact⟨hk,he,fun j hj=>by have:=h j (by omega) hj;simp[this]⟩
 unfold mW;rw[this];exact⟨rfl,by unfold inP;rw[zbp];exact⟨xs[k],zaw hk,he⟩⟩
theorem qQ{xs:List ae}{p:ae}(h:∀j,(hj:j<xs.length)->bA xs[j] p=false):mW xs p= -1/\inP xs p=false:=by
 have:(xs.findIdx? fun x=>bA x p)=none:=by
  rw[zcc];intro x hx;obtain⟨i,hi,rfl⟩:=zau hx;exact h i hi
 unfold mW;rw[this];refine⟨rfl,?_⟩;unfold inP;rw[zch];intro x hx;obtain⟨i,hi,rfl⟩:=zau hx;rw[h i hi];simp
theorem o5(xs:List ae)(p:ae):(mW xs p= -1/\inP xs p=false/\∀j,(hj:j<xs.length)->bA xs[j] p=false)∨
  ∃k,∃hk:k<xs.length,mW xs p=k/\inP xs p=true/\xs[k]=p:=by
 unfold mW;rcases hf:xs.findIdx? fun x=>bA x p with _|k
 · left;have h:∀j,(hj:j<xs.length)->bA xs[j] p=false:=fun j hj=>by
    rw[zcc]at hf;exact hf _ (zaw hj)
   exact⟨rfl,(qQ h).2,h⟩
 · right;rw[zbv]at hf;obtain⟨hk,he,hl⟩:=hf;exact⟨k,hk,rfl,(uf hk (fun j hj hjk=>by have:=hl j hjk;simpa using this) he).2,(aO _ _).1 he⟩
end
section
open Go Go.RowKit Go.Deep
theorem mC(v:Value)(xs:List ae)(p:ae)(w:World)(h:Sl aA w v xs):
  Calls Tryz.prog 54 #[v,.agg #[.int .i64 p.addr,.int .i64 p.bits]] w fun e w'=>e= .returned (.int .i64 (mW xs p))/\Below w.heap.size w w':=by
 have hl:=h.len_le;obtain⟨A,c,rfl⟩:=h.form;have hal:=(zac w.heap.size w).alloc (zab _) (.cells #[.int .i64 p.addr,.int .i64 p.bits] 32);have H:=zaa (h.below hal);have HAL:=zaa hal;obtain⟨R,hR⟩:∃R,R=mW xs p:=⟨_,rfl⟩;rw[<-hR];have HR:=zaa hR;clear hR;have HQ0:=zaa (show(w.alloc (.cells #[.int .i64 p.addr,.int .i64 p.bits] 32)).cell? ⟨w.heap.size,0,none⟩=some (.int .i64 p.addr)by rw[zah _ _ _ _ rfl];rfl);have HQ1:=zaa (show(w.alloc (.cells #[.int .i64 p.addr,.int .i64 p.bits] 32)).cell? ⟨w.heap.size,1,none⟩=some (.int .i64 p.bits)by rw[zah _ _ _ _ rfl];rfl);obtain⟨W,hW⟩:∃W,W=w.alloc (.cells #[.int .i64 p.addr,.int .i64 p.bits] 32):=⟨_,rfl⟩;rw[<-hW]at H HAL HQ0 HQ1;clear h hal;go_enter Tryz.func54,Tryz.ntmps54
 go_wp2_with fail
 rw[<-hW];clear hW;obtain⟨B,hB⟩:∃B,B=w.heap.size:=⟨_,rfl⟩;rw[<-hB]at HQ0 HQ1;rw[<-hB];clear hB;go_loopw [5,8] (fun _ i wr=>∃k:Nat,k<=xs.length/\i= .int .i64 k/\Below W.heap.size W wr/\∀j,(h:j<xs.length)->j<k->bA xs[j] p=false) (fun _ i _=>xs.length-(intOf i).toNat)
 case atStart=>exact⟨0,zap _,rfl,zac _ _,fun j _ h=>absurd h (by omega)⟩
 case round=>
  obtain⟨k,hk,rfl,hB,hall⟩:=hrel;have HA:=zaa hall;have HB:=zaa hB;have p0:=aa hB HQ0.out;have p1:=aa hB HQ1.out;clear hall;by_cases hlt:k<xs.length
  · obtain⟨b,off,rfl,hb⟩:=H.out.at_ hlt;obtain⟨f1,f2,_⟩:=(H.out.below hB).pref hlt;have r0:(0:Int)<=(k:Int):=zai _;(have hki:(k:Int)<(xs.length:Int):=by omega);obtain⟨x,hx⟩:∃x,x=xs[k]:=⟨_,rfl⟩;rw[<-hx]at f1 f2;have q1:=lu p.addr p.bits x.addr x.bits;have q2:=fun a b=>gF .eql a b;have HX:=zaa hx;clear hB hx;have hcomm:bA x p=(p.addr==x.addr&&p.bits==x.bits):=vN x p;rcases he:(p.addr==x.addr&&p.bits==x.bits)with _|_
    · rw[he]at q1 hcomm;have HN:=zaa hcomm;clear he hcomm;(go_wp2_with fail);(go_quiet (fail));(go_wp2_with fail);(go_roundw);case rel=>
       refine⟨k+1,by omega,by go_num,ag HB.out _,fun j hj hjk=> ?_⟩;by_cases e2:j=k
       · subst e2;rw[<-HX.out];exact HN.out
       · exact HA.out j hj (by omega)
      case measure=>simp[intOf];omega
    · rw[he]at q1 hcomm;have HY:=zaa (uf hlt HA.out (by rw[<-HX.out];exact hcomm)).1;clear he hcomm;(go_wp2_with fail);(go_quiet (fail));(go_wp2_with fail);(go_ret);exact⟨ei (by rw[HR.out,HY.out]),HAL.out.trans ((ag HB.out _).mono HAL.out.size)⟩
  · (have hki:¬ (k:Int)<(xs.length:Int):=by omega);have HY:=zaa (qQ (xs:=xs) (p:=p) (fun j hj=>HA.out j hj (by omega))).1;clear hB;(go_wp2_with fail);(go_ret);exact⟨ei (by rw[HR.out,HY.out]),HAL.out.trans (HB.out.mono HAL.out.size)⟩
theorem uI(v:Value)(xs:List ae)(p:ae)(w:World)(h:Sl aA w v xs):
  Calls Tryz.prog 119 #[v,.agg #[.int .i64 p.addr,.int .i64 p.bits]] w fun e w'=>e= .returned (.bool (inP xs p))/\Below w.heap.size w w':=by
 obtain⟨A,c,rfl⟩:=h.form;have hal:=(zac w.heap.size w).alloc (zab _) (.cells #[.int .i64 p.addr,.int .i64 p.bits] 32);have HI:=zaa (mC _ xs p _ (h.below hal));have HAL:=zaa hal;have hb:decide (0<=mW xs p)=inP xs p:=by
  rcases o5 xs p with⟨h1,h2,_⟩|⟨k,hk,h1,h2,_⟩
  · rw[h1,h2];rfl
  · rw[h1,h2];simp
 have HBB:=zaa hb;generalize mW xs p=I at*;clear h hal hb;go_enter Tryz.func119,Tryz.ntmps119
 go_wp2_with fail
 refine HI.out.mono ?_;rintro e w1 ⟨rfl,hb1⟩;have HB1:=zaa (HAL.out.trans (hb1.mono HAL.out.size));clear hb1;go_wp2_with fail
 go_ret
 exact⟨eb HBB.out,HB1.out⟩
def se(xs set:List af)(gone:List ae):List af:=if ah (gg xs set gone)=0 then gg xs set gone else []
theorem Db{a:List af}{gone:List ae}{k:Nat}(h:k<a.length):((a.take (k+1)).filter fun r=> !inP gone r.pre)=((a.take k).filter fun r=> !inP gone r.pre)++(if inP gone a[k].pre=true then []else [a[k]]):=by
 rw[zar h,zbV];congr 1;cases hp:inP gone a[k].pre<;>simp[hp]
structure vn(r:af):Prop where
 pre:aq r.pre=0
 len:r.hops.length<=12
 wf:r.wf
end
end Go.Proofs.YtojojpjldkpmoaaGreatDoor
