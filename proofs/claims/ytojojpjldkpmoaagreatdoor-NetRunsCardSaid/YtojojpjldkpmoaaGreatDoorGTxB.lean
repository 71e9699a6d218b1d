/-
  
-/
import Derived.Lib.ItoaNum
import Derived.Lib.AtoiAll
import Derived.Lib.Join
import Derived.Lib.IndexMore
import Derived.Lib.Split
import Derived.Test.YtojojpjldkpmoaaGreatDoorGGrB
import Derived.Lib.CountLaws
import Derived.Lib.CutLaws
set_option linter.unusedVariables false
set_option linter.unusedSimpArgs false
set_option maxHeartbeats 16000000
set_option maxRecDepth 100000
namespace Go.Proofs.YtojojpjldkpmoaaGreatDoor
section
open Go
def dH(acc:Nat)(l:List UInt8):Nat:=l.foldl (fun a c=>a*10+(c.toNat-48)) acc
theorem fG(acc:Nat):dH acc []=acc:=by unfold dH;rw[List.foldl_nil]
theorem fj(acc:Nat)(c:UInt8)(r:List UInt8):dH acc (c::r)=dH (acc*10+(c.toNat-48)) r:=by unfold dH;rw[List.foldl_cons]
def isD(c:UInt8):Prop:=48<=c.toNat/\c.toNat<=57
instance (c:UInt8):Decidable (isD c):=by unfold isD;infer_instance
theorem xG(l:List UInt8):∀acc:Nat,acc<=dH acc l:=by
 induction l with
 | nil=>intro acc;rw[fG];exact Nat.le_refl acc
 | cons c r ih=>
   intro acc;have h:=ih (acc*10+(c.toNat-48));rw[fj];exact Nat.le_trans (Nat.le_trans (Nat.le_mul_of_pos_right acc (by decide)) (Nat.le_add_right _ _)) h
theorem sS(l m:List UInt8)(acc:Nat):dH acc (l++m)=dH (dH acc l) m:=by unfold dH;rw[List.foldl_append]
theorem jD(l:List UInt8)(c:UInt8)(acc:Nat):dH acc (l++[c])=dH acc l*10+(c.toNat-48):=by rw[sS,fj,fG]
theorem wl{c:UInt8}{r:List UInt8}{acc:Nat}(h1:48<=c.toNat)(h2:c.toNat<=57)(hb:acc*10+(c.toNat-48)<1844674407370955161):Lib.parseUint10 acc (c::r)=Lib.parseUint10 (acc*10+(c.toNat-48)) r:=by
 conv=>lhs;unfold Lib.parseUint10
 rw[if_pos ⟨h1,h2⟩,if_neg (by omega),if_neg (by omega)]
theorem Bq(l:List UInt8):∀acc:Nat,(∀c∈l,isD c)->dH acc l<1844674407370955161->Lib.parseUint10 acc l= .ok (dH acc l):=by
 induction l with
 | nil=>intro acc _ _;rw[fG];rfl
 | cons c r ih=>
   intro acc hd hb;obtain⟨h1,h2⟩:=hd c (by simp);rw[fj]at hb⊢;rw[wl h1 h2 (Nat.lt_of_le_of_lt (xG r _) hb)];exact ih _ (fun x hx=>hd x (by simp[hx])) hb
theorem eN{u:Nat}(h:u<10):(UInt8.ofNat (48+u)).toNat=48+u:=by
 rw[UInt8.toNat_ofNat'];omega
theorem fw{u:Nat}(h:u<10):Lib.decDigits u=[UInt8.ofNat (48+u)]:=Lib.decDigits_one h
theorem nx{u:Nat}(h:¬ u<10):Lib.decDigits u=Lib.decDigits (u/10)++[UInt8.ofNat (48+u%10)]:=by
 conv=>lhs;unfold Lib.decDigits
 rw[dif_neg h]
theorem iv:∀(k u:Nat),u<k->Lib.decDigits u≠[]/\(∀c∈Lib.decDigits u,isD c)/\dH 0 (Lib.decDigits u)=u/\(1<=u->(Lib.decDigits u).head?≠some 48)
 | 0,u,h=>by omega
 | k+1,u,h=>by
   by_cases hu:u<10
   · rw[fw hu];refine⟨by simp,?_,?_,?_⟩
     · intro c hc;rw[List.mem_singleton]at hc;subst hc;have:=eN hu;exact⟨by omega,by omega⟩
     · rw[fj,fG,eN hu];omega
     · intro h1 e;rw[List.head?_cons]at e;injection e with e;have:=congrArg UInt8.toNat e;rw[eN hu]at this;have h48:(48:UInt8).toNat=48:=rfl;omega
   · rw[nx hu];obtain⟨e1,e2,e3,e4⟩:=iv k (u/10) (by omega);have hm:u%10<10:=Nat.mod_lt _ (by omega);refine⟨by simp,?_,?_,?_⟩
     · intro c hc;rcases List.mem_append.1 hc with hc|hc
       · exact e2 c hc
       · rw[List.mem_singleton]at hc;subst hc;have:=eN hm;exact⟨by omega,by omega⟩
     · rw[jD,e3,eN hm];omega
     · intro _ e;obtain⟨c,r,hcr⟩:=List.exists_cons_of_ne_nil e1;rw[hcr]at e e4;exact e4 (by omega) e
theorem sB(u:Nat):Lib.decDigits u≠[]:=(iv (u+1) u (by omega)).1
theorem yw(u:Nat):∀c∈Lib.decDigits u,isD c:=(iv (u+1) u (by omega)).2.1
theorem yv(u:Nat):dH 0 (Lib.decDigits u)=u:=(iv (u+1) u (by omega)).2.2.1
theorem Cp{u:Nat}(h:1<=u):(Lib.decDigits u).head?≠some 48:=(iv (u+1) u (by omega)).2.2.2 h
theorem cm:∀(k u:Nat),u<10^(k+1)->(Lib.decDigits u).length<=k+1
 | 0,u,h=>by rw[fw (by simpa using h)];simp
 | k+1,u,h=>by
   by_cases hu:u<10
   · rw[fw hu];simp
   · rw[nx hu,List.length_append];have:=cm k (u/10) (by rw[Nat.pow_succ]at h;omega);simp;omega
theorem yt:∀(k:Nat) (s:List UInt8),s.length=k+1->(∀c∈s,isD c)->(2<=s.length->s.head?≠some 48)->Lib.decDigits (dH 0 s)=s
 | 0,s,hl,hd,_=>by
   match s,hl with
   | [c],_=>
     obtain⟨h1,h2⟩:=hd c (by simp);(have e0:dH 0 [c]=c.toNat-48:=by rw[fj,fG];omega);rw[e0,fw (by omega)];congr 1;apply UInt8.toNat_inj.1;rw[eN (by omega)];omega
 | k+1,s,hl,hd,hz=>by
   obtain⟨a,c,rfl⟩:∃a c,s=a++[c]:=by
    (have hne:s≠[]:=by intro e;rw[e]at hl;simp at hl);exact⟨s.dropLast,s.getLast hne,(List.dropLast_concat_getLast hne).symm⟩
   (have hla:a.length=k+1:=by simpa using hl);obtain⟨h1,h2⟩:=hd c (by simp);have hda:∀c∈a,isD c:=fun x hx=>hd x (by simp[hx]);obtain⟨x,r,rfl⟩:∃x r,a=x::r:=List.exists_cons_of_ne_nil (by intro e;rw[e]at hla;simp at hla);have hx:x≠48:=by
    intro e;exact hz (by simp) (by simp[e])
   have ih:=yt k (x::r) hla hda (by intro _ e;simp at e;exact hx e);have hx1:1<=dH 0 (x::r):=by
    rw[fj];have h3:=xG r (0*10+(x.toNat-48));obtain⟨h4,_⟩:=hda x (by simp);have:x.toNat≠48:=fun e=>hx (UInt8.toNat_inj.1 e);omega
   rw[jD,nx (by omega)];(have e1:(dH 0 (x::r)*10+(c.toNat-48))/10=dH 0 (x::r):=by omega);(have e2:(dH 0 (x::r)*10+(c.toNat-48))%10=c.toNat-48:=by omega);rw[e1,e2,ih];congr 2;apply UInt8.toNat_inj.1;rw[eN (by omega)];omega
def ez(most:Int)(s:List UInt8):Int:=
 match Lib.atoiAll s with
 | .ok n=>if n<0∨most<n∨Lib.itoa n≠s then-1 else n
 | _=> -1
theorem li(n:Nat):Lib.itoa (n:Int)=Lib.decDigits n:=by
 unfold Lib.itoa;rw[if_neg (by omega)];rfl
theorem CA(n:Nat)(h:n<1000000000000):Lib.atoiAll (Lib.decDigits n)= .ok (n:Int):=by
 have hne:=sB n;have hd:=yw n;have hv:=yv n;obtain⟨c,r,hcr⟩:=List.exists_cons_of_ne_nil hne;have hp:=Bq (Lib.decDigits n) 0 hd (by rw[hv];omega);rw[hv]at hp;obtain⟨h1,h2⟩:=hd c (by rw[hcr];simp);rw[hcr]at hp⊢;unfold Lib.atoiAll Lib.parseMag;simp only;have hq:¬ (c.toNat=43∨c.toNat=45):=by rintro(e|e)<;>omega
 rw[if_neg hq,if_neg (by simp),hp];simp only;rw[if_neg (by omega),if_neg (by omega),if_neg (by omega)]
theorem sg(n:Nat)(most:Int)(hm:(n:Int)<=most)(h:n<1000000000000):ez most (Lib.decDigits n)=n:=by
 unfold ez;rw[CA n h];simp only;rw[if_neg (by rw[li];simp;omega)]
theorem ng{s:List UInt8}{most:Int}(h:0<=ez most s):∃n:Nat,s=Lib.decDigits n/\(n:Int)<=most/\ez most s=n:=by
 unfold ez at h⊢;split at h
 · rename_i n hn;split at h
   · omega
   · rename_i hc;have h0:¬ n<0:=fun e=>hc (.inl e);have h1:¬ most<n:=fun e=>hc (.inr (.inl e));have h2:Lib.itoa n=s:=Classical.byContradiction fun e=>hc (.inr (.inr e));obtain⟨m,rfl⟩:∃m:Nat,n=m:=⟨n.toNat,by omega⟩;rw[if_neg hc];exact⟨m,by rw[<-h2,li],by omega,rfl⟩
 · omega
theorem xZ{s:List UInt8}{most:Int}(h:¬ 0<=ez most s):ez most s= -1:=by
 unfold ez at h⊢;split
 · split
   · rfl
   · rename_i n hn hc;rw[hn]at h;simp only at h;rw[if_neg hc]at h;exact absurd (show 0<=n by have:¬ n<0:=fun e=>hc (.inl e);omega) h
 · rfl
def mU(s:List UInt8):Int:=
 if ¬ (1<=s.length/\s.length<=6)∨(1<s.length/\s.head? =some 48)then-1
 else if∀c∈s,isD c then(if 100000<dH 0 s then-1 else(dH 0 s:Int))else-1
theorem xY(s:List UInt8):mU s=ez 100000 s:=by
 by_cases h:0<=ez 100000 s
 · obtain⟨n,hs,hn,he⟩:=ng h;rw[he];subst hs;have hl:=cm 5 n (by omega);have hne:=sB n;have h1:1<=(Lib.decDigits n).length:=by
    rcases hc:Lib.decDigits n with _|⟨c,r⟩
    · exact absurd hc hne
    · simp
   unfold mU;rw[if_neg,if_pos (yw n),yv,if_neg (by omega)];rintro(e|⟨e1,e2⟩)
   · exact e ⟨h1,hl⟩
   · by_cases hz:1<=n
     · exact Cp hz e2
     · (have:n=0:=by omega);subst this;rw[fw (by omega)]at e1;simp at e1
 · rw[xZ h];unfold mU;split
   · rfl
   · rename_i hc;have hc1:1<=s.length/\s.length<=6:=Classical.byContradiction fun e=>hc (.inl e);split
     · rename_i hd;split
       · rfl
       · rename_i hm;exfalso;apply h;have hs:=yt (s.length-1) s (by omega) hd (fun h2 e=>hc (.inr ⟨by omega,e⟩));rw[<-hs,sg _ _ (by omega) (by omega)];omega
     · rfl
def cQ(b:UInt8):List UInt8->List UInt8 × List UInt8 × Bool
 | []=>([],[],false)
 | c::r=>if c=b then([],r,true)else(c::(cQ b r).1,(cQ b r).2)
def cq(b:UInt8):List UInt8->List (List UInt8)
 | []=>[[]]
 | c::r=>if c=b then []::cq b r else match cq b r with
   | []=>[[c]]
   | x::xs=>(c::x)::xs
def bK(s:List UInt8):List (List UInt8):=if s=[]then []else cq 44 s
theorem sD{b:UInt8}:∀{s:List UInt8},b∉s->cQ b s=(s,[],false)
 | [],_=>rfl
 | c::r,h=>by
   simp at h;unfold cQ;rw[if_neg (fun e=>h.1 e.symm),sD h.2]
theorem lB{b:UInt8}:∀{a:List UInt8} (r:List UInt8),b∉a->cQ b (a++b::r)=(a,r,true)
 | [],r,_=>by simp[cQ]
 | c::a,r,h=>by
   simp at h;rw[List.cons_append];unfold cQ;rw[if_neg (fun e=>h.1 e.symm),lB r h.2]
theorem po(b:UInt8):∀s:List UInt8,(cQ b s).1.length<=s.length/\(cQ b s).2.1.length<=s.length
 | []=>⟨Nat.le_refl _,Nat.le_refl _⟩
 | c::r=>by
   have:=po b r;unfold cQ;split
   · simp
   · simp;omega
theorem jE{b:UInt8}:∀{s:List UInt8},b∉s->cq b s=[s]
 | [],_=>rfl
 | c::r,h=>by
   simp at h;unfold cq;rw[if_neg (fun e=>h.1 e.symm),jE h.2]
theorem jF{b:UInt8}:∀{a:List UInt8} (r:List UInt8),b∉a->cq b (a++b::r)=a::cq b r
 | [],r,_=>by simp[cq]
 | c::a,r,h=>by
   simp at h;rw[List.cons_append]
   conv=>lhs;unfold cq
   rw[if_neg (fun e=>h.1 e.symm),jF r h.2]
end
section
open Go Go.RowKit
theorem lk{b:UInt8}:∀{s:List UInt8},b∉s->Lib.index s [b]= -1
 | [],_=>rfl
 | c::r,h=>by
   simp at h;(have e:List.isPrefixOf [b] (c::r)=false:=by simp[List.isPrefixOf,h.1]);unfold Lib.index;rw[e,lk h.2];rfl
theorem jw{b:UInt8}:∀{a:List UInt8} (r:List UInt8),b∉a->Lib.index (a++b::r) [b]=a.length
 | [],r,_=>by simp[Lib.index,List.isPrefixOf]
 | c::a,r,h=>by
   simp at h;(have e:List.isPrefixOf [b] (c::(a++b::r))=false:=by simp[List.isPrefixOf,h.1]);rw[zbX];unfold Lib.index;rw[e,jw r h.2];(have:(((a.length:Nat):Int)== -1)=false:=by rw[beq_eq_false_iff_ne];omega);rw[this];simp
theorem gM{b:UInt8}:∀{s:List UInt8},b∈s->∃a r,s=a++b::r/\b∉a
 | [],h=>by simp at h
 | c::s,h=>by
   by_cases e:c=b
   · exact⟨[],s,by simp[e],by simp⟩
   · have h':b∈s:=by
      rcases zaS.1 h with h|h
      · exact absurd h.symm e
      · exact h
     obtain⟨a,r,rfl,ha⟩:=gM h';exact⟨c::a,r,rfl,by simp[ha];exact fun x=>e x.symm⟩
theorem Cr(b:UInt8)(s:List UInt8):Lib.cut s [b]=cQ b s:=by
 by_cases h:b∈s
 · obtain⟨a,r,rfl,ha⟩:=gM h;unfold Lib.cut;rw[jw r ha,lB r ha,if_pos (by omega)];simp
 · unfold Lib.cut;rw[lk h,sD h,if_neg (by omega)]
theorem ql(b:UInt8):∀(n:Nat) (s:List UInt8),s.length<n->Lib.splitK [b] 0 (Lib.count s [b]) s=cq b s
 | 0,s,h=>by omega
 | n+1,s,hn=>by
   by_cases h:b∈s
   · obtain⟨a,r,rfl,ha⟩:=gM h;(have hr:r.length<n:=by simp at hn;omega);rw[Lib.count_hit (by simp) (jw r ha)];(have e:(a++b::r).drop (a.length+[b].length)=r:=by simp);rw[e,jF r ha,Nat.add_comm 1];unfold Lib.splitK;rw[jw r ha];(have:(((a.length:Nat):Int)== -1)=false:=by rw[beq_eq_false_iff_ne];omega);rw[this,zaX,e,ql b n r hr];simp
   · rw[Lib.count_miss (lk h),jE h];rfl
theorem rl(b:UInt8):∀(n:Nat) (s:List UInt8),s.length<n->Lib.count s [b]+1=(cq b s).length
 | 0,s,h=>by omega
 | n+1,s,hn=>by
   by_cases h:b∈s
   · obtain⟨a,r,rfl,ha⟩:=gM h;(have hr:r.length<n:=by simp at hn;omega);rw[Lib.count_hit (by simp) (jw r ha)];(have e:(a++b::r).drop (a.length+[b].length)=r:=by simp);rw[e,jF r ha,zaD,<-rl b n r hr];omega
   · rw[Lib.count_miss (lk h),jE h];rfl
theorem wU(s:ByteArray)(b:UInt8):Lib.countB s ⟨#[b]⟩+1=(cq b s.data.toList).length:=rl b _ _ (zbt _)
theorem yT(s:ByteArray)(b:UInt8):(Lib.splitB ⟨#[b]⟩ 0 (Lib.countB s ⟨#[b]⟩) s).map (·.data.toList)=cq b s.data.toList:=by
 rw[Lib.splitB_data];exact ql b _ _ (zbt _)
def bOf(l:List UInt8):ByteArray:=⟨l.toArray⟩
theorem cG(l:List UInt8):(bOf l).data.toList=l:=by simp[bOf]
theorem lH(s:ByteArray):bOf s.data.toList=s:=ByteArray.ext (by simp[bOf])
theorem bf(l:List UInt8):(bOf l).size=l.length:=by rw[<-aC,cG]
theorem zF(l:List (List UInt8))(x sep:List UInt8):Lib.join (l++[x]) sep=if l=[]then x else Lib.join l sep++sep++x:=by
 rcases l with _|⟨y,l⟩
 · simp[Lib.join_one]
 · rw[if_neg (by simp),zbX,Lib.join_cons,Lib.join_cons];simp[Lib.joinTail]
def cl(b:UInt8)(x y:Int):List UInt8:=Lib.decDigits x.toNat++b::Lib.decDigits y.toNat
def dC(s:cY):List UInt8:=cl 61 s.node s.cost
def eT(p:ae):List UInt8:=cl 47 p.addr p.bits
def CF(d:Bool)(l:List cY):List UInt8:=if d then 33::Lib.join (l.map dC) [44]else Lib.join (l.map dC) [44]
def oF(l:List ae):List UInt8:=Lib.join (l.map eT) [44]
def ig(b:UInt8)(s:List UInt8):Option (Int × Int):=
 if(cQ b s).2.2=true/\0<=ez 100000 (cQ b s).1/\0<=ez 100000 (cQ b s).2.1 then some (ez 100000 (cQ b s).1,ez 100000 (cQ b s).2.1)else none
def bL(b:UInt8):List (List UInt8)->Option (List (Int × Int))
 | []=>some []
 | p::r=>match ig b p with
   | none=>none
   | some x=>match bL b r with
     | none=>none
     | some l=>some (x::l)
theorem my(b:UInt8):∀(l:List (List UInt8)) (p:List UInt8),bL b (l++[p])=match bL b l with
  | none=>none
  | some a=>match ig b p with
    | none=>none
    | some x=>some (a++[x])
 | [],p=>by
   rw[zcf];unfold bL;rcases ig b p with _|x<;>rfl
 | q::l,p=>by
   rw[zbX];unfold bL;rcases ig b q with _|y
   · rfl
   · simp only;rw[my b l p];rcases bL b l with _|a
     · rfl
     · simp only;rcases ig b p with _|x<;>rfl
theorem dV(b:UInt8):∀{l:List (List UInt8)} {k:Nat} {p:List UInt8},l[k]? =some p->ig b p=none->bL b l=none
 | [],k,p,h,_=>by simp at h
 | q::l,0,p,h,hp=>by
   simp at h;subst h;unfold bL;rw[hp]
 | q::l,k+1,p,h,hp=>by
   unfold bL;rw[dV b (l:=l) (k:=k) (by simpa using h) hp];split<;>rfl
theorem eI(b:UInt8):∀{l:List (List UInt8)} {a:List (Int × Int)},bL b l=some a->a.length=l.length
 | [],a,h=>by simp[bL]at h;subst h;rfl
 | q::l,a,h=>by
   unfold bL at h;rcases hq:ig b q with _|y
   · rw[hq]at h;cases h
   · rcases hl:bL b l with _|m
     · rw[hq,hl]at h;cases h
     · rw[hq,hl]at h;simp at h;subst h;simp[eI b hl]
theorem Bz(most:Int)(h: -1<=most)(s:List UInt8): -1<=ez most s/\ez most s<=most:=by
 by_cases h0:0<=ez most s
 · obtain⟨n,_,hn,he⟩:=ng h0;omega
 · rw[xZ h0];omega
def aJ(s:List UInt8):Bool × List cY × Int:=
 match bL 61 (bK (Lib.trimPrefix s [33]))with
 | none=>(false,[],4)
 | some l=>if aw (l.map fun x=>⟨x.1,x.2⟩)=0 then(Lib.hasPrefix s [33],l.map fun x=>⟨x.1,x.2⟩,0)else(false,[],aw (l.map fun x=>⟨x.1,x.2⟩))
def bG(s:List UInt8):List ae × Int:=
 match bL 47 (bK s)with
 | none=>([],4)
 | some l=>if ai (l.map fun x=>⟨x.1,x.2⟩)=0 then(l.map fun x=>⟨x.1,x.2⟩,0)else([],ai (l.map fun x=>⟨x.1,x.2⟩))
end
end Go.Proofs.YtojojpjldkpmoaaGreatDoor
