/-
  
-/
import Derived.Test.YtojojpjldkpmoaaGreatDoorGStG
import Derived.Test.YtojojpjldkpmoaaGreatDoorGDoB
set_option linter.unusedVariables false
set_option linter.unusedSimpArgs false
set_option maxHeartbeats 16000000
set_option maxRecDepth 100000
namespace Go.Proofs.YtojojpjldkpmoaaGreatDoor
section
open Go.RowKit
def bJ:List UInt8->Except Int (Int × List UInt8)
 | []=> .error 5
 | c::r=> .ok ((c.toNat:Int),r)
def fp(i n:Nat):List UInt8->Except Int (Int × List UInt8)
 | []=> .error 5
 | c::r=>if i=7∨(0<i/\c.toNat=0)then .error 4 else
   if c.toNat<128 then .ok (((n+c.toNat%128*128^i:Nat):Int),r)else fp (i+1) (n+c.toNat%128*128^i) r
def ku:List UInt8->Except Int (Int × List UInt8):=fp 0 0
def eK:List UInt8->Except Int (ByteArray × List UInt8)
 | []=> .error 5
 | c::r=>if r.length<c.toNat then .error 5 else .ok (⟨(r.take c.toNat).toArray⟩,r.drop c.toNat)
theorem kr(c:UInt8)(r:List UInt8):eK (c::r)=if r.length<c.toNat then .error 5 else .ok (⟨(r.take c.toNat).toArray⟩,r.drop c.toNat):=rfl
def gC(l:List UInt8):Except Int (ab × List UInt8):=
 match eK l with
 | .error e=> .error e
 | .ok (k,l1)=>match ku l1 with
   | .error e=> .error e
   | .ok (v,l2)=>match bJ l2 with
     | .error e=> .error e
     | .ok (o,l3)=>match eK l3 with
       | .error e=> .error e
       | .ok (x,l4)=> .ok (⟨k,v,o,x⟩,l4)
def dk:Nat->List UInt8->Except Int (List ab × List UInt8)
 | 0,l=> .ok ([],l)
 | k+1,l=>match gC l with
   | .error e=> .error e
   | .ok (x,l1)=>match dk k l1 with
     | .error e=> .error e
     | .ok (xs,l2)=> .ok (x::xs,l2)
def eD(l:List UInt8):List ab × Int:=
 match bJ l with
 | .error e=>([],e)
 | .ok (n,l1)=>match dk n.toNat l1 with
   | .error e=>([],e)
   | .ok (es,r)=>if r≠[]then([],4)else if aj es≠0 then([],aj es)else(es,0)
def eP(b:List UInt8):List ab × Int:=
 if 20000<b.length then([],1)else if b.length<6 then([],5)else if b.head?≠some 116 then([],4)else
 if et (b.take (b.length-4))≠b.drop (b.length-4)then([],9)else eD ((b.take (b.length-4)).drop 1)
theorem fq{l:List UInt8}{e:Int}(h:bJ l= .error e):e≠0:=by
 cases l<;>simp[bJ]at h;omega
theorem kt:∀(l:List UInt8) (i n:Nat) (e:Int),fp i n l= .error e->e≠0
 | [],i,n,e,h=>by simp[fp]at h;omega
 | c::r,i,n,e,h=>by
   unfold fp at h;split at h
   · injection h with h;omega
   · split at h
     · cases h
     · exact kt r _ _ e h
theorem lY{l:List UInt8}{e:Int}(h:eK l= .error e):e≠0:=by
 cases l with
 | nil=>simp[eK]at h;omega
 | cons c r=>
   rw[kr]at h;by_cases hl:r.length<c.toNat
   · rw[if_pos hl]at h;injection h with h;omega
   · rw[if_neg hl]at h;cases h
theorem oK{l:List UInt8}{e:Int}(h:gC l= .error e):e≠0:=by
 unfold gC at h;rcases h1:eK l with e1|⟨k,l1⟩<;>rw[h1]at h<;>simp only at h
 · injection h with h;subst h;exact lY h1
 rcases h2:ku l1 with e1|⟨v,l2⟩<;>rw[h2]at h<;>simp only at h
 · injection h with h;subst h;exact kt _ _ _ _ h2
 rcases h3:bJ l2 with e1|⟨o,l3⟩<;>rw[h3]at h<;>simp only at h
 · injection h with h;subst h;exact fq h3
 rcases h4:eK l3 with e1|⟨x,l4⟩<;>rw[h4]at h<;>simp only at h
 · injection h with h;subst h;exact lY h4
 · cases h
theorem qA:∀(k:Nat) (l:List UInt8) (e:Int),dk k l= .error e->e≠0
 | 0,l,e,h=>by simp[dk]at h
 | k+1,l,e,h=>by
   unfold dk at h;rcases h1:gC l with e1|⟨x,l1⟩<;>rw[h1]at h<;>simp only at h
   · injection h with h;subst h;exact oK h1
   rcases h2:dk k l1 with e1|⟨xs,l2⟩<;>rw[h2]at h<;>simp only at h
   · injection h with h;subst h;exact qA _ _ _ h2
   · cases h
theorem mN(c:UInt8):b8 (c.toNat:Int)=c:=by
 unfold b8;rw[zaX];simp
theorem qB{l r:List UInt8}{n:Int}(h:bJ l= .ok (n,r)):l=b8 n::r/\0<=n/\n<=255:=by
 cases l with
 | nil=>simp[bJ]at h
 | cons c s=>
   simp only[bJ,Except.ok.injEq,Prod.mk.injEq]at h;obtain⟨rfl,rfl⟩:=h;have:=c.toNat_lt;exact⟨by rw[mN],by omega,by omega⟩
theorem qy{l r:List UInt8}{s:ByteArray}(h:eK l= .ok (s,r)):l=b8 s.size::(s.data.toList++r):=by
 cases l with
 | nil=>simp[eK]at h
 | cons c t=>
   rw[kr]at h;by_cases hl:t.length<c.toNat
   · rw[if_pos hl]at h;cases h
   · rw[if_neg hl]at h;simp only[Except.ok.injEq,Prod.mk.injEq]at h;obtain⟨rfl,rfl⟩:=h;have hs:(⟨(t.take c.toNat).toArray⟩:ByteArray).size=c.toNat:=by
      show(t.take c.toNat).toArray.size=_;rw[zbx,zat];omega
     rw[hs,mN];simp
theorem oJ:∀(l:List UInt8) (i n:Nat) (m:Int) (r:List UInt8),fp i n l= .ok (m,r)->∃q:Nat,m=((n+q*128^i:Nat):Int)/\l=sev q++r/\(0<i->0<q)
 | [],i,n,m,r,h=>by simp[fp]at h
 | c::t,i,n,m,r,h=>by
   unfold fp at h;split at h
   · cases h
   · rename_i hi;split at h
     · rename_i hc;simp only[Except.ok.injEq,Prod.mk.injEq]at h;obtain⟨rfl,rfl⟩:=h;refine⟨c.toNat,by rw[Nat.mod_eq_of_lt hc],by rw[hU hc,mN];rfl,fun h0=> ?_⟩;rcases zaG c.toNat with e|e
       · exact absurd (Or.inr ⟨h0,e⟩) hi
       · exact e
     · rename_i hc;obtain⟨q,h1,h2,h3⟩:=oJ t _ _ m r h;have hq:=h3 (by omega);have hlt:=c.toNat_lt;refine⟨c.toNat%128+128*q,?_,?_,fun _=>by omega⟩
       · rw[h1];congr 1;rw[Nat.pow_succ,Nat.add_mul,Nat.mul_comm (128^i) 128,<-Nat.mul_assoc,Nat.mul_comm q 128];omega
       · rw[m8 (by omega),h2];(have e1:(c.toNat%128+128*q)%128=c.toNat%128:=by omega);(have e2:(c.toNat%128+128*q)/128=q:=by omega);(have e3:128+c.toNat%128=c.toNat:=by omega);rw[e1,e2,e3,mN];rfl
theorem Br{l r:List UInt8}{m:Int}(h:ku l= .ok (m,r)):0<=m/\l=sev m.toNat++r:=by
 obtain⟨q,rfl,h2,_⟩:=oJ l 0 0 m r h;simp only[zbb,Nat.pow_zero,Nat.mul_one];exact⟨zai _,by simpa using h2⟩
theorem wt{l r:List UInt8}{x:ab}(h:gC l= .ok (x,r)):l=mm x++r:=by
 unfold gC at h;rcases h1:eK l with e1|⟨k,l1⟩<;>rw[h1]at h<;>simp only at h
 · cases h
 rcases h2:ku l1 with e1|⟨v,l2⟩<;>rw[h2]at h<;>simp only at h
 · cases h
 rcases h3:bJ l2 with e1|⟨o,l3⟩<;>rw[h3]at h<;>simp only at h
 · cases h
 rcases h4:eK l3 with e1|⟨y,l4⟩<;>rw[h4]at h<;>simp only at h
 · cases h
 · simp only[Except.ok.injEq,Prod.mk.injEq]at h;obtain⟨rfl,rfl⟩:=h;rw[qy h1,(Br h2).2,(qB h3).1,qy h4];unfold mm;simp
theorem qz:∀(k:Nat) (l:List UInt8) (xs:List ab) (r:List UInt8),dk k l= .ok (xs,r)->l=(xs.map mm).flatten++r/\xs.length=k
 | 0,l,xs,r,h=>by simp[dk]at h;obtain⟨rfl,rfl⟩:=h;simp
 | k+1,l,xs,r,h=>by
   unfold dk at h;rcases h1:gC l with e1|⟨x,l1⟩<;>rw[h1]at h<;>simp only at h
   · cases h
   rcases h2:dk k l1 with e1|⟨ys,l2⟩<;>rw[h2]at h<;>simp only at h
   · cases h
   · simp only[Except.ok.injEq,Prod.mk.injEq]at h;obtain⟨rfl,rfl⟩:=h;obtain⟨g1,g2⟩:=qz k l1 ys l2 h2;rw[wt h1,g1];simp[g2]
theorem wT{l:List UInt8}{xs:List ab}(h:eD l=(xs,0)):aj xs=0/\l=b8 xs.length::(xs.map mm).flatten:=by
 unfold eD at h;rcases h1:bJ l with e1|⟨n,l1⟩<;>rw[h1]at h<;>simp only at h
 · injection h with _ h;exact absurd h (fq h1)
 rcases h2:dk n.toNat l1 with e1|⟨ys,l2⟩<;>rw[h2]at h<;>simp only at h
 · injection h with _ h;exact absurd h (qA _ _ _ h2)
 obtain⟨g1,g2,g3⟩:=qB h1;obtain⟨k1,k2⟩:=qz _ _ _ _ h2;split at h
 · injection h with _ h;cases h
 · rename_i hr;(have hr':l2=[]:=by simpa using hr);split at h
   · rename_i hc;injection h with _ h;exact absurd h hc
   · rename_i hc;injection h with h _;subst h;refine⟨by simpa using hc,?_⟩;rw[g1,k1,hr',zbM,k2];congr 2;omega
theorem sC{b:List UInt8}{xs:List ab}(h:eP b=(xs,0)):aj xs=0/\j1 xs=b:=by
 unfold eP at h;split at h
 · injection h with _ h;cases h
 split at h
 · injection h with _ h;cases h
 rename_i _ h6;split at h
 · injection h with _ h;cases h
 rename_i hh;split at h
 · injection h with _ h;cases h
 rename_i hs;obtain⟨h1,h2⟩:=wT h;refine⟨h1,?_⟩;have hs':et (b.take (b.length-4))=b.drop (b.length-4):=by simpa using hs
 have hB:b.take (b.length-4)=lv xs:=by
  unfold lv;rw[<-h2];cases b with
  | nil=>simp at h6
  | cons c t=>
    (have hc:c=116:=by simpa using hh);subst hc;simp only[zaD]at h6⊢;(have e:t.length+1-4=(t.length-4)+1:=by omega);rw[e,zbz];simp
 rw[hB]at hs';unfold j1;rw[hs',<-hB,zcp]
theorem uz(xs:List ab)(h:OkS xs):6<=(j1 xs).length/\(j1 xs).length<=10000/\(lv xs).length=(j1 xs).length-4:=by
 have h1:=mi h.ok xs.length (zab _);rw[ml xs _ (zab _)]at h1;have h2:=h.len;unfold j1;rw[zaq];have h3:(et (lv xs)).length=4:=rfl;have h4:2<=(lv xs).length:=by unfold lv;simp
 omega
end
section
open Go.RowKit Go.Deep
abbrev RSt:=List UInt8 × Int
def Stp{α:Type}(p:List UInt8->Except Int (α × List UInt8))(s:RSt)(a:α)(s':RSt):Prop:=
 (s.2≠0->s'.2=s.2)/\(s.2=0->(∀x r,p s.1= .ok (x,r)->a=x/\s'=(r,0))/\(∀e,p s.1= .error e->s'.2=e))
theorem Stp.off{α:Type}{p:List UInt8->Except Int (α × List UInt8)}{s s':RSt}{a:α}(h:s.2≠0)(h':s'.2=s.2):Stp p s a s':=⟨fun _=>h',fun h0=>absurd h0 h⟩
theorem Stp.ok{α:Type}{p:List UInt8->Except Int (α × List UInt8)}{s:RSt}{x:α}{r:List UInt8}(h:s.2=0)(h':p s.1= .ok (x,r)):Stp p s x (r,0):=
 ⟨fun h0=>absurd h h0,fun _=>⟨fun y q hy=>(by rw[h']at hy;injection hy with hy;injection hy with h1 h2;exact⟨h1,by rw[h2]⟩),fun e he=>(by rw[h']at he;cases he)⟩⟩
theorem Stp.err{α:Type}{p:List UInt8->Except Int (α × List UInt8)}{s s':RSt}{a:α}{e:Int}(h:s.2=0)(h':p s.1= .error e)(hs:s'.2=e):Stp p s a s':=
 ⟨fun h0=>absurd h h0,fun _=>⟨fun y q hy=>(by rw[h']at hy;cases hy),fun e' he=>(by rw[h']at he;injection he with he;rw[hs,he])⟩⟩
theorem SlR.other{α:Type}{r:Rep α}{w w':World}{g:Nat}{v:Value}{xs:List α}(h:SlR r w (fun k=>k<w.heap.size/\k<g) v xs)(hg:w.grownBy w' (some g)):SlR r w' (fun k=>k<w'.heap.size/\k<g) v xs:=
 SlR.keep h (fun k hk=>hg.block k hk.1 (fun e=>by injection e with e;have:=hk.2;omega)) (fun k hk=>⟨zas hk.1 hg.size,hk.2⟩)
theorem SlR.to_sl{α:Type}{r:Rep α}{w:World}{S:Nat->Prop}{v:Value}{xs:List α}(h:SlR r w S v xs)(hS:∀k,S k->k<w.heap.size):Sl r w v xs:=SlR.keep h (fun _ _=>rfl) hS
theorem SlR.sub{w:World}{S:Nat->Prop}{A:Option Addr}{n c:Nat}{xs:List UInt8}(h:SlR aG w S (.slice A n c) xs)(lo hi:Nat)(h1:lo<=hi)(h2:hi<=xs.length):
  SlR aG w S (.slice (if c=lo then A else A.map (·.add lo)) (hi-lo) (c-lo)) ((xs.take hi).drop lo):=by
 obtain⟨A',c',hv,hc1,hc2,h3⟩:=h;injection hv with e1 e2 e3;subst e1 e2 e3;have hl:((xs.take hi).drop lo).length=hi-lo:=by rw[zaM,zat];omega
 refine⟨_,_,by rw[hl],by rw[hl];omega,by omega,fun i x hx=> ?_⟩;have hil:i<hi-lo:=by rw[<-hl];exact(zaT.1 hx).1
 rw[zbI,zbo,if_pos (by omega)]at hx;obtain⟨b,off,cs,hA,hS,hb,hh,hc⟩:=h3 (lo+i) x hx;have hne:¬ c=lo:=by omega
 rw[if_neg hne,hA];by_cases hz:lo=0
 · subst hz;exact⟨b,off,cs,rfl,hS,hb,hh,by simpa using hc⟩
 · refine⟨b,off+lo,cs,by simp[Addr.add,hz],hS,hb,hh,fun j u hu=> ?_⟩;have:=hc j u hu;(have e:off+(lo+i)*aG.size=off+lo+i*aG.size:=by show off+(lo+i)*1=off+lo+i*1;omega);rw[e]at this;exact this
theorem mf(w:World)(p:Addr)(u:Value):w.grownBy (w.setCell p u) (some p.block):=
 ⟨rfl,rfl,rfl,by simp[World.setCell],fun k _ hne=>zao _ _ _ _ (fun e=>hne (by rw[e]))⟩
def gl(w:World)(g:Nat)(s:RSt):Prop:=
 g<w.heap.size/\∃v,w.cell? ⟨g,0,none⟩=some v/\w.cell? ⟨g,1,none⟩=some (.int .i64 s.2)/\(∀i,w.frozen? ⟨g,i,none⟩=false)/\SlR aG w (fun k=>k<w.heap.size/\k<g) v s.1/\s.1.length<=1000000
theorem gl.open{w:World}{g:Nat}{s:RSt}(h:gl w g s):∃A c,g<w.heap.size/\w.cell? ⟨g,0,none⟩=some (.slice A s.1.length c)/\w.cell? ⟨g,1,none⟩=some (.int .i64 s.2)/\(∀i,w.frozen? ⟨g,i,none⟩=false)/\SlR aG w (fun k=>k<w.heap.size/\k<g) (.slice A s.1.length c) s.1/\s.1.length<=1000000/\s.1.length<=c/\c<=9223372036854775807:=by
 obtain⟨h0,v,h1,h2,h3,h4,h5⟩:=h;have h4':=h4;obtain⟨A,c,rfl,hc1,hc2,_⟩:=h4';exact⟨A,c,h0,h1,h2,h3,h4,h5,hc1,by unfold maxLen at hc2;omega⟩
theorem gl.err{w:World}{g:Nat}{s:RSt}(h:gl w g s)(n:Int):gl (w.setCell ⟨g,1,none⟩ (.int .i64 n)) g (s.1,n)/\w.grownBy (w.setCell ⟨g,1,none⟩ (.int .i64 n)) (some g):=by
 have hg:=mf w ⟨g,1,none⟩ (.int .i64 n);obtain⟨h0,v,h1,h2,h3,h4,h5⟩:=h;refine⟨⟨zas h0 hg.size,v,?_,?_,?_,h4.other hg,h5⟩,hg⟩
 · rw[zaj w ⟨g,1,none⟩ ⟨g,0,none⟩ _ (by simp)];exact h1
 · exact zbP _ _ _ h2
 · intro i;simp only[zaz];exact h3 i
theorem gl.rest{w:World}{g:Nat}{s:RSt}(h:gl w g s){v:Value}{r:List UInt8}(hv:SlR aG w (fun k=>k<w.heap.size/\k<g) v r)(hl:r.length<=1000000):gl (w.setCell ⟨g,0,none⟩ v) g (r,s.2)/\w.grownBy (w.setCell ⟨g,0,none⟩ v) (some g):=by
 have hg:=mf w ⟨g,0,none⟩ v;obtain⟨h0,v0,h1,h2,h3,h4,h5⟩:=h;refine⟨⟨zas h0 hg.size,v,?_,?_,?_,hv.other hg,hl⟩,hg⟩
 · exact zbP _ _ _ h1
 · rw[zaj w ⟨g,0,none⟩ ⟨g,1,none⟩ _ (by simp)];exact h2
 · intro i;simp only[zaz];exact h3 i
def xD{α:Type}(p:List UInt8->Except Int (α × List UInt8))(val:α->Value)(ok:α->Prop)(w:World)(g:Nat)(s:RSt)(e:Ending)(w':World):Prop:=
 ∃a s',e= .returned (val a)/\Stp p s a s'/\ok a/\gl w' g s'/\w.grownBy w' (some g)/\s'.1.length<=s.1.length
theorem jK(w:World)(g:Nat)(s:RSt)(h:gl w g s):
  Calls Tryz.prog 97 #[.pointer (some ⟨g,0,none⟩)] w (xD bJ (Value.int .i64) (fun a=>0<=a/\a<=255) w g s):=by
 have HR:=zaa h;obtain⟨A,c,hg,f0,f1,f2,hs,hl,hc1,hc2⟩:=h.open;have HS:=zaa hs;obtain⟨l,n⟩:=s;simp only at f0 f1 hl hs hc1;clear h hs;by_cases hn:n=0
 · subst hn;rcases l with _|⟨x,r⟩
   · obtain⟨h1,h2⟩:=HR.out.err 5;have H1:=zaa h1;have H2:=zaa h2;clear h1 h2;simp only[zaW]at f0;(go_enter Tryz.func97,Tryz.ntmps97);(go_wp2_with fail);(go_ret);exact⟨0,([],5),rfl,.err rfl rfl rfl,by omega,H1.out,H2.out,by simp⟩
   · obtain⟨b,off,rfl,hb⟩:=(HS.out.to_sl (fun k hk=>hk.1)).at_ (show 0<(x::r).length by simp);obtain⟨cs,⟨rfl,_⟩,hcs⟩:=(HS.out.to_sl (fun k hk=>hk.1)).cell (show 0<(x::r).length by simp);have fx:w.cell? ⟨b,off,none⟩=some (.int .u8 x.toNat):=by
      have:=hcs 0 _ rfl;simpa [aG,dw]using this
     have hsub:=HS.out.sub 1 (x::r).length (by simp) (zab _);rw[zaN]at hsub;have hx:=x.toNat_lt;obtain⟨m,hm⟩:∃m,r.length=m:=⟨_,rfl⟩;(have hm1:(x::r).length=m+1:=by simp[hm]);rw[hm1]at f0 hl hc1 hsub;have hsub':SlR aG w (fun k=>k<w.heap.size/\k<g) (.slice (some ⟨b,if c=1 then off else off+1,none⟩) m (c-1)) r:=by
      (have e:(if c=1 then some (⟨b,off,none⟩:Addr)else Option.map (fun(a:Addr)=>a.add 1) (some (⟨b,off,none⟩:Addr)))=some ⟨b,if c=1 then off else off+1,none⟩:=by split<;>simp[Addr.add]);rw[e]at hsub;exact hsub
     obtain⟨h1,h2⟩:=HR.out.rest hsub' (by omega);have H1:=zaa h1;have H2:=zaa h2;have HM:=zaa hm;clear hsub hsub' hcs hm hm1 h1 h2;by_cases hc:c=1
     · subst hc;(obtain rfl:m=0:=by omega);rw[if_pos rfl]at H1 H2;(go_enter Tryz.func97,Tryz.ntmps97);(go_wp2_with fail);(go_ret);exact⟨(x.toNat:Int),(r,0),rfl,.ok rfl rfl,by omega,H1.out,H2.out,by simp⟩
     · rw[if_neg hc]at H1 H2;(go_enter Tryz.func97,Tryz.ntmps97);(go_wp2_with fail);(go_ret);exact⟨(x.toNat:Int),(r,0),rfl,.ok rfl rfl,by omega,H1.out,H2.out,by simp⟩
 · (have t1:(n !=0)=true:=by simpa using hn);have HN:=zaa hn;clear hn;(go_enter Tryz.func97,Tryz.ntmps97);(go_wp2_with fail);(go_ret);exact⟨0,(l,n),rfl,.off HN.out rfl,by omega,HR.out,zaV _ _,zab _⟩
theorem add_zero(a:Addr):a.add 0=a:=by unfold Addr.add;simp
theorem SlR.take{w:World}{S:Nat->Prop}{A:Option Addr}{n c:Nat}{xs:List UInt8}(h:SlR aG w S (.slice A n c) xs)(k:Nat)(hk:k<=xs.length):SlR aG w S (.slice A k c) (xs.take k):=by
 have:=h.sub 0 k (zap _) hk;rw[List.drop_zero,Nat.sub_zero,Nat.sub_zero]at this;have e:(if c=0 then A else A.map (·.add 0))=A:=by split<;>cases A<;>simp[add_zero]
 rw[e]at this;exact this
theorem tQ{l:List UInt8}{n:Int}{r:List UInt8}(h:bJ l= .ok (n,r)):eK l=if(r.length:Int)<n then .error 5 else .ok (⟨(r.take n.toNat).toArray⟩,r.drop n.toNat):=by
 cases l with
 | nil=>simp[bJ]at h
 | cons c t=>
   simp only[bJ,Except.ok.injEq,Prod.mk.injEq]at h;obtain⟨rfl,rfl⟩:=h;rw[kr,zaX];by_cases hl:t.length<c.toNat
   · rw[if_pos hl,if_pos (by omega)]
   · rw[if_neg hl,if_neg (by omega)]
theorem gi{l:List UInt8}{e:Int}(h:bJ l= .error e):eK l= .error e:=by
 cases l with
 | nil=>simpa [bJ,eK]using h
 | cons c t=>simp[bJ]at h
theorem qp(w:World)(g:Nat)(s:RSt)(h:gl w g s):
  Calls Tryz.prog 98 #[.pointer (some ⟨g,0,none⟩)] w (xD eK Value.string (fun a=>a.size<=255) w g s):=by
 have HR:=zaa h;clear h;go_enter Tryz.func98,Tryz.ntmps98
 go_wp2_with fail
 refine(jK w g s HR.out).mono ?_;rintro e w1 ⟨a,s1,rfl,hst,ha,hr1,hg1,hl1⟩;have HR1:=zaa hr1;have HG1:=zaa hg1;obtain⟨A,c,hg,f0,f1,f2,hs,hl,hc1,hc2⟩:=hr1.open;have HS:=zaa hs;clear hr1 hg1 hs;by_cases hn:s1.2=0
 · have hs0:s.2=0:=by
    rcases zct s.2 0 with h|h|h
    · have:=hst.1 (by omega);omega
    · exact h
    · have:=hst.1 (by omega);omega
   rcases hp:bJ s.1 with e|⟨c0,r⟩
   · have:=(hst.2 hs0).2 e hp;exact absurd hn (by rw[this];exact fq hp)
   · obtain⟨rfl,rfl⟩:=(hst.2 hs0).1 c0 r hp;have HP:=zaa (tQ hp);have HS0:=zaa hs0;obtain⟨n,rfl⟩:=zaZ ha.1;simp only at f0 f1 hl hc1 hl1 HS;clear hp hst hn hs0;by_cases hlt:(r.length:Int)<(n:Int)
     · obtain⟨h1,h2⟩:=HR1.out.err 5;have H1:=zaa h1;have H2:=zaa h2;clear h1 h2;(go_wp2_with fail);(go_ret);exact⟨⟨#[]⟩,(r,5),rfl,.err HS0.out (by rw[HP.out,if_pos hlt]) rfl,zap _,H1.out,HG1.out.trans H2.out,hl1⟩
     · (have n2:n<=r.length:=by omega);have htake:=HS.out.take n n2;have hsub:=HS.out.sub n r.length n2 (zab _);rw[zaN]at hsub;have q1:=jy (htake.to_sl (fun k hk=>hk.1));obtain⟨h1,h2⟩:=HR1.out.rest hsub (by simp;omega);have H1:=zaa h1;have H2:=zaa h2;clear htake hsub h1 h2;by_cases hc:c=n
       · rw[if_pos hc]at H1 H2;subst hc;(go_wp2_with fail);(have e0:r.length-c=0:=by omega);rw[Nat.sub_self,e0]at H1 H2;(go_ret);refine⟨⟨(r.take c).toArray⟩,(r.drop c,0),rfl,.ok HS0.out (by rw[HP.out,if_neg (by omega),zaX]),?_,H1.out,HG1.out.trans H2.out,?_⟩
         · show(r.take c).toArray.size<=255;rw[zbx,zat];omega
         · rw[zaM];omega
       · rw[if_neg hc]at H1 H2;(go_wp2_with fail);(go_ret);refine⟨⟨(r.take n).toArray⟩,(r.drop n,0),rfl,.ok HS0.out (by rw[HP.out,if_neg (by omega),zaX]),?_,H1.out,HG1.out.trans H2.out,?_⟩
         · show(r.take n).toArray.size<=255;rw[zbx,zat];omega
         · rw[zaM];omega
 · (have t1:(s1.2==0)=false:=by simpa using hn);(have t2:(s1.2 !=0)=true:=by simpa using hn);have HN:=zaa hn;have HST:=zaa hst;clear hn hst;(go_wp2_with fail);(go_ret);refine⟨⟨#[]⟩,s1,rfl,?_,zap _,HR1.out,HG1.out,hl1⟩;refine⟨HST.out.1,fun h0=>⟨fun x r hx=> ?_,fun e he=> ?_⟩⟩
   · rcases hp:bJ s.1 with e|⟨c0,r0⟩
     · rw[gi hp]at hx;cases hx
     · have:=((HST.out.2 h0).1 c0 r0 hp).2;exact absurd (by rw[this]) HN.out
   · rcases hp:bJ s.1 with e'|⟨c0,r0⟩
     · rw[gi hp]at he;injection he with he;rw[<-he];exact(HST.out.2 h0).2 e' hp
     · have:=((HST.out.2 h0).1 c0 r0 hp).2;exact absurd (by rw[this]) HN.out
end
end Go.Proofs.YtojojpjldkpmoaaGreatDoor
