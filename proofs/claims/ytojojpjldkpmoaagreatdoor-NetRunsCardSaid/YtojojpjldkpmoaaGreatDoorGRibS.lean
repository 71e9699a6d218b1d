/-
  
-/
import Derived.Test.YtojojpjldkpmoaaGreatDoorGTaB
import Derived.Test.YtojojpjldkpmoaaGreatDoorGTbG
import Derived.Test.YtojojpjldkpmoaaGreatDoorGIns2
set_option linter.unusedVariables false
set_option linter.unusedSimpArgs false
set_option maxHeartbeats 16000000
set_option maxRecDepth 100000
namespace Go.Proofs.YtojojpjldkpmoaaGreatDoor
section
open Go.RowKit Go.Deep
theorem wP(v1 v2:Value)(xs ys:List Int)(w:World)(h1:Sl aI w v1 xs)(h2:Sl aI w v2 ys):
  Calls Tryz.prog 155 #[v1,v2] w fun e w'=>e= .returned (.bool (xs==ys))/\Below w.heap.size w w':=by
 have hl1:=h1.len_le;have hl2:=h2.len_le;obtain⟨A1,c1,rfl⟩:=h1.form;obtain⟨A2,c2,rfl⟩:=h2.form;have H1:=zaa h1;have H2:=zaa h2;clear h1 h2;by_cases hlen:xs.length=ys.length
 · obtain⟨n,hn⟩:∃n,xs.length=n:=⟨_,rfl⟩;(have hn2:ys.length=n:=by omega);have HN:=zaa hn;have HN2:=zaa hn2;rw[hn,hn2];rw[hn]at hl1;clear hlen hl2 hn hn2;(go_enter Tryz.func155,Tryz.ntmps155);(go_wp2_with fail);(go_loopw [5,13] (fun _ s13 wr=>∃k:Nat,k<=n/\s13= .int .i64 k/\Below w.heap.size w wr/\∀j,(h:j<xs.length)->(h':j<ys.length)->j<k->xs[j]=ys[j]) (fun _ s13 _=>n-(intOf s13).toNat));(case atStart=>exact⟨0,zap _,rfl,zac _ _,fun j _ _ h=>absurd h (by omega)⟩);case round=>
    obtain⟨k,hk,rfl,hB,hall⟩:=hrel;have HB:=zaa hB;have HA:=zaa hall;clear hall;by_cases hlt:k<n
    · (have k1:k<xs.length:=by rw[HN.out];exact hlt);(have k2:k<ys.length:=by rw[HN2.out];exact hlt);obtain⟨b1,o1,rfl,hb1⟩:=H1.out.at_ k1;obtain⟨b2,o2,rfl,hb2⟩:=H2.out.at_ k2;obtain⟨f1,_⟩:=(H1.out.below hB).int k1;obtain⟨g1,_⟩:=(H2.out.below hB).int k2;have r0:(0:Int)<=(k:Int):=zai _;(have r1:(k:Int)<(n:Int):=by omega);obtain⟨x,hx⟩:∃x,xs[k]=x:=⟨_,rfl⟩;obtain⟨y,hy⟩:∃y,ys[k]=y:=⟨_,rfl⟩;rw[hx]at f1;rw[hy]at g1;have HX:=zaa hx;have HY:=zaa hy;clear hB hx hy;by_cases hxy:x=y
      · (have t1:(x !=y)=false:=by simp[hxy]);have HXY:=zaa hxy;clear hxy;(go_wp2_with fail);(go_quiet (fail));(go_wp2_with fail);(go_roundw);case rel=>
         refine⟨k+1,by omega,by go_num,ag HB.out _,fun j hj hj' hjk=> ?_⟩;by_cases e:j=k
         · subst e;rw[HX.out,HY.out,HXY.out]
         · exact HA.out j hj hj' (by omega)
        case measure=>simp[intOf];omega
      · (have t1:(x !=y)=true:=by simp[hxy]);have HXY:=zaa hxy;clear hxy;(go_wp2_with fail);(go_quiet (fail));(go_wp2_with fail);(go_ret);refine⟨eb ?_,ag HB.out _⟩;symm;rw[beq_eq_false_iff_ne];intro e;subst e;exact HXY.out (HX.out.symm.trans HY.out)
    · clear hB;(go_wp2_with fail);(go_ret);refine⟨eb ?_,HB.out⟩;symm;rw[beq_iff_eq];exact List.ext_getElem (by rw[HN.out,HN2.out]) (fun j hj hj'=>HA.out j hj hj' (by have:=HN.out;omega))
 · (have t1:(((xs.length:Nat):Int) !=((ys.length:Nat):Int))=true:=by simp;omega);have HL:=zaa hlen;clear hlen;(go_enter Tryz.func155,Tryz.ntmps155);(go_wp2_with fail);(go_ret);refine⟨eb ?_,zac _ _⟩;symm;rw[beq_eq_false_iff_ne];intro e;exact HL.out (by rw[e])
theorem yP(w:World)(cs ds:Array Value)(t u:TypeId):Below w.heap.size w ((w.alloc (.cells cs t)).alloc (.cells ds u)):=((zac _ _).alloc (zab _) _).alloc (by simp) _
theorem tB(x r:af)(v1 v2:Value)(w:World)(h1:Sl aI w v1 x.hops)(h2:Sl aI w v2 r.hops):
  Calls Tryz.prog 116 #[x.agg v1,r.agg v2] w fun e w'=>e= .returned (.bool (j7 x r))/\Below w.heap.size w w':=by
 obtain⟨⟨xa,xb⟩,xh,xc,xs⟩:=x;obtain⟨⟨ra,rb⟩,rh,rc,rs⟩:=r;unfold af.agg j7 bA;simp only at h1 h2⊢;obtain⟨A1,c1,rfl⟩:=h1.form;obtain⟨A2,c2,rfl⟩:=h2.form;have hb:=yP w #[.int .i64 xa,.int .i64 xb,.bool xh,.int .i64 xc,.slice A1 xs.length c1] #[.int .i64 ra,.int .i64 rb,.bool rh,.int .i64 rc,.slice A2 rs.length c2] 130 130;have HC:=zaa (wP _ _ xs rs _ (h1.below hb) (h2.below hb));have HB:=zaa hb;clear h1 h2 hb;have q1:=lu xa xb ra rb;have q2:=fun a b=>gF .eql a b;rcases hp:(xa==ra&&xb==rb)with _|_
 · rw[hp]at q1;clear hp;(go_enter Tryz.func116,Tryz.ntmps116);(go_wp2_with fail);(go_ret);exact⟨rfl,HB.out⟩
 · rw[hp]at q1;clear hp;rcases hh:(xh==rh)with _|_
   · (go_enter Tryz.func116,Tryz.ntmps116);(go_wp2_with fail);(go_ret);exact⟨rfl,HB.out⟩
   · rcases hc:(xc==rc)with _|_
     · (go_enter Tryz.func116,Tryz.ntmps116);(go_wp2_with fail);(go_ret);exact⟨rfl,HB.out⟩
     · (go_enter Tryz.func116,Tryz.ntmps116);(go_wp2_with fail);refine HC.out.mono ?_;rintro e w1 ⟨rfl,hb1⟩;have HB1:=zaa (HB.out.trans (hb1.mono HB.out.size));clear hb1;(go_wp2_with fail);(go_ret);exact⟨rfl,HB1.out⟩
def pL(w:World)(g:Nat)(r:af)(v:Value):Prop:=g<w.heap.size/\(∀i,w.cell? ⟨g,i,none⟩= #[Value.int .i64 r.pre.addr,.int .i64 r.pre.bits,.bool r.here,.int .i64 r.cost,v][i]?)
theorem pL.keep{w w':World}{g:Nat}{r:af}{v:Value}(h:pL w g r v)(hb:Below w.heap.size w w'):pL w' g r v:=⟨zas h.1 hb.size,fun i=>(bAt hb h.1 i).trans (h.2 i)⟩
theorem wS(x r:af)(v1 v2:Value)(g:Nat)(w:World)(h1:Sl aI w v1 x.hops)(h2:Sl aI w v2 r.hops)(hg:pL w g r v2):
  Calls Tryz.prog 115 #[x.agg v1,.pointer (some ⟨g,0,none⟩)] w fun e w'=>e= .returned (.bool (j7 x r))/\Below w.heap.size w w':=by
 obtain⟨A1,c1,rfl⟩:=h1.form;obtain⟨A2,c2,rfl⟩:=h2.form;have hb:Below w.heap.size w (w.alloc (.cells #[.int .i64 x.pre.addr,.int .i64 x.pre.bits,.bool x.here,.int .i64 x.cost,.slice A1 x.hops.length c1] 130)):=(zac _ _).alloc (zab _) _;have hcal:=tB x r _ _ _ (h1.below hb) (h2.below hb);unfold af.agg at hcal⊢;obtain⟨hx,hhx⟩:∃l,x.hops=l:=⟨_,rfl⟩;obtain⟨hr,hhr⟩:∃l,r.hops=l:=⟨_,rfl⟩;rw[hhx,hhr]at hcal;rw[hhx]at hb⊢;rw[hhr]at hg;obtain⟨hg1,hg2⟩:=hg;have HC:=zaa hcal;have HB:=zaa hb;clear h1 h2 hb hcal hhx hhr;go_enter Tryz.func115,Tryz.ntmps115
 go_wp2_with fail
 refine HC.out.mono ?_;rintro e w1 ⟨rfl,hb1⟩;have HB1:=zaa (HB.out.trans (hb1.mono HB.out.size));clear hb1;go_wp2_with fail
 go_ret
 exact⟨rfl,HB1.out⟩
theorem wR(x r:af)(v1 v2:Value)(g:Nat)(w:World)(h1:Sl aI w v1 x.hops)(hg:pL w g r v2):
  Calls Tryz.prog 118 #[x.agg v1,.pointer (some ⟨g,0,none⟩)] w fun e w'=>e= .returned (.bool (bA x.pre r.pre))/\Below w.heap.size w w':=by
 obtain⟨A1,c1,rfl⟩:=h1.form;have hb:Below w.heap.size w (w.alloc (.cells #[.int .i64 x.pre.addr,.int .i64 x.pre.bits,.bool x.here,.int .i64 x.cost,.slice A1 x.hops.length c1] 130)):=(zac _ _).alloc (zab _) _;obtain⟨hx,hhx⟩:∃l,x.hops=l:=⟨_,rfl⟩;unfold af.agg;rw[hhx]at hb⊢;obtain⟨hg1,hg2⟩:=hg;have HB:=zaa hb;have q1:=lu x.pre.addr x.pre.bits r.pre.addr r.pre.bits;have q2:=fun a b=>gF .eql a b;clear h1 hb hhx;go_enter Tryz.func118,Tryz.ntmps118
 go_wp2_with fail
 go_ret
 exact⟨rfl,HB.out⟩
def ask(p:af->Bool)(fid:Nat)(cap:Value)(w:World):Prop:=∀(x:af) (v:Value) (w':World),Below w.heap.size w w'->Sl aI w' v x.hops->Calls Tryz.prog fid #[x.agg v,cap] w' fun e w''=>e= .returned (.bool (p x))/\Below w'.heap.size w' w''
theorem zK(p:af->Bool)(cap:Value)(v:Value)(xs:List af)(w:World)(h:Sl aB w v xs)(hl:xs.length<=1000000)(hp:ask p 115 cap w):
  Calls Tryz.prog 154 #[v,.func (.func 115) #[] #[cap]] w fun e w'=>(∃n:Int,e= .returned (.int .i64 n)/\decide (0<=n)=xs.any p)/\Below w.heap.size w w':=by
 obtain⟨A,c,rfl⟩:=h.form;have H:=zaa h;have HP:=zaa hp;clear h hp;go_enter Tryz.func154,Tryz.ntmps154
 go_wp2_with fail
 go_loopw [5,8] (fun _ i wr=>∃k:Nat,k<=xs.length/\i= .int .i64 k/\Below w.heap.size w wr/\∀j,(h:j<xs.length)->j<k->p xs[j]=false) (fun _ i _=>xs.length-(intOf i).toNat)
 case atStart=>exact⟨0,zap _,rfl,zac _ _,fun j _ h=>absurd h (by omega)⟩
 case round=>
  obtain⟨k,hk,rfl,hB,hall⟩:=hrel;have HA:=zaa hall;have HB:=zaa hB;clear hall;by_cases hlt:k<xs.length
  · obtain⟨b,off,rfl,hb⟩:=H.out.at_ hlt;obtain⟨vh,f1,f2,f3,f4,f5,hs,_⟩:=(H.out.below hB).route hlt;have hcal:=HP.out xs[k] vh wr hB hs;unfold af.agg at hcal;have HC:=zaa hcal;clear hB hcal hs;(go_wp2_with fail);refine HC.out.mono ?_;rintro e w1 ⟨rfl,hb1⟩;have HB1:=zaa (HB.out.trans (hb1.mono HB.out.size));clear hb1;rcases hp:p xs[k]with _|_
    · have HPX:=zaa hp;clear hp;(go_wp2_with fail);(go_roundw);case rel=>
       refine⟨k+1,by omega,by go_num,HB1.out,fun j hj hjk=> ?_⟩;by_cases e:j=k
       · subst e;exact HPX.out
       · exact HA.out j hj (by omega)
      case measure=>simp[intOf];omega
    · have HPX:=zaa hp;clear hp;(go_wp2_with fail);(go_ret);refine⟨⟨(k:Int),rfl,?_⟩,HB1.out⟩;have:xs.any p=true:=zbp.2 ⟨xs[k],zaw hlt,HPX.out⟩;simp[this]
  · clear hB;(go_wp2_with fail);(go_ret);refine⟨⟨-1,rfl,?_⟩,HB.out⟩;have:xs.any p=false:=by
     rw[zch];intro x hx;obtain⟨j,hj,rfl⟩:=zau hx;simp[HA.out j hj (by omega)]
    simp[this]
theorem Af(p:af->Bool)(cap:Value)(v:Value)(xs:List af)(w:World)(h:Sl aB w v xs)(hl:xs.length<=1000000)(hp:ask p 115 cap w):
  Calls Tryz.prog 114 #[v,.func (.func 115) #[] #[cap]] w fun e w'=>e= .returned (.bool (xs.any p))/\Below w.heap.size w w':=by
 have HI:=zaa (zK p cap v xs w h hl hp);clear h hp;go_enter Tryz.func114,Tryz.ntmps114
 go_wp2_with fail
 refine HI.out.mono ?_;rintro e w1 ⟨⟨n,rfl,hn⟩,hb1⟩;have HB1:=zaa hb1;clear hb1;go_wp2_with fail
 go_ret
 exact⟨by first|rfl|exact eb hn,HB1.out⟩
theorem zJ(p:af->Bool)(cap:Value)(v:Value)(xs:List af)(w:World)(h:Sl aB w v xs)(hl:xs.length<=1000000)(hp:ask p 118 cap w):
  Calls Tryz.prog 154 #[v,.func (.func 118) #[] #[cap]] w fun e w'=>(∃n:Int,e= .returned (.int .i64 n)/\decide (0<=n)=xs.any p)/\Below w.heap.size w w':=by
 obtain⟨A,c,rfl⟩:=h.form;have H:=zaa h;have HP:=zaa hp;clear h hp;go_enter Tryz.func154,Tryz.ntmps154
 go_wp2_with fail
 go_loopw [5,8] (fun _ i wr=>∃k:Nat,k<=xs.length/\i= .int .i64 k/\Below w.heap.size w wr/\∀j,(h:j<xs.length)->j<k->p xs[j]=false) (fun _ i _=>xs.length-(intOf i).toNat)
 case atStart=>exact⟨0,zap _,rfl,zac _ _,fun j _ h=>absurd h (by omega)⟩
 case round=>
  obtain⟨k,hk,rfl,hB,hall⟩:=hrel;have HA:=zaa hall;have HB:=zaa hB;clear hall;by_cases hlt:k<xs.length
  · obtain⟨b,off,rfl,hb⟩:=H.out.at_ hlt;obtain⟨vh,f1,f2,f3,f4,f5,hs,_⟩:=(H.out.below hB).route hlt;have hcal:=HP.out xs[k] vh wr hB hs;unfold af.agg at hcal;have HC:=zaa hcal;clear hB hcal hs;(go_wp2_with fail);refine HC.out.mono ?_;rintro e w1 ⟨rfl,hb1⟩;have HB1:=zaa (HB.out.trans (hb1.mono HB.out.size));clear hb1;rcases hp:p xs[k]with _|_
    · have HPX:=zaa hp;clear hp;(go_wp2_with fail);(go_roundw);case rel=>
       refine⟨k+1,by omega,by go_num,HB1.out,fun j hj hjk=> ?_⟩;by_cases e:j=k
       · subst e;exact HPX.out
       · exact HA.out j hj (by omega)
      case measure=>simp[intOf];omega
    · have HPX:=zaa hp;clear hp;(go_wp2_with fail);(go_ret);refine⟨⟨(k:Int),rfl,?_⟩,HB1.out⟩;have:xs.any p=true:=zbp.2 ⟨xs[k],zaw hlt,HPX.out⟩;simp[this]
  · clear hB;(go_wp2_with fail);(go_ret);refine⟨⟨-1,rfl,?_⟩,HB.out⟩;have:xs.any p=false:=by
     rw[zch];intro x hx;obtain⟨j,hj,rfl⟩:=zau hx;simp[HA.out j hj (by omega)]
    simp[this]
theorem Ad(p:af->Bool)(cap:Value)(v:Value)(xs:List af)(w:World)(h:Sl aB w v xs)(hl:xs.length<=1000000)(hp:ask p 118 cap w):
  Calls Tryz.prog 114 #[v,.func (.func 118) #[] #[cap]] w fun e w'=>e= .returned (.bool (xs.any p))/\Below w.heap.size w w':=by
 have HI:=zaa (zJ p cap v xs w h hl hp);clear h hp;go_enter Tryz.func114,Tryz.ntmps114
 go_wp2_with fail
 refine HI.out.mono ?_;rintro e w1 ⟨⟨n,rfl,hn⟩,hb1⟩;have HB1:=zaa hb1;clear hb1;go_wp2_with fail
 go_ret
 exact⟨by first|rfl|exact eb hn,HB1.out⟩
end
section
open Go.RowKit Go.Deep
end
section
open Go.RowKit Go.Deep
theorem OwR.slC{E base:Nat}{w:World}{v:Value}{xs:List Int}(h:OwR aI E base w v xs):SlR aI w (fun k=>k<w.heap.size/\base<=k) v xs:=by
 obtain⟨A,c,rfl,h1,h2,h3⟩:=h.sl (by decide);refine⟨A,c,rfl,h1,h2,fun i x hx=> ?_⟩;obtain⟨b,off,cs,rfl,hS,hb,hh,hc⟩:=h3 i x hx;exact⟨b,off,cs,rfl,⟨hb,(h.base_le b rfl).1⟩,hb,hh,hc⟩
def pK(r:List af × List ae × Int)(w:World)(e:Ending)(w':World):Prop:=
 ∃v' u',e= .returned (.tuple #[v',u',.int .i64 r.2.2])/\Sl aB w' v' r.1/\Sl aA w' u' r.2.1/\Below w.heap.size w w'
theorem Cq{r:List af × List ae × Int}{w w':World}{v' u':Value}{ys:List af}{ks:List ae}{n:Int}(h:r=(ys,ks,n))(h1:Sl aB w' v' ys)(h2:Sl aA w' u' ks)(hb:Below w.heap.size w w'):
 pK r w (.returned (.tuple #[v',u',.int .i64 n])) w':=⟨v',u',by rw[h],by rw[h];exact h1,by rw[h];exact h2,hb⟩
theorem ir:Elt Tryz.prog 47 130 5 56:=⟨Tryz.underlying47,by
 have h:(Tryz.prog.info? 130).map (fun i=>(i.zero,i.size,i.bytes))=some (some (.agg #[.int .i64 0,.int .i64 0,.bool false,.int .i64 0,.slice none 0 0]),5,56):=by kernel_rfl
 obtain⟨i,h1,h2,h3,h4⟩:=info_parts h
 exact⟨i,_,h1,h2,h3,h4,rfl⟩,by decide⟩
theorem Cf:Elt Tryz.prog 46 32 2 16:=⟨Tryz.underlying46,by
 have h:(Tryz.prog.info? 32).map (fun i=>(i.zero,i.size,i.bytes))=some (some (.agg #[.int .i64 0,.int .i64 0]),2,16):=by kernel_rfl
 obtain⟨i,h1,h2,h3,h4⟩:=info_parts h
 exact⟨i,_,h1,h2,h3,h4,rfl⟩,by decide⟩
theorem rG{ops:Array Oper}{rest:List Oper}{o:Oper}{a:Act}{Q:Exit->Act->World->Prop}{w:World}{base:Nat}(hgd:o.guard=none)(s x:Operand)
  (ho:o.op= .call {callee:= .builtin .append,args:= #[s,x],argTypes:= #[47,47]}) {v vh:Value} {xs:List af} {r:af} {S:Nat->Prop}
  (hown:OwR aB 130 base w v xs) (hh:SlR aI w S vh r.hops) (hw:r.wf) (hS:∀k,S k->k<w.heap.size/\v.ownBlock≠some k) (hs:a.eval s=v)
  {B:Nat} (hx:a.eval x= .slice (some ⟨B,0,none⟩) 1 1) (hB:B=w.heap.size) (hb:xs.length<=1000000)
  (h:∀v' w',OwR aB 130 base w' v' (xs++[r])->al (w.alloc (.cells #[.int .i64 r.pre.addr,.int .i64 r.pre.bits,.bool r.here,.int .i64 r.cost,vh] 130)) v w' v'->wpList Tryz.prog ops Q rest (a.put o.dst v') w'):
  wpList Tryz.prog ops Q (o::rest) a (w.alloc (.cells #[.int .i64 r.pre.addr,.int .i64 r.pre.bits,.bool r.here,.int .i64 r.cost,vh] 130)):=
 wpList_plain hgd fun _ hK=>by
  subst hB;have hone:SlR aB (w.alloc (.cells #[.int .i64 r.pre.addr,.int .i64 r.pre.bits,.bool r.here,.int .i64 r.cost,vh] 130)) (fun k=>S k∨k=w.heap.size) (.slice (some ⟨w.heap.size,0,none⟩) 1 1) [r]:=by
   refine⟨some ⟨w.heap.size,0,none⟩,1,rfl,by simp,by decide,fun i y hy=> ?_⟩
   match i,hy with
   | 0,hy=>
     simp at hy;subst hy;refine⟨w.heap.size,0,r.cells vh,rfl,.inr rfl,by simp,⟨vh,rfl,SlR.keep hh (fun k hk=>zbf _ _ _ (hS k hk).1) (fun k hk=> .inl hk),hw⟩,fun j u hu=> ?_⟩;rw[zah _ _ _ _ rfl];simpa [af.cells]using hu
   | i+1,hy=>simp at hy
  obtain⟨v',w',hrun,r2,r3,r4⟩:=bH (ty:=o.type) ir (hown.alloc1 _) hone (fun cs y hy=>aB.keep hy (fun _ _=>rfl) (fun k hk=>by
   rcases hk with hk|hk
   · have:=hS k hk;exact⟨by simp;omega,this.2⟩
   · subst hk;exact⟨by simp,fun e=>by have:=(hown.base_le _ e).2;omega⟩)) (by unfold maxLen;simp;omega) (by simp;omega)
  unfold Oper.wp execOp;simp only[ho,resolve,invoke,builtin,zbK,zbJ,Result.andThen_ok,zbn,zbc,zbB,hs,hx,hrun];exact hK _ _ (h v' w' r2 (al.of_at r3 r4))
theorem sL{ops:Array Oper}{rest:List Oper}{o:Oper}{a:Act}{Q:Exit->Act->World->Prop}{w:World}{base:Nat}(hgd:o.guard=none)(s x:Operand)
  (ho:o.op= .call {callee:= .builtin .append,args:= #[s,x],argTypes:= #[46,46]}) {v:Value} {xs:List ae} {r:ae}
  (hown:OwR aA 32 base w v xs) (hw:inR r.addr/\inR r.bits) (hs:a.eval s=v) {B:Nat} (hx:a.eval x= .slice (some ⟨B,0,none⟩) 1 1) (hB:B=w.heap.size) (hb:xs.length<=1000000)
  (h:∀v' w',OwR aA 32 base w' v' (xs++[r])->al (w.alloc (.cells #[.int .i64 r.addr,.int .i64 r.bits] 32)) v w' v'->wpList Tryz.prog ops Q rest (a.put o.dst v') w'):
  wpList Tryz.prog ops Q (o::rest) a (w.alloc (.cells #[.int .i64 r.addr,.int .i64 r.bits] 32)):=
 wpList_plain hgd fun _ hK=>by
  subst hB;have hone:=SlR.one_new (r:=aA) (w:=w) (cs:=[.int .i64 r.addr,.int .i64 r.bits]) (x:=r) (E:=32) ⟨rfl,hw⟩;obtain⟨v',w',hrun,r2,r3,r4⟩:=bH (ty:=o.type) Cf (hown.alloc1 _) hone (fun _ _ h=>h) (by unfold maxLen;simp;omega) (by simp;omega);unfold Oper.wp execOp;simp only[ho,resolve,invoke,builtin,zbK,zbJ,Result.andThen_ok,zbn,zbc,zbB,hs,hx,hrun];exact hK _ _ (h v' w' r2 (al.of_at r3 r4))
theorem Cm(v1 v2:Value)(xs ys:List af)(w:World)(h1:Sl aB w v1 xs)(h2:Sl aB w v2 ys):Calls Tryz.prog 68 #[v1,v2] w (pK (mH xs ys) w):=by
 have hlen:=h2.len_le;have hlen1:=h1.len_le;obtain⟨A1,c1,rfl⟩:=h1.form;obtain⟨A2,c2,rfl⟩:=h2.form;have H1:=zaa h1;have H2:=zaa h2;clear h1 h2;go_enter Tryz.func68,Tryz.ntmps68
 go_wp2_with fail
 refine(eS _ xs _ H1.out).mono ?_;rintro r w1 ⟨rfl,hb1⟩;have HB1:=zaa hb1;have hz1:=hb1.size;clear hb1;by_cases hc:ah xs=0
 · (have t1:(ah xs !=0)=false:=by simp[hc]);have HC:=zaa hc;clear hc;(go_wp2_with fail);refine(eS _ ys _ (H2.out.below HB1.out)).mono ?_;rintro r w2 ⟨rfl,hb2⟩;have HB2:=zaa (HB1.out.trans (hb2.mono hz1));have hz2:=HB2.out.size;clear hb2;by_cases hc2:ah ys=0
   · (have t2:(ah ys !=0)=false:=by simp[hc2]);have HOKA:=zaa (fk HC.out);have HOKB:=zaa (fk hc2);have hl2:=HOKB.out.1;have hl1:=HOKA.out.1;have HF:=zaa (yu HC.out hc2);clear hc2;(go_wp2_with fail);(go_loopw [9,11,27] (fun s9 _ s27 wr=>∃k:Nat,k<=ys.length/\s27= .int .i64 k/\OwR aB 130 w.heap.size wr s9 ((ys.take k).filter fun r=> !oZ xs r)/\Below w.heap.size w wr) (fun _ _ s27 _=>ys.length-(intOf s27).toNat));(case atStart=>exact⟨0,zap _,rfl,OwR.nil _ _ HB2.out.size,HB2.out⟩);case round=>
      obtain⟨k,hk,rfl,hown,hB⟩:=hrel;have HO:=zaa hown;have HB:=zaa hB;have hez:=hB.size;by_cases hlt:k<ys.length
      · obtain⟨b,off,rfl,hb⟩:=H2.out.at_ hlt;obtain⟨vh,f1,f2,f3,f4,f5,hs,hrw⟩:=(H2.out.below hB).route hlt;have hset:=Ef (a:=xs) hlt;have hhl:=(dy (HOKB.out.2 k hlt)).2;obtain⟨y,hy⟩:∃y,ys[k]=y:=⟨_,rfl⟩;rw[hy]at f1 f2 f3 f4 hs hrw hset hhl;have HRW:=zaa hrw;have HSET:=zaa hset;have hba:Below wr.heap.size wr (wr.alloc (.cells #[.int .i64 y.pre.addr,.int .i64 y.pre.bits,.bool y.here,.int .i64 y.cost,vh] 130)):=(zac _ _).alloc (zab _) _;have hbx:pL (wr.alloc (.cells #[.int .i64 y.pre.addr,.int .i64 y.pre.bits,.bool y.here,.int .i64 y.cost,vh] 130)) wr.heap.size y vh:=⟨by simp,fun i=>zah _ _ _ _ rfl⟩;have hask:ask (fun x=>j7 x y) 115 (.pointer (some ⟨wr.heap.size,0,none⟩)) (wr.alloc (.cells #[.int .i64 y.pre.addr,.int .i64 y.pre.bits,.bool y.here,.int .i64 y.cost,vh] 130)):=fun x v w' hb' hs'=>
         wS x y v vh wr.heap.size w' hs' ((hs.below hba).below hb') (hbx.keep hb')
        have HCON:=zaa (Af _ _ _ xs _ ((H1.out.below hB).below hba) (by omega) hask);have HS:=zaa (hs.below hba);obtain⟨Ah,ch,hvh⟩:=hs.form;subst hvh;have HHL:=zaa hhl;have r0:(0:Int)<=(k:Int):=zai _;(have r1:(k:Int)<(ys.length:Int):=by omega);clear hown hB hy hrw hset hba hbx hask hs hhl;(go_wp2_with fail);refine HCON.out.mono ?_;rintro e w3 ⟨rfl,hb3⟩;obtain⟨hA,hN,hM,hS⟩:=aT hb3;have HB3:=zaa (HB.out.trans (hA.mono hez));have HO3:=zaa (HO.out.keep hA);have HS3:=zaa (HS.out.below hb3);clear hb3 hA f1 f2 f3 f4 f5;rcases hin:xs.any (fun x=>j7 x y)with _|_
        · have HIN:=zaa (show oZ xs y=false from hin);obtain⟨hh,hhe⟩:∃l,y.hops=l:=⟨_,rfl⟩;have HCP:=zaa (iR y _ w3 HS3.out (by have:=HHL.out;omega));have HHE:=zaa hhe;rw[hhe]at HCP hN⊢;clear hin hhe;(go_wp2_with fail);refine HCP.out.mono ?_;rintro e w4 ⟨v4,rfl,ho4,hb4⟩;have HO4:=zaa (HO3.out.keep hb4);have HB4:=zaa (HB3.out.trans (hb4.mono HB3.out.size));have HH4:=zaa ho4.slC;have HKS:=zaa (show∀k,(k<w4.heap.size/\w3.heap.size<=k)->k<w4.heap.size/\u9.ownBlock≠some k from fun k hk=>⟨hk.1,fun e=>by have:=(HO3.out.base_le _ e).2;omega⟩);have HFL:=zaa (show((ys.take k).filter fun r=> !oZ xs r).length<=1000000 by have:=pj (fun r=> !oZ xs r) ys k;omega);clear ho4 hb4 hN hM;(go_wp2_with (at_builtin;refine rG (w:=w4) (base:=w.heap.size) (r:=y) rfl (.tmp 35) (.tmp 38) rfl HO4.out HH4.out HRW.out HKS.out rfl rfl (by first|rfl|simp) HFL.out ?_;intro v5 w5 ho5 hg5));(go_roundw);case rel=>
           refine⟨k+1,by omega,by go_num,?_,(HB4.out.alloc HB4.out.size _).grown hg5.grown (by simp;have:=HB4.out.size;omega) (fun q e=>(HO4.out.base_le q e).1)⟩;rw[HSET.out,if_neg (by rw[HIN.out];simp)];exact ho5
          case measure=>simp[intOf];omega
        · have HIN:=zaa (show oZ xs y=true from hin);clear hin;(go_wp2_with fail);(go_roundw);case rel=>
           refine⟨k+1,by omega,by go_num,?_,HB3.out⟩;rw[HSET.out,if_pos HIN.out,zbM];exact HO3.out
          case measure=>simp[intOf];omega
      · (obtain rfl:k=ys.length:=by omega);(have hset:((ys.take ys.length).filter fun r=> !oZ xs r)=dM xs ys:=by unfold dM;rw[zaN]);rw[hset]at hown;have HSL:=zaa (hown.sl (by decide));clear hown hB hset HO;(go_wp2_with fail);obtain⟨wm,rfl⟩:∃m,m=wr:=⟨wr,rfl⟩;(go_loopw [12,14,43] (fun s12 _ s43 wq=>∃k:Nat,k<=xs.length/\s43= .int .i64 k/\OwR aA 32 wm.heap.size wq s12 (((xs.take k).filter fun r=> !mB ys r).map af.pre)/\Below wm.heap.size wm wq) (fun _ _ s43 _=>xs.length-(intOf s43).toNat));(case atStart=>exact⟨0,zap _,rfl,OwR.nil _ _ (zab _),zac _ _⟩);case round=>
         obtain⟨k,hk,rfl,hown,hBq⟩:=hrel;have hB:=HB.out.trans (hBq.mono hez);have HO:=zaa hown;have HBQ:=zaa hBq;have hezq:=hBq.size;by_cases hlt:k<xs.length
         · obtain⟨b,off,rfl,hb⟩:=H1.out.at_ hlt;obtain⟨vh,f1,f2,f3,f4,f5,hs,hrw⟩:=(H1.out.below hB).route hlt;have hset:=Dw (b:=ys) hlt;obtain⟨y,hy⟩:∃y,xs[k]=y:=⟨_,rfl⟩;rw[hy]at f1 f2 f3 f4 hs hrw hset;have HRW:=zaa hrw;have HSET:=zaa hset;have hba:Below wr.heap.size wr (wr.alloc (.cells #[.int .i64 y.pre.addr,.int .i64 y.pre.bits,.bool y.here,.int .i64 y.cost,vh] 130)):=(zac _ _).alloc (zab _) _;have hbx:pL (wr.alloc (.cells #[.int .i64 y.pre.addr,.int .i64 y.pre.bits,.bool y.here,.int .i64 y.cost,vh] 130)) wr.heap.size y vh:=⟨by simp,fun i=>zah _ _ _ _ rfl⟩;have hask:ask (fun x=>bA x.pre y.pre) 118 (.pointer (some ⟨wr.heap.size,0,none⟩)) (wr.alloc (.cells #[.int .i64 y.pre.addr,.int .i64 y.pre.bits,.bool y.here,.int .i64 y.cost,vh] 130)):=fun x v w' hb' hs'=>
            wR x y v vh wr.heap.size w' hs' (hbx.keep hb')
           have HCON:=zaa (Ad _ _ _ ys _ ((H2.out.below hB).below hba) (by omega) hask);have r0:(0:Int)<=(k:Int):=zai _;(have r1:(k:Int)<(xs.length:Int):=by omega);obtain⟨Ah,ch,hvh⟩:=hs.form;subst hvh;clear hown hBq hB hy hrw hset hba hbx hask hs;(go_wp2_with fail);refine HCON.out.mono ?_;rintro e w3 ⟨rfl,hb3⟩;obtain⟨hA,hN,hM,hS⟩:=aT hb3;have HB3:=zaa (HBQ.out.trans (hA.mono hezq));have HO3:=zaa (HO.out.keep hA);clear hb3 hA f1 f2 f3 f4 f5;rcases hin:ys.any (fun x=>bA x.pre y.pre)with _|_
           · have HIN:=zaa (show mB ys y=false from hin);have HFL:=zaa (show(((xs.take k).filter fun r=> !mB ys r).map af.pre).length<=1000000 by rw[zaI];have:=pj (fun r=> !mB ys r) xs k;omega);clear hin;(go_wp2_with (at_builtin;refine sL (w:=w3) (base:=wm.heap.size) (r:=y.pre) rfl (.tmp 51) (.tmp 54) rfl HO3.out ⟨HRW.out.1,HRW.out.2.1⟩ rfl rfl (by first|rfl|simp) HFL.out ?_;intro v5 w5 ho5 hg5));(go_roundw);case rel=>
              refine⟨k+1,by omega,by go_num,?_,(HB3.out.alloc HB3.out.size _).grown hg5.grown (by simp;have:=HB3.out.size;omega) (fun q e=>(HO3.out.base_le q e).1)⟩;rw[HSET.out,if_neg (by rw[HIN.out];simp)];exact ho5
             case measure=>simp[intOf];omega
           · have HIN:=zaa (show mB ys y=true from hin);clear hin;(go_wp2_with fail);(go_roundw);case rel=>
              refine⟨k+1,by omega,by go_num,?_,HB3.out⟩;rw[HSET.out,if_pos HIN.out,zbM];exact HO3.out
             case measure=>simp[intOf];omega
         · (obtain rfl:k=xs.length:=by omega);(have hset:(((xs.take xs.length).filter fun r=> !mB ys r).map af.pre)=cP xs ys:=by unfold cP;rw[zaN]);rw[hset]at hown;have HSG:=zaa (hown.sl (by decide));clear hown hBq hset HO;(go_wp2_with fail);(go_ret3);exact Cq HF.out (HSL.out.below HBQ.out) HSG.out hB
   · (have t2:(ah ys !=0)=true:=by simp[hc2]);have HF:=zaa (z8 HC.out hc2);clear hc2;(go_wp2_with fail);(go_ret3);exact Cq HF.out (Sl.nil _ _) (Sl.nil _ _) HB2.out
 · (have t1:(ah xs !=0)=true:=by simp[hc]);have HF:=zaa (Aa (b:=ys) hc);clear hc;(go_wp2_with fail);(go_ret3);exact Cq HF.out (Sl.nil _ _) (Sl.nil _ _) HB1.out
end
end Go.Proofs.YtojojpjldkpmoaaGreatDoor
