/-
  
-/
import Derived.Test.YtojojpjldkpmoaaGreatDoorGDeD
import Derived.Test.YtojojpjldkpmoaaGreatDoorGNtN
import Derived.Test.YtojojpjldkpmoaaGreatDoorGDoB
set_option linter.unusedVariables false
set_option linter.unusedSimpArgs false
set_option maxHeartbeats 16000000
set_option maxRecDepth 100000
namespace Go.Proofs.YtojojpjldkpmoaaGreatDoor
section
open Go.RowKit Go.Deep
def eY(w:World)(g:Nat)(L:List UInt8)(s:RSt):Prop:=
 ∃A c i,g<w.heap.size/\w.cell? ⟨g,0,none⟩=some (.slice A L.length c)/\w.cell? ⟨g,1,none⟩=some (.int .i64 (i:Nat))/\w.cell? ⟨g,2,none⟩=some (.int .i64 s.2)/\(∀j,w.frozen? ⟨g,j,none⟩=false)/\
  SlR aG w (fun k=>k<w.heap.size/\k<g) (.slice A L.length c) L/\i<=L.length/\s.1=L.drop i/\L.length<=1000000
theorem SlR.cap{α:Type}{r:Rep α}{w:World}{S:Nat->Prop}{A:Option Addr}{n c:Nat}{xs:List α}(h:SlR r w S (.slice A n c) xs):xs.length<=c/\c<=9223372036854775807:=by
 obtain⟨_,_,hv,h1,h2,_⟩:=h;injection hv with _ _ e;subst e;exact⟨h1,by unfold maxLen at h2;omega⟩
theorem SlR.inS{α:Type}{r:Rep α}{w:World}{S:Nat->Prop}{b off n c:Nat}{xs:List α}(h:SlR r w S (.slice (some ⟨b,off,none⟩) n c) xs){k:Nat}(hk:k<xs.length):S b:=by
 obtain⟨_,_,hv,_,_,h3⟩:=h;injection hv with e _ _;subst e;obtain⟨b2,off2,cs2,hA,hS,_⟩:=h3 k xs[k] (zad hk);injection hA with hA;injection hA with h1;subst h1;exact hS
def xC{α:Type}(p:List UInt8->Except Int (α × List UInt8))(val:α->Value)(ok:α->Prop)(w:World)(g:Nat)(L:List UInt8)(s:RSt)(e:Ending)(w':World):Prop:=
 ∃a s',e= .returned (val a)/\Stp p s a s'/\ok a/\eY w' g L s'/\w.grownBy w' (some g)
theorem kT(w:World)(g i:Nat)(v:Value):w.grownBy (w.setCell ⟨g,i,none⟩ v) (some g):=mf w ⟨g,i,none⟩ v
theorem eY.err{w:World}{g:Nat}{L:List UInt8}{s:RSt}(h:eY w g L s)(n:Int):eY (w.setCell ⟨g,2,none⟩ (.int .i64 n)) g L (s.1,n)/\w.grownBy (w.setCell ⟨g,2,none⟩ (.int .i64 n)) (some g):=by
 have hg:=kT w g 2 (.int .i64 n);obtain⟨A,c,i,h0,h1,h2,h3,h4,h5,h6⟩:=h;refine⟨⟨A,c,i,zas h0 hg.size,?_,?_,zbP _ _ _ h3,fun j=>by simp only[zaz];exact h4 j,h5.other hg,h6⟩,hg⟩
 · rw[zaj w ⟨g,2,none⟩ ⟨g,0,none⟩ _ (by simp)];exact h1
 · rw[zaj w ⟨g,2,none⟩ ⟨g,1,none⟩ _ (by simp)];exact h2
theorem eY.move{w:World}{g:Nat}{L:List UInt8}{s:RSt}(h:eY w g L s)(m:Nat)(hm:m<=L.length):eY (w.setCell ⟨g,1,none⟩ (.int .i64 (m:Nat))) g L (L.drop m,s.2)/\w.grownBy (w.setCell ⟨g,1,none⟩ (.int .i64 (m:Nat))) (some g):=by
 have hg:=kT w g 1 (.int .i64 (m:Nat));obtain⟨A,c,i,h0,h1,h2,h3,h4,h5,h6,h7,h8⟩:=h;refine⟨⟨A,c,m,zas h0 hg.size,?_,zbP _ _ _ h2,?_,fun j=>by simp only[zaz];exact h4 j,h5.other hg,hm,rfl,h8⟩,hg⟩
 · rw[zaj w ⟨g,1,none⟩ ⟨g,0,none⟩ _ (by simp)];exact h1
 · rw[zaj w ⟨g,1,none⟩ ⟨g,2,none⟩ _ (by simp)];exact h3
theorem eY.keep{w w':World}{g:Nat}{L:List UInt8}{s:RSt}(h:eY w g L s)(hk:∀k,k<=g->w'.heap[k]? =w.heap[k]?)(hz:w.heap.size<=w'.heap.size):eY w' g L s:=by
 obtain⟨A,c,i,h0,h1,h2,h3,h4,h5,h6⟩:=h;have e:=hk g (zab _);exact⟨A,c,i,by omega,(zav e).trans h1,(zav e).trans h2,(zav e).trans h3,fun j=>(zaK e).trans (h4 j),SlR.keep h5 (fun k hk'=>hk k (by omega)) (fun k hk'=>⟨by omega,hk'.2⟩),h6⟩
theorem eY.lt{w:World}{g:Nat}{L:List UInt8}{s:RSt}(h:eY w g L s):g<w.heap.size:=by obtain⟨_,_,_,h0,_⟩:=h;exact h0
theorem eY.drewN{w:World}{g:Nat}{L:List UInt8}{s:RSt}(h:eY w g L s)(n:Nat):eY (w.drewN n) g L s:=h.keep (fun _ _=>rfl) (zab _)
theorem eY.alloc{w:World}{g:Nat}{L:List UInt8}{s:RSt}(h:eY w g L s)(o:Obj):eY (w.alloc o) g L s:=h.keep (fun k hk=>zbf _ _ _ (by have:=h.lt;omega)) (by simp)
theorem eY.grown{w w':World}{g:Nat}{L:List UInt8}{s:RSt}{row:Option Nat}(h:eY w g L s)(hg:w.grownBy w' row)(hr:∀k,row=some k->g<k):eY w' g L s:=
 h.keep (fun k hk=>hg.block k (by have:=h.lt;omega) (fun e=>by have:=hr k e.symm;omega)) hg.size
theorem iZ{w w':World}{row:Option Nat}(h:w.grownBy w' row)(n:Nat):w.grownBy (w'.drewN n) row:=⟨h.os,h.tape,h.output,h.size,h.block⟩
theorem kP(w:World)(g:Nat)(L:List UInt8)(s:RSt)(h:eY w g L s):
  Calls Tryz.prog 78 #[.pointer (some ⟨g,0,none⟩)] w (xC bJ (Value.int .i64) (fun a=>0<=a/\a<=255) w g L s):=by
 have HS:=zaa h;obtain⟨A,c,i,hg,f0,f1,f2,f3,hs,hi,hd,hl⟩:=h;have hsl:=hs.to_sl (fun k hk=>hk.1);have HSL:=zaa hsl;have HD:=zaa hd;obtain⟨l,e⟩:=s;simp only at f2 HD hd;obtain⟨n,hn⟩:∃n,L.length=n:=⟨_,rfl⟩;have HN:=zaa hn;rw[hn]at f0 hi hl;by_cases he:e=0
 · subst he;(have hie:¬ (n:Int)<(i:Int):=by omega);by_cases hlt:i<n
   · obtain⟨b,off,rfl,hb⟩:=hsl.at_ (show i<L.length by omega);have fx:=hsl.byte (show i<L.length by omega);(have hcons:l=L[i]'(by omega)::L.drop (i+1):=by rw[hd,List.drop_eq_getElem_cons (by omega)]);obtain⟨x,hx⟩:∃x,L[i]'(by omega)=x:=⟨_,rfl⟩;rw[hx]at fx hcons;have HC:=zaa hcons;(have hb':¬ (b=g):=by have:=(hs.inS (show i<L.length by omega)).2;omega);have hb2:¬ (g=b):=fun e=>hb' e.symm;(have r1:(i:Int)<(n:Int):=by omega);(have r2:¬ (n:Int)<=(i:Int):=by omega);have hx2:=x.toNat_lt;clear hs hsl hd hn hx hcons;(go_enter Tryz.func78,Tryz.ntmps78);(go_wp2_with fail);(go_quiet (fail));obtain⟨q1,rfl⟩:∃m,m=nq:=⟨nq,rfl⟩;have hmv:=(HS.out.drewN q1).move (i+1) (by have:=HN.out;omega);rw[show((i+1:Nat):Int)=(i:Int)+1 by omega]at hmv;have HMV:=zaa hmv;clear hmv;(go_wp2_with fail);(go_quiet (fail));(go_wp2_with fail);(go_ret);refine⟨(x.toNat:Int),(L.drop (i+1),0),rfl,.ok rfl (by rw[HC.out];rfl),by omega,?_,?_⟩
     · exact HMV.out.1.drewN nq
     · exact iZ ((iZ (zaV _ _) q1).trans HMV.out.2) _
   · (have hie2:i=n:=by omega);(have hnil:l=[]:=by rw[hd];exact zbA (by omega));have HNI:=zaa hnil;(have r2:(n:Int)<=(i:Int):=by omega);clear hs hsl hd hn hie2 hnil;(go_enter Tryz.func78,Tryz.ntmps78);(go_wp2_with fail);(go_quiet (fail));(go_wp2_with fail);(go_ret);exact⟨0,(l,5),rfl,.err rfl (by rw[HNI.out];rfl) rfl,by omega,((HS.out.drewN nq).err 5).1,(iZ (zaV _ _) nq).trans ((HS.out.drewN nq).err 5).2⟩
 · (have t1:(e==0)=false:=by simpa using he);(have t2:(e !=0)=true:=by simpa using he);have HE:=zaa he;clear hs hsl hd hn he;(go_enter Tryz.func78,Tryz.ntmps78);(go_wp2_with fail);(go_quiet (fail));(go_wp2_with fail);(go_ret);exact⟨0,(l,e),rfl,.off HE.out rfl,by omega,HS.out.drewN _,iZ (zaV _ _) _⟩
end
section
open Go Go.RowKit Go.Deep
def zR{α:Type}(r:Rep α)(Z:Nat):Rep α:=
 { size:=r.size,holds:=fun w S cs x=>r.holds w (fun k=>S k/\Z<=k) cs x
   len:=fun h=>r.len h
   one:=fun h=>r.one h
   keep:=fun h k1 k2=>r.keep h (fun k hk=>k1 k hk.1) (fun k hk=>⟨k2 k hk.1,hk.2⟩)}
theorem Sl.unzR{α:Type}{r:Rep α}{Z:Nat}{w:World}{v:Value}{xs:List α}(h:Sl (zR r Z) w v xs):Sl r w v xs:=by
 obtain⟨A,c,rfl,h1,h2,h3⟩:=h;refine⟨A,c,rfl,h1,h2,fun i x hx=> ?_⟩;obtain⟨b,off,cs,hA,hS,hb,hh,hc⟩:=h3 i x hx;exact⟨b,off,cs,hA,hS,hb,r.keep hh (fun _ _=>rfl) (fun _ hk=>hk.1),hc⟩
theorem OwR.keptZ{α:Type}{r:Rep α}{E base N:Nat}{w w':World}{v:Value}{xs:List α}(h:OwR (zR r (N+1)) E base w v xs)(hg:w.grownBy w' (some N))(hb:N<base):OwR (zR r (N+1)) E base w' v xs:=by
 have hne:v.ownBlock≠some N:=fun e=>by have:=(h.base_le _ e).1;omega
 obtain⟨css,h1,h2,h3,h4⟩:=h;refine⟨css,h1,fun i cs x hc hx=>r.keep (h2 i cs x hc hx) (fun k hk=>hg.block k hk.1.1 (fun e=>by injection e with e;have:=hk.2;omega)) (fun k hk=>⟨⟨zas hk.1.1 hg.size,hk.1.2⟩,hk.2⟩),?_,zax h4 hg.size⟩;exact h3.kept hg (.inr hne)
theorem fF{α:Type}{r:Rep α}{T E:TypeId}{bytes:Nat}(el:Elt Tryz.prog T E r.size bytes){ops:Array Oper}{rest:List Oper}{o:Oper}{a:Act}{Q:Exit->Act->World->Prop}{w:World}{base:Nat}(hgd:o.guard=none)(s x:Operand)
  (ho:o.op= .call {callee:= .builtin .append,args:= #[s,x],argTypes:= #[T,T]}) {v:Value} {xs:List α} {y:α} {cs:List Value} {S:Nat->Prop}
  (hown:OwR r E base w v xs) (hh:r.holds w S cs y) (hS:∀k,S k->k<w.heap.size/\v.ownBlock≠some k) (hs:a.eval s=v)
  {B:Nat} (hx:a.eval x= .slice (some ⟨B,0,none⟩) 1 1) (hB:B=w.heap.size) (hb:xs.length<=1000000) (hby:bytes<=1000)
  (h:∀v' w',OwR r E base w' v' (xs++[y])->al (w.alloc (.cells cs.toArray E)) v w' v'->wpList Tryz.prog ops Q rest (a.put o.dst v') w'):
  wpList Tryz.prog ops Q (o::rest) a (w.alloc (.cells cs.toArray E)):=
 wpList_plain hgd fun _ hK=>by
  subst hB;have hone:SlR r (w.alloc (.cells cs.toArray E)) (fun k=>S k∨k=w.heap.size) (.slice (some ⟨w.heap.size,0,none⟩) 1 1) [y]:=by
   refine⟨some ⟨w.heap.size,0,none⟩,1,rfl,by simp,by decide,fun i z hz=> ?_⟩
   match i,hz with
   | 0,hz=>
     simp at hz;subst hz;refine⟨w.heap.size,0,cs,by simp,.inr rfl,by simp,r.keep hh (fun k hk=>zbf _ _ _ (hS k hk).1) (fun k hk=> .inl hk),fun j u hu=> ?_⟩;rw[zah _ _ _ _ rfl];simpa using hu
   | i+1,hz=>simp at hz
  obtain⟨v',w',hrun,r2,r3,r4⟩:=bH (ty:=o.type) el (au hown _) hone (fun cs y hy=>r.keep hy (fun _ _=>rfl) (fun k hk=>by
   rcases hk with hk|hk
   · have:=hS k hk;exact⟨by simp;omega,this.2⟩
   · subst hk;exact⟨by simp,fun e=>by have:=(hown.base_le _ e).2;omega⟩)) (by unfold maxLen;simp;omega) (by
     have h9:(xs.length+[y].length)*bytes<=1000001*1000:=zcv (by simp;omega) hby;have:(1000001:Nat)*1000=1000001000:=rfl
     omega)
  unfold Oper.wp execOp;simp only[ho,resolve,invoke,builtin,zbK,zbJ,Result.andThen_ok,zbn,zbc,zbB,hs,hx,hrun];exact hK _ _ (h v' w' r2 (al.of_at r3 r4))
theorem Er{P:Program}{T E:TypeId}{size bytes:Nat}(ht:P.underlying T=some (.slice E))(h:(P.info? E).map (fun i=>(i.zero.map (fun z=>z.cells.size),i.size,i.bytes))=some (some size,size,bytes))(hp:0<size):Elt P T E size bytes:=by
 refine⟨ht,?_,hp⟩;rcases hi:P.info? E with _|i
 · rw[hi]at h;cases h
 · rw[hi]at h;simp only[Option.map_some,Option.some.injEq,Prod.mk.injEq]at h;obtain⟨h1,h2,h3⟩:=h;rcases hz:i.zero with _|z
   · rw[hz]at h1;cases h1
   · rw[hz]at h1;exact⟨i,z,rfl,hz,h2,h3,by simpa using h1⟩
theorem Cg:Elt Tryz.prog 23 34 9 88:=Er Tryz.underlying23 (by kernel_rfl) (by decide)
theorem yo:Elt Tryz.prog 25 57 4 64:=⟨Tryz.underlying25,by
 have h:(Tryz.prog.info? 57).map (fun i=>(i.zero,i.size,i.bytes))=some (some (.agg #[.int .i64 0,.slice none 0 0,.int .i64 0,.slice none 0 0]),4,64):=by kernel_rfl
 obtain⟨i,h1,h2,h3,h4⟩:=info_parts h
 exact⟨i,_,h1,h2,h3,h4,rfl⟩,by decide⟩
theorem zY:Elt Tryz.prog 26 42 1 24:=⟨Tryz.underlying26,by
 have h:(Tryz.prog.info? 42).map (fun i=>(i.zero,i.size,i.bytes))=some (some (.slice none 0 0),1,24):=by kernel_rfl
 obtain⟨i,h1,h2,h3,h4⟩:=info_parts h
 exact⟨i,_,h1,h2,h3,h4,rfl⟩,by decide⟩
def yK(X:Nat->Prop)(N:Nat)(x:Net)(r:Ending)(w:World)(e:Ending)(w':World):Prop:=e=r/\bC X w' N x/\w.grownBy w' (some N)
theorem dA(n:Int)(w:World){b:Bool}(hb:isN n=b):Calls Tryz.prog 27 #[.int .i64 n] w fun e w'=>e= .returned (.bool b)/\w=w':=by
 subst hb;by_cases h0:0<=n
 · by_cases h1:n<12
   · have he:isN n=true:=(aV n).2 ⟨h0,h1⟩;have HE:=zaa he;clear he;(go_enter Tryz.func27,Tryz.ntmps27);(go_wp2_with fail);(go_ret);exact⟨eb HE.out.symm,rfl⟩
   · (have he:isN n=false:=by rw[Bool.eq_false_iff];intro h;exact h1 ((aV n).1 h).2);have HE:=zaa he;clear he;(go_enter Tryz.func27,Tryz.ntmps27);(go_wp2_with fail);(go_ret);exact⟨eb HE.out.symm,rfl⟩
 · (have he:isN n=false:=by rw[Bool.eq_false_iff];intro h;exact h0 ((aV n).1 h).1);have HE:=zaa he;clear he;(go_enter Tryz.func27,Tryz.ntmps27);(go_wp2_with fail);(go_ret);exact⟨eb HE.out.symm,rfl⟩
theorem qH{X:Nat->Prop}(N a:Nat)(b c:Int)(x:Net)(w:World)(h:bC X w N x)(ha:a<12):
  Calls Tryz.prog 28 #[.pointer (some ⟨N,0,none⟩),.int .i64 (a:Nat),.int .i64 b,.int .i64 c] w (yK X N (bF x a b c).1 (.returned (.int .i64 (bF x a b c).2)) w):=by
 have HM:=zaa h;have ha0:(0:Int)<=(a:Int):=zai a;have ha1:(a:Int)<12:=by omega
 cases hb:isN b with
 | false=>
   have HL:=zaa (show bF x a b c=(x,2)by unfold bF;rw[if_pos (.inl hb)]);have HI:=zaa (dA b w hb);clear h hb;(go_enter Tryz.func28,Tryz.ntmps28);(go_wp2_with (go_at_call 27;refine HI.out.mono ?_;rintro e w' ⟨rfl,rfl⟩));(go_ret);exact⟨by rw[HL.out];rfl,by rw[HL.out];exact HM.out,zaV _ _⟩
 | true=>
   have HI:=zaa (dA b w hb);have HBT:=zaa hb;obtain⟨hb0,hb1⟩:=(aV b).1 hb;by_cases h0:c<0
   · have HL:=zaa (show bF x a b c=(x,2)by unfold bF;rw[if_pos (.inr (.inl h0))]);clear h hb;(go_enter Tryz.func28,Tryz.ntmps28);(go_wp2_with (go_at_call 27;refine HI.out.mono ?_;rintro e w' ⟨rfl,rfl⟩));(go_ret);exact⟨by rw[HL.out];rfl,by rw[HL.out];exact HM.out,zaV _ _⟩
   · by_cases h1:1000<c
     · have HL:=zaa (show bF x a b c=(x,2)by unfold bF;rw[if_pos (.inr (.inr h1))]);clear h hb;(go_enter Tryz.func28,Tryz.ntmps28);(go_wp2_with (go_at_call 27;refine HI.out.mono ?_;rintro e w' ⟨rfl,rfl⟩));(go_ret);exact⟨by rw[HL.out];rfl,by rw[HL.out];exact HM.out,zaV _ _⟩
     · obtain⟨k,rfl⟩:∃k:Nat,b=k:=⟨b.toNat,by omega⟩;(have hk:k<12:=by omega);(have hn:¬ (isN (k:Int)=false∨c<0∨1000<c):=by rw[HBT.out];simp;omega);have HN:=zaa hn;by_cases he:a=k
       · have HL:=zaa (show bF x a k c=(x,4)by unfold bF;rw[if_neg hn,if_pos (by omega)]);(have heb:((a:Int)==(k:Int))=true:=by rw[beq_iff_eq];omega);clear h hb hn he;(go_enter Tryz.func28,Tryz.ntmps28);(go_wp2_with (go_at_call 27;refine HI.out.mono ?_;rintro e w' ⟨rfl,rfl⟩));(go_ret);exact⟨by rw[HL.out];rfl,by rw[HL.out];exact HM.out,zaV _ _⟩
       · (have heb:((a:Int)==(k:Int))=false:=by rw[beq_eq_false_iff_ne];omega);have f1:=h.co a k ha hk;have f2:=h.co k a hk ha;have z1:=h.fz (48+a*12+k);have z2:=h.fz (48+k*12+a);by_cases hc:c=0/\x.co a k=0
         · obtain⟨hc0,hc1⟩:=hc;have HL:=zaa (show bF x a k c=(x,6)by unfold bF;rw[if_neg hn,if_neg (by omega),if_pos ⟨hc0,hc1⟩]);rw[hc1]at f1;subst hc0;clear h hb hn he f2 z1 z2;(go_enter Tryz.func28,Tryz.ntmps28);(go_wp2_with (go_at_call 27;refine HI.out.mono ?_;rintro e w' ⟨rfl,rfl⟩));(go_ret);exact⟨by rw[HL.out];rfl,by rw[HL.out];exact HM.out,zaV _ _⟩
         · have HL:=zaa (show bF x a k c=({x with co:=dN (dN x.co a k c) k a c},0)by
            unfold bF;rw[if_neg hn,if_neg (by omega)];exact if_neg (by simpa using hc))
           have HS:=zaa ((h.setCo ha hk c).setCo hk ha c);have HG:=zaa ((ba w N (48+a*12+k) (.int .i64 c)).trans (ba (w.setCell ⟨N,48+a*12+k,none⟩ (.int .i64 c)) N (48+k*12+a) (.int .i64 c)));(have hne:¬ (48+a*12+k=48+k*12+a):=by omega);(have hne2:¬ (48+k*12+a=48+a*12+k):=by omega);obtain⟨y,hy⟩:∃y,x.co a k=y:=⟨_,rfl⟩;rw[hy]at f1 hc;(have hcd:(c=0/\¬ y=0)∨¬ c=0:=by omega);clear h hb hn he hy hc;rcases hcd with⟨hc0,hy0⟩|hc0
           · subst hc0;(have hyb:(y==0)=false:=by rw[beq_eq_false_iff_ne];exact hy0);(go_enter Tryz.func28,Tryz.ntmps28);(go_wp2_with (go_at_call 27;refine HI.out.mono ?_;rintro e w' ⟨rfl,rfl⟩));(go_region_with (fail));all_goals
              (go_wp2_with fail);(go_ret);exact⟨by rw[HL.out];rfl,by rw[HL.out];exact HS.out.below (zac _ _).drew,HG.out.trans (am N (zac _ _).drew)⟩
           · (have hcb:(c==0)=false:=by rw[beq_eq_false_iff_ne];exact hc0);(go_enter Tryz.func28,Tryz.ntmps28);(go_wp2_with (go_at_call 27;refine HI.out.mono ?_;rintro e w' ⟨rfl,rfl⟩));(go_region_with (fail));all_goals
              (go_wp2_with fail);(go_ret);exact⟨by rw[HL.out];rfl,by rw[HL.out];exact HS.out.below (zac _ _).drew,HG.out.trans (am N (zac _ _).drew)⟩
end
end Go.Proofs.YtojojpjldkpmoaaGreatDoor
