/-
  
-/
import Derived.Test.YtojojpjldkpmoaaGreatDoorGSrt
import Derived.ProofKit
import Derived.Deep.Slices
import Derived.Maps.AppendAt
import Derived.OwnWalk
set_option linter.unusedVariables false
set_option linter.unusedSimpArgs false
set_option maxHeartbeats 16000000
set_option maxRecDepth 100000
namespace Go.Proofs.YtojojpjldkpmoaaGreatDoor
section
open Go.RowKit Go.ChangeShapes Go.WideShapes Go.ChangeAt Go.Deep
def jA{α:Type}(P:Program)(r:Rep α)(t:TypeId):Prop:=
 P.cellsOf t=r.size/\∀(H:Type) (enc:TypeId × Value->H) (W:World) (fuel:Nat) (cs:List Value) (x:DataW H × List MemPlace),
  DataW.trod enc P W 0 (fun _=>true) true fuel t cs=some x->∃a,r.holds W (fun k=>k<W.heap.size) cs a
def aI:Rep Int:=dw 1 (fun n=>[.int .i64 n]) inR (fun _=>rfl) (fun x u h=>by simp at h;subst h;rfl)
def bs:Rep ByteArray:=dw 1 (fun s=>[.string s]) (fun s=>s.size<=maxLen) (fun _=>rfl) (fun x u h=>by simp at h;subst h;rfl)
def aG:Rep UInt8:=dw 1 (fun c=>[.int .u8 c.toNat]) (fun _=>True) (fun _=>rfl) (fun x u h=>by simp at h;subst h;rfl)
def slR{α:Type}(r:Rep α):Rep (List α):=
 { size:=1,holds:=fun w S cs xs=>∃v,cs=[v]/\SlR r w S v xs,len:=fun⟨v,h,_⟩=>by rw[h];rfl,
   one:=fun⟨v,h,h2⟩ u hu=>by
    obtain⟨A,c,hv,_⟩:=h2;rw[h]at hu;simp at hu;subst hu;rw[hv];rfl
   keep:=fun⟨v,h1,h2⟩ h3 h4=>⟨v,h1,h2.keep h3 h4⟩}
theorem fu{P:Program}{t:TypeId}(ht:P.underlying t=some (.int .i64))(hc:P.cellsOf t=1):jA P aI t:=
 ⟨hc,fun H enc W fuel cs x h=>by
  obtain⟨n,rfl,_,hw⟩:=DataW.trod_int ht h;have hx: -9223372036854775808<=n/\n<=9223372036854775807:=by simpa [Lit.wf,IntKind.min,IntKind.max,IntKind.signed,IntKind.bits]using hw
  exact⟨n,rfl,hx⟩⟩
theorem qE{P:Program}{t:TypeId}(ht:P.underlying t=some .string)(hc:P.cellsOf t=1):jA P bs t:=
 ⟨hc,fun H enc W fuel cs x h=>by
  obtain⟨s,rfl,_,hw⟩:=DataW.trod_string ht h
  exact⟨s,rfl,hw⟩⟩
theorem CH{w:World}{a:Addr}{n:Nat}{v:Value}(h:w.cell? (a.add n)=some v)(hn:n=0):a=⟨a.block,a.off,none⟩:=by
 subst hn;have h':w.cell? a=some v:=by simpa [Addr.add]using h
 cases a with
 | mk b o s=>
   cases s with
   | none=>rfl
   | some s=>
     simp only[World.cell?]at h';split at h'<;>simp at h'
theorem tR{α:Type}{P:Program}{r:Rep α}{t e:TypeId}(ht:P.underlying t=some (.slice e))(hc:P.cellsOf t=1)(hs:0<r.size)(h:jA P r e):jA P (slR r) t:=
 ⟨hc,fun H enc W fuel cs x hx=>by
  rcases open_slice ht hx with⟨rfl,_⟩|⟨a,len,cap,m,n,D,Pl,rfl,_,hl,hm,hmm,_,hi⟩
  · exact⟨[],_,rfl,none,0,rfl,zab _,zap _,fun i x hx=>by simp at hx⟩
  · (have hmc:m=cap:=by simpa using hmm);subst hmc;have hi':∀i,i<len->∃x:α,∃cs',r.holds W (fun k=>k<W.heap.size) cs' x/\cs'.length=r.size/\∀j,j<r.size->W.cell? ((a.add (i*r.size)).add j)=cs'[j]? :=by
     intro i him;obtain⟨cs',h1,h2⟩:=hi i (by omega);rw[h.1]at h1;obtain⟨_,h3,h4⟩:=World.cells?_some h1;obtain⟨x,hx⟩:=h.2 H enc W n cs' _ h2;exact⟨x,cs',hx,h3,h4⟩
    rcases zaG len with h0|h0
    · subst h0;exact⟨[],_,rfl,some a,m,rfl,by simp,hm,fun i x hx=>by simp at hx⟩
    · have hsp:a=⟨a.block,a.off,none⟩:=by
       obtain⟨x,cs',_,h3,h4⟩:=hi' 0 h0;have h5:=h4 0 hs;rw[Nat.zero_mul,add_add,zad (by omega)]at h5;exact CH h5 rfl
      obtain⟨x0,_⟩:=hi' 0 h0
      haveI:Inhabited α:=⟨x0⟩
      obtain⟨V,hV⟩:=choose_lt hi';refine⟨(List.range len).map V,_,rfl,some a,m,by simp,by simpa using hl,hm,fun i x hx=> ?_⟩;have hil:i<len:=by
       have:=(zaT.1 hx).1;simpa using this
      (have hxe:V i=x:=by simpa [hil]using hx);subst hxe;obtain⟨cs',hh,hlen,hcell⟩:=hV i hil;have hco:∀j u,cs'[j]? =some u->W.cell? ⟨a.block,a.off+i*r.size+j,none⟩=some u:=by
       intro j u hu;(have hj:j<r.size:=by rw[<-hlen];exact(zaT.1 hu).1);have h5:=hcell j hj;rw[add_add,hsp,hu]at h5;rw[<-h5];congr 1;unfold Addr.add;split
       · rename_i hz;simp[show i*r.size=0 by omega,show j=0 by omega]
       · simp[Nat.add_assoc]
      have h6:=hco 0 (cs'[0]'(by omega)) (zad (by omega));have h7:=zbj W ⟨a.block,a.off+i*r.size+0,none⟩ h6
      exact⟨a.block,a.off,cs',by rw[<-hsp],h7,h7,hh,hco⟩⟩
theorem zk{α:Type}{P:Program}{r:Rep α}{t:TypeId}(h:jA P r t){H:Type}{enc:TypeId × Value->H}{W:World}{v:Value}{d:DataW H}{p:List MemPlace}
  (hr:DataW.Trod enc P W 0 (fun _=>true) true t v d p):∃x,r.holds W (fun k=>k<W.heap.size) v.cells.toList x:=by
 obtain⟨fuel,hf⟩:=hr;exact h.2 H enc W fuel _ _ hf
theorem Dl{α:Type}{P:Program}{r:Rep α}{t e:TypeId}(ht:P.underlying t=some (.slice e))(h:jA P (slR r) t){H:Type}{enc:TypeId × Value->H}{W:World}{b:Nat}{q:Reach}{v:Value}{d:DataW H}{p:List MemPlace}
  (hv:Value.okWide P W q b t v) (hr:DataW.Trod enc P W 0 (fun _=>true) true t v d p):∃xs,Sl r W v xs:=by
 obtain⟨a,len,cap,rfl⟩:=okWide_slice ht hv;obtain⟨xs,v',hv',hs⟩:=zk h hr;have:Value.slice a len cap=v':=by simpa [Value.cells]using hv'
 subst this;exact⟨xs,hs⟩
theorem mr{P:Program}{t:TypeId}{fs:Array Field}(ht:P.underlying t=some (.struct fs)){H:Type}{enc:TypeId × Value->H}{W:World}{fuel:Nat}{cs:List Value}{x:DataW H × List MemPlace}
  (h:DataW.trod enc P W 0 (fun _=>true) true fuel t cs=some x):
  cs.length=P.cellsOf t/\∀(α:Type) (r:Rep α) (i:Nat) (f:Field),fs[i]? =some f->jA P r f.type->∃a,r.holds W (fun k=>k<W.heap.size) ((cs.drop f.offset).take r.size) a:=by
 obtain⟨xs,n,_,_,hlen,hxs,hf⟩:=DataW.trod_struct ht h;refine⟨hlen,fun α r i f hi ho=> ?_⟩;have h1:=hf i f hi;rw[ho.1]at h1;have hil:i<xs.length:=by rw[hxs];exact(Array.getElem?_eq_some_iff.1 hi).1
 rw[zad hil]at h1;exact ho.2 H enc W n _ _ h1
section
variable {H:Type} {enc:TypeId × Value->H} {P:Program}
theorem wc{f:Func}{s:ChangeSpec}{apart fresh handsOn again:Bool}{W W':World}{args:Array Value}{v:Value}{ds gs:List (DataW H)}{before pa pv:List MemPlace}
  (hW:DataW.Whole enc P f.params.toList s.vars apart W args.toList ds gs before)
  (hres:∀(b:Nat) (sp:Nat->Bool) (hd:Bool),DataW.TrodAll enc P W' b sp hd f.resultTypes.toList (v.resultList f.resultTypes.size) (s.fn H (ds++gs)).results [])
  (hargs:∀sp:Nat->Bool,(∀p∈before,sp p.block=true)->DataW.TrodAll enc P W' 0 sp true f.params.toList args.toList (s.fn H (ds++gs)).args pa)
  (hvars:∀sp:Nat->Bool,(∀p∈before,sp p.block=true)->DataW.TrodVars enc P W' sp s.vars (s.fn H (ds++gs)).vars pv)
  (hps:before=pa++pv) (hb:Below W.heap.size W W')
  (hok:∀(j:Nat) (t:TypeId) (r:Value),f.resultTypes[j]? =some t->(v.resultList f.resultTypes.size)[j]? =some r->Value.okWide P W' .any 0 t r):
  s.post enc P f apart fresh handsOn again W args v W':=by
 have hlt:∀p∈before,p.block<W.heap.size:=fun p hp=>hW.lt p hp;have hold:∀p∈before,(fun b=>decide (b<W.heap.size)) p.block=true:=fun p hp=>by simpa using hlt p hp
 refine⟨ds,gs,before,[],pa,pv,hW,hres _ _ _,hargs _ hold,hvars _ hold,World.keptBut_mono (fun p hp=>⟨hp,?_⟩) (hb.frame (·∈before)),fun _=> ?_⟩
 · rw[hps,zbd]at hp;exact Or.inr hp
 · obtain⟨_,_,_,_,_,hz,hn⟩:=hW;refine⟨hok,_,_,([]++pa)++pv,⟨[]++pa,pv,trodAll_append (hargs _ (fun _ _=>rfl)) (hres _ _ _),hvars _ (fun _ _=>rfl),rfl,?_,?_⟩,?_⟩
   · intro b off hp;(have hin:MemPlace.cell b off∈before:=by rw[hps];simpa using hp);rw[hb.frozen (hlt _ hin)];exact hz b off hin
   · intro ha;have:=hn ha;rw[hps]at this;simpa using this
   · intro p hp _;rw[hps];simpa using hp
theorem j4{W W':World}(hl:laidOutB P=true)(hb:Below W.heap.size W W'):∀{ts:List TypeId} {vs:List Value} {ds:List (DataW H)} {ps:List MemPlace},
  (∀t∈ts,P.readableRec t=true/\t<P.types.size)->DataW.TrodAll enc P W 0 (fun _=>true) true ts vs ds ps->(∀x∈ps,x.block<W.heap.size)->
  ∀sp:Nat->Bool,(∀p∈ps,sp p.block=true)->DataW.TrodAll enc P W' 0 sp true ts vs ds ps
 | [],[],[],ps,_,h,_,_,_=>h
 | t::ts,v::vs,d::ds,ps,ht,⟨p,q,h1,h2,hp⟩,hlt,sp,hsp=>by
   subst hp;obtain⟨hr,hrow⟩:=ht t (by simp);exact⟨p,q,WideElems.Trod_stays hl hr hrow h1 (fun x hx=>hb.same (hlt x (by simp[hx]))) (fun x hx=>hsp x (by simp[hx])),
    j4 hl hb (fun t ht'=>ht t (by simp[ht'])) h2 (fun x hx=>hlt x (by simp[hx])) sp (fun x hx=>hsp x (by simp[hx])),rfl⟩
 | [],_::_,_,_,_,h,_,_,_=>h.elim
 | [],[],_::_,_,_,h,_,_,_=>h.elim
 | _::_,[],_,_,_,h,_,_,_=>h.elim
 | _::_,_::_,[],_,_,h,_,_,_=>h.elim
theorem own:ownKnob Tryz.prog.godebug=none:=by kernel_rfl
theorem Dp:laidOutB Tryz.prog=true:=by kernel_rfl
theorem BO{f:Func}{s:ChangeSpec}{W W':World}{args:Array Value}{ds gs:List (DataW H)}{before:List MemPlace}{T:TypeId}
  (hW:DataW.Whole enc P f.params.toList s.vars false W args.toList ds gs before) (hl:laidOutB P=true) (hts:∀t∈f.params.toList,P.readableRec t=true/\t<P.types.size)
  (hv:s.vars=[]) (hrt:f.resultTypes= #[T]) (hT:P.underlying T=some .bool)
  (hres:(s.fn H (ds++gs)).results=[.lit (.bool true)]) (hargs:(s.fn H (ds++gs)).args=ds) (hvs:(s.fn H (ds++gs)).vars=[]) (hb:Below W.heap.size W W'):
  s.post enc P f false true false false W args (.bool true) W':=by
 have hW':=hW;obtain⟨p,q,hA,hV,hpq,_,_⟩:=hW';rw[hv]at hV;have hq:q=[]:=by
  cases gs with
  | nil=>exact hV
  | cons _ _=>exact hV.elim
 subst hq;have hlt:∀x∈before,x.block<W.heap.size:=fun x hx=>hW.lt x hx;rw[zbM]at hpq;subst hpq;refine wc (pa:=before) (pv:=[]) hW ?_ ?_ ?_ (by simp) hb ?_
 · intro b sp hd;rw[hres,hrt];exact trodAll_mk1 (shut_bool hT true)
 · intro sp hsp;rw[hargs];exact j4 hl hb hts hA hlt sp hsp
 · intro sp _;rw[hvs,hv];rfl
 · intro j t r h1 h2;rw[hrt]at h1 h2
   match j,h1,h2 with
   | 0,h1,h2=>
     (have e1:T=t:=by simpa using h1);(have e2:Value.bool true=r:=by simpa [Value.resultList]using h2);subst e1 e2;exact okWide_bool_mk hT true
   | j+1,h1,_=>simp at h1
end
end
section
open Go.RowKit Go.Deep
structure Elt(P:Program)(T E:TypeId)(size bytes:Nat):Prop where
 ht:P.underlying T=some (.slice E)
 info:∃i z,P.info? E=some i/\i.zero=some z/\i.size=size/\i.bytes=bytes/\z.cells.size=size
 pos:0<size
theorem uu{α:Type}{size:Nat}:∀{css:List (List α)},(∀cs∈css,cs.length=size)->∀(p:Nat) (u:α),css.flatten[p]? =some u->∃i j cs,css[i]? =some cs/\cs[j]? =some u/\p=i*size+j
 | [],_,p,u,h=>by simp at h
 | c0::css,hl,p,u,h=>by
   have h0:=hl c0 (by simp);rw[zaU]at h;by_cases hp:p<c0.length
   · rw[zbi hp]at h;exact⟨0,p,c0,rfl,h,by omega⟩
   · rw[zba (by omega)]at h;obtain⟨i,j,cs,h1,h2,h3⟩:=uu (css:=css) (fun cs hc=>hl cs (by simp[hc])) _ u h;exact⟨i+1,j,cs,by simpa using h1,h2,by rw[zco];omega⟩
theorem SlR.rows{α:Type}{r:Rep α}{w:World}{S:Nat->Prop}{A:Option Addr}{n c:Nat}{xs:List α}(h:SlR r w S (.slice A n c) xs):
  ∃css:List (List Value),css.length=xs.length/\(∀(i:Nat) (cs:List Value) (x:α),css[i]? =some cs->xs[i]? =some x->r.holds w S cs x)/\
   (0<xs.length->∃b off,A=some ⟨b,off,none⟩/\S b/\b<w.heap.size/\iW w b off css.flatten):=by
 obtain⟨A',c',hv,_,_,h3⟩:=h;injection hv with e1 e2 e3;subst e1;have h4:∀i,i<xs.length->∃cs:List Value,∀x,xs[i]? =some x->∃b off,A=some ⟨b,off,none⟩/\S b/\b<w.heap.size/\r.holds w S cs x/\iW w b (off+i*r.size) cs:=by
  intro i hi;obtain⟨b,off,cs,h⟩:=h3 i xs[i] (zad hi);refine⟨cs,fun x hx=>⟨b,off,?_⟩⟩;rw[zad hi]at hx;injection hx with hx;subst hx;exact h
 obtain⟨V,hV⟩:=choose_lt h4;have hget:∀(i:Nat) (cs:List Value),((List.range xs.length).map V)[i]? =some cs->i<xs.length/\V i=cs:=by
  intro i cs hc;have hi:i<xs.length:=by
   have:=(zaT.1 hc).1;simpa using this
  exact⟨hi,by simpa [hi]using hc⟩
 have hhold:∀(i:Nat) (cs:List Value) (x:α),((List.range xs.length).map V)[i]? =some cs->xs[i]? =some x->r.holds w S cs x:=by
  intro i cs x hc hx;obtain⟨hi,rfl⟩:=hget i cs hc;obtain⟨_,_,_,_,_,hh,_⟩:=hV i hi x hx;exact hh
 refine⟨(List.range xs.length).map V,by simp,hhold,fun hpos=> ?_⟩;obtain⟨b,off,rfl,hS,hb,_,_⟩:=hV 0 hpos xs[0] (zad hpos);refine⟨b,off,rfl,hS,hb,fun p u hu=> ?_⟩;obtain⟨hl,_⟩:=OwR.lens (by simp) hhold;obtain⟨i,j,cs,h1,h2,rfl⟩:=uu hl p u hu;obtain⟨hi,rfl⟩:=hget i cs h1;obtain⟨b',off',hA,_,_,_,hc⟩:=hV i hi xs[i] (zad hi);injection hA with hA;injection hA with g1 g2;subst g1 g2;rw[<-Nat.add_assoc];exact hc j u h2
theorem bH{α:Type}{P:Program}{r:Rep α}{T E ty:TypeId}{bytes base:Nat}(el:Elt P T E r.size bytes){w:World}{v vx:Value}{xs ys:List α}{S:Nat->Prop}
  (hown:OwR r E base w v xs) (hsrc:SlR r w S vx ys) (hS:∀(cs:List Value) (y:α),r.holds w S cs y->r.holds w (fun k=>k<w.heap.size/\v.ownBlock≠some k) cs y) (h63:xs.length+ys.length<=maxLen) (hbytes:(xs.length+ys.length)*bytes<=140737488355328):
  ∃v' w',(Builtin.append_ #[T,T] ty #[v,vx]).run P w= .ok v' w'/\OwR r E base w' v' (xs++ys)/\w.grownBy w' v.ownBlock/\(v'.ownBlock=v.ownBlock∨v'.ownBlock=some w.heap.size):=by
 obtain⟨css,h1,h2,h3,h4⟩:=hown;have hsrc':=hsrc;obtain⟨A,c,rfl,_⟩:=hsrc';obtain⟨css',g1,g2,g3⟩:=hsrc.rows;obtain⟨hl,_⟩:=OwR.lens h1 h2;obtain⟨hl',ho'⟩:=OwR.lens g1 g2;obtain⟨i,z,q1,q2,q3,q4,q5⟩:=el.info;have fin:∀v' w',w'.ownsRow base E r.size v' (xs.length+ys.length) (css.flatten++css'.flatten)->w.grownBy w' v.ownBlock->(v'.ownBlock=v.ownBlock∨v'.ownBlock=some w.heap.size)->OwR r E base w' v' (xs++ys):=by
  intro v' w' o1 o2 o3;have hblk:∀k,(k<w.heap.size/\v.ownBlock≠some k)->w'.heap[k]? =w.heap[k]? :=fun k hk=>o2.block k hk.1 (fun e=>hk.2 e.symm);have hsub:∀k,(k<w.heap.size/\v.ownBlock≠some k)->(k<w'.heap.size/\v'.ownBlock≠some k):=by
   intro k hk;refine⟨zas hk.1 o2.size,fun e=> ?_⟩;rcases o3 with o3|o3
   · exact hk.2 (o3▸e)
   · rw[o3]at e;injection e with e;omega
  refine⟨css++css',by simp[h1,g1],?_,by rw[zck,zaq];exact o1,zax h4 o2.size⟩;intro i cs x hc hx;by_cases hi:i<css.length
  · rw[zbi hi]at hc;rw[zbi (by omega)]at hx;exact r.keep (h2 i cs x hc hx) hblk hsub
  · rw[zba (by omega)]at hc;rw[zba (by omega),<-h1]at hx;exact r.keep (hS cs x (g2 _ cs x hc hx)) hblk hsub
 rcases A with _|ad
 · have hy:ys=[]:=by
    rcases zaG ys.length with h0|h0
    · exact zaH h0
    · obtain⟨_,_,h,_⟩:=g3 h0;cases h
   subst hy;have hc':css'=[]:=zaH (by simpa using g1);subst hc';have hrun:(Builtin.append_ #[T,T] ty #[v,.slice none 0 c]).run P w= .ok v w:=by
    rcases h3.2 with⟨rfl,_⟩|⟨g,cap,cur,rfl,_,_,hnc,_⟩
    · simp[Builtin.append_,run_underlying el.ht,sizeOf,typeInfo,q1,Builtin.lenOf,Builtin.firstCells]
    · simp[Builtin.append_,run_underlying el.ht,sizeOf,typeInfo,q1,Builtin.lenOf,Builtin.firstCells,hnc,storeCells]
   exact⟨v,w,hrun,fin v w (by simpa using h3) (by exact⟨rfl,rfl,rfl,zab _,fun _ _ _=>rfl⟩) (.inl rfl),⟨rfl,rfl,rfl,zab _,fun _ _ _=>rfl⟩,.inl rfl⟩
 · have hcells:∀j u,css'.flatten[j]? =some u->w.cell? (ad.add j)=some u:=by
    intro j u hu;rcases zaG ys.length with h0|h0
    · have hc':css'=[]:=zaH (by omega);subst hc';simp at hu
    · obtain⟨b,off,hA,_,_,hc⟩:=g3 h0;injection hA with hA;subst hA;have:=hc j u hu;(have e:((⟨b,off,none⟩:Addr).add j)=⟨b,off+j,none⟩:=by unfold Addr.add;split<;>simp_all);rw[e];exact this
   obtain⟨v',w',hrun,o1,o2,_,o3⟩:=run_append_own_at (P:=P) w base T ty E i z r.size bytes el.ht q1 q2 q3 q4 q5 el.pos v xs.length css.flatten h3 ad ys.length c css'.flatten
    (by rw[ut hl',g1]) hcells ho' h63 hbytes h4
   exact⟨v',w',hrun,fin v' w' o1 o2 o3,o2,o3⟩
theorem bD{α:Type}{P:Program}{r:Rep α}{T E:TypeId}{bytes base:Nat}{ops:Array Oper}{rest:List Oper}{o:Oper}{a:Act}{Q:Exit->Act->World->Prop}{w:World}(hgd:o.guard=none)(s x:Operand)
  (ho:o.op= .call {callee:= .builtin .append,args:= #[s,x],argTypes:= #[T,T]}) (el:Elt P T E r.size bytes) {v vx:Value} {xs ys:List α} {S:Nat->Prop}
  (hown:OwR r E base w v xs) (hsrc:SlR r w S vx ys) (hs:a.eval s=v) (hx:a.eval x=vx) (hS:∀(cs:List Value) (y:α),r.holds w S cs y->r.holds w (fun k=>k<w.heap.size/\v.ownBlock≠some k) cs y) (h63:xs.length+ys.length<=maxLen) (hbytes:(xs.length+ys.length)*bytes<=140737488355328)
  (h:∀v' w',OwR r E base w' v' (xs++ys)->w.grownBy w' v.ownBlock->(v'.ownBlock=v.ownBlock∨v'.ownBlock=some w.heap.size)->wpList P ops Q rest (a.put o.dst v') w'):wpList P ops Q (o::rest) a w:=
 wpList_plain hgd fun _ hK=>by
  obtain⟨v',w',hrun,h2,h3,h4⟩:=bH (ty:=o.type) el hown hsrc hS h63 hbytes;unfold Oper.wp execOp;simp only[ho,resolve,invoke,builtin,zbK,zbJ,Result.andThen_ok,zbn,zbc,zbB,hs,hx,hrun];exact hK _ _ (h v' w' h2 h3 h4)
theorem SlR.one_new{α:Type}{r:Rep α}{w:World}{cs:List Value}{x:α}{E:TypeId}(hh:r.holds w (fun k=>k<w.heap.size) cs x):
  SlR r (w.alloc (.cells cs.toArray E)) (fun k=>k<w.heap.size+1) (.slice (some ⟨w.heap.size,0,none⟩) 1 1) [x]:=by
 refine⟨some ⟨w.heap.size,0,none⟩,1,rfl,by simp,by decide,fun i y hy=> ?_⟩
 match i,hy with
 | 0,hy=>
   simp at hy;subst hy;refine⟨w.heap.size,0,cs,rfl,by show _<_;omega,by simp,r.keep hh (fun k hk=>zbf _ _ _ hk) (fun k hk=>by show _<_;omega),fun j u hu=> ?_⟩;rw[zah _ _ _ _ rfl];simpa using hu
 | i+1,hy=>simp at hy
theorem OwR.base_le{α:Type}{r:Rep α}{E base:Nat}{w:World}{v:Value}{xs:List α}(h:OwR r E base w v xs):∀k,v.ownBlock=some k->base<=k/\k<w.heap.size:=by
 obtain⟨css,_,_,h3,_⟩:=h;exact h3.lt
theorem OwR.kept{α:Type}{r:Rep α}{E base:Nat}{w w':World}{v:Value}{xs:List α}{row:Option Nat}(h:OwR r E base w v xs)(hg:w.grownBy w' row)(hne:v.ownBlock=none∨v.ownBlock≠row)
  (hin:∀(cs:List Value) (y:α),r.holds w (fun k=>k<w.heap.size/\v.ownBlock≠some k) cs y->r.holds w (fun k=>(k<w.heap.size/\v.ownBlock≠some k)/\some k≠row) cs y:=by exact fun _ _ h=>h):OwR r E base w' v xs:=by
 obtain⟨css,h1,h2,h3,h4⟩:=h;exact⟨css,h1,fun i cs x hc hx=>r.keep (hin cs x (h2 i cs x hc hx)) (fun k hk=>hg.block k hk.1.1 hk.2) (fun k hk=>⟨zas hk.1.1 hg.size,hk.1.2⟩),h3.kept hg hne,zax h4 hg.size⟩
theorem OwR.below_grown{α:Type}{r:Rep α}{E base:Nat}{a w w':World}{v:Value}{xs:List α}(h:OwR r E base w v xs)(hb:Below base a w)(hg:w.grownBy w' v.ownBlock):Below base a w':=
 hb.grown hg h.choose_spec.2.2.2 (fun k hk=>(h.base_le k hk).1)
theorem eL{α β:Type}(f:α->β):∀xs:List α,(xs.map fun x=>[f x]).flatten=xs.map f
 | []=>rfl
 | a::l=>by simp[eL f l]
theorem OwR.lit1{α:Type}{r:Rep α}{E base:Nat}{w:World}{f:α->Value}{xs:List α}(h1:r.size=1)(hh:∀x∈xs,∀S,r.holds (w.alloc (.cells (xs.map f).toArray E)) S [f x] x)(hb:base<=w.heap.size)(hn:xs.length<=maxLen):
  OwR r E base (w.alloc (.cells (xs.map f).toArray E)) (.slice (some ⟨w.heap.size,0,none⟩) xs.length xs.length) xs:=by
 refine⟨xs.map fun x=>[f x],by simp,?_,?_,by simp;omega⟩
 · intro i cs x hc hx;(have:cs=[f x]:=by simp[zbN,hx]at hc;exact hc.symm);subst this;exact hh x (List.mem_of_getElem? hx) _
 · rw[eL,h1];exact⟨by simp,.inr ⟨w.heap.size,xs.length,(xs.map f).toArray,rfl,hb,heap_alloc_new w _,zab _,hn,by simp,by simp[zaO]⟩⟩
theorem Sl.int{w:World}{b off c n:Nat}{xs:List Int}(h:Sl aI w (.slice (some ⟨b,off,none⟩) n c) xs){k:Nat}(hk:k<xs.length):w.cell? ⟨b,off+k,none⟩=some (.int .i64 xs[k])/\inR xs[k]:=by
 obtain⟨cs,⟨rfl,hw⟩,hc⟩:=h.cell hk;refine⟨?_,hw⟩;have:=hc 0 _ rfl;simpa [aI,dw]using this
theorem fD:Elt Tryz.prog 54 3 1 8:=⟨Tryz.underlying54,by
 have h:(Tryz.prog.info? 3).map (fun i=>(i.zero,i.size,i.bytes))=some (some (.int .i64 0),1,8):=by kernel_rfl
 obtain⟨i,h1,h2,h3,h4⟩:=info_parts h
 exact⟨i,_,h1,h2,h3,h4,rfl⟩,by decide⟩
end
end Go.Proofs.YtojojpjldkpmoaaGreatDoor
