/-
  
-/
import Derived.Test.YtojojpjldkpmoaaGreatDoorGOwn
import Derived.Laws.IdiomStrings
import Derived.Laws.BytesArg
import Derived.Test.YtojojpjldkpmoaaGreatDoorGSrt
import Derived.Lib.AppendStr
import Derived.Deep.RegionHeld3
import Derived.Test.YtojojpjldkpmoaaGreatDoorGGrB
import Derived.Test.YtojojpjldkpmoaaGreatDoorGDoW
import Derived.Lib.QuietBelow
set_option linter.unusedVariables false
set_option linter.unusedSimpArgs false
set_option maxHeartbeats 16000000
set_option maxRecDepth 100000
namespace Go.Proofs.YtojojpjldkpmoaaGreatDoor
section
open Go.RowKit Go.ChangeShapes Go.WideShapes Go.ChangeAt
theorem jy{w:World}{v:Value}{xs:List UInt8}(h:Sl aG w v xs):(convert 106 9 v).run Tryz.prog w= .ok (.string ⟨xs.toArray⟩) w:=by
 obtain⟨A,c,rfl⟩:=h.form;rcases A with _|ad
 · have hx:xs=[]:=by
    rcases zaG xs.length with h0|h0
    · exact zaH h0
    · obtain⟨_,_,h,_⟩:=h.at_ h0;cases h
   subst hx;exact run_convert_bytes_nil w 106 5 Tryz.underlying106 Tryz.underlying5 0 c _ Tryz.underlying9
 · refine run_convert_bytes_back w 106 9 5 ad c xs Tryz.underlying106 Tryz.underlying5 Tryz.underlying9 fun j hj=> ?_;obtain⟨b,off,hA,_⟩:=h.at_ hj;injection hA with hA;subst hA;obtain⟨cs,⟨rfl,_⟩,hc⟩:=h.cell hj;have h1:=hc 0 _ rfl;have e:((⟨b,off,none⟩:Addr).add j)=⟨b,off+j*aG.size+0,none⟩:=by
    unfold Addr.add;split
    · rename_i hz;simp[hz]
    · simp[aG,dw]
   rw[e];exact h1
end
section
open Go.RowKit Go.Deep
def fP(c:UInt8):Value:= .int .u8 c.toNat
def b8(n:Int):UInt8:=UInt8.ofNat n.toNat
theorem lI{n:Int}(h0:0<=n)(h1:n<=255):((b8 n).toNat:Int)=n:=by unfold b8;rw[UInt8.toNat_ofNat'];omega
theorem uY{n:Int}(h0:0<=n)(h1:n<=255):fP (b8 n)= .int .u8 n:=by unfold fP;rw[lI h0 h1]
theorem iu:Elt Tryz.prog 106 5 1 1:=⟨Tryz.underlying106,by
 have h:(Tryz.prog.info? 5).map (fun i=>(i.zero,i.size,i.bytes))=some (some (.int .u8 0),1,1):=by kernel_rfl
 obtain⟨i,h1,h2,h3,h4⟩:=info_parts h
 exact⟨i,_,h1,h2,h3,h4,rfl⟩,by decide⟩
theorem OwR.of_bytes{E base:Nat}{w:World}{v:Value}{xs:List UInt8}(h:w.ownsRow base E 1 v xs.length (xs.map fP))(hb:base<=w.heap.size):OwR aG E base w v xs:=by
 refine⟨xs.map fun x=>[fP x],by simp,?_,?_,hb⟩
 · intro i cs x hc hx;(have:cs=[fP x]:=by simp[zbN,hx]at hc;exact hc.symm);subst this;exact⟨rfl,trivial⟩
 · rw[eL];exact h
theorem OwR.to_bytes{E base:Nat}{w:World}{v:Value}{xs:List UInt8}(h:OwR aG E base w v xs):w.ownsRow base E 1 v xs.length (xs.map fP)/\base<=w.heap.size:=by
 obtain⟨css,h1,h2,h3,h4⟩:=h;refine⟨?_,h4⟩;have:css=xs.map fun x=>[fP x]:=by
  refine List.ext_getElem (by simp[h1]) fun i hi hi'=> ?_;have:=h2 i css[i] (xs[i]'(by omega)) (zad hi) (zad (by omega));rw[this.1];simp[fP]
 rw[this,eL]at h3;exact h3
theorem tc(s:ByteArray):Lib.strCells s=s.data.toList.map fP:=rfl
theorem k8{w:World}{E:TypeId}{x:Int}(h0:0<=x)(h1:x<=255):SlR aG (w.alloc (.cells #[.int .u8 x] E)) (fun k=>k<w.heap.size+1) (.slice (some ⟨w.heap.size,0,none⟩) 1 1) [b8 x]:=by
 have:=SlR.one_new (r:=aG) (w:=w) (cs:=[.int .u8 x]) (x:=b8 x) (E:=E) ⟨by show _=[Value.int .u8 ((b8 x).toNat:Int)];rw[lI h0 h1],trivial⟩;exact this
theorem kj{w:World}{E:TypeId}(xs:List Int)(h:∀x∈xs,0<=x/\x<=255)(hl:xs.length<=maxLen):SlR aG (w.alloc (.cells (xs.map (Value.int .u8)).toArray E)) (fun k=>k<w.heap.size+1) (.slice (some ⟨w.heap.size,0,none⟩) xs.length xs.length) (xs.map b8):=by
 refine⟨some ⟨w.heap.size,0,none⟩,xs.length,by simp,by simp,hl,fun i y hy=> ?_⟩;have hi:i<xs.length:=by have:=(zaT.1 hy).1;simpa using this
 have hy':b8 xs[i]=y:=by simpa [hi]using hy
 obtain⟨a0,a1⟩:=h xs[i] (zaw hi);refine⟨w.heap.size,0,[.int .u8 xs[i]],rfl,by show _<_;omega,by simp,⟨by show _=[Value.int .u8 (y.toNat:Int)];rw[<-hy',lI a0 a1],trivial⟩,fun j u hu=> ?_⟩
 match j,hu with
 | 0,hu=>
   simp at hu;subst hu;rw[zah _ _ _ _ rfl];simp[aG,dw,hi]
 | j+1,hu=>simp at hu
structure al(w:World)(v:Value)(w':World)(v':Value):Prop where
 grown:w.grownBy w' v.ownBlock
 own:∀k,v'.ownBlock=some k->v.ownBlock=some k∨w.heap.size<=k
theorem al.refl(w:World)(v:Value):al w v w v:=⟨zaV _ _,fun _ h=> .inl h⟩
theorem al.trans{w w1 w2:World}{v v1 v2:Value}(h:al w v w1 v1)(k:al w1 v1 w2 v2):al w v w2 v2:=by
 refine⟨⟨k.grown.os.trans h.grown.os,k.grown.tape.trans h.grown.tape,k.grown.output.trans h.grown.output,zax h.grown.size k.grown.size,fun i hi hne=> ?_⟩,fun i hi=> ?_⟩
 · rw[k.grown.block i (zas hi h.grown.size) ?_,h.grown.block i hi hne];intro e;rcases h.own i e.symm with e2|e2
   · exact hne e2.symm
   · omega
 · rcases k.own i hi with e|e
   · exact h.own i e
   · exact .inr (zax h.grown.size e)
theorem al.of_below{w w':World}(h:Below w.heap.size w w')(v:Value):al w v w' v:=
 ⟨⟨h.os,h.tape,h.output,h.size,fun i hi _=>h.block i hi⟩,fun _ h=> .inl h⟩
theorem al.below{w w':World}{v v':Value}{base:Nat}(h:al w v w' v')(hb:base<=w.heap.size)(hv:∀k,v.ownBlock=some k->base<=k):Below base w w':=
 ⟨h.grown.os,h.grown.tape,h.grown.output,h.grown.size,fun k hk=>h.grown.block k (by omega) (fun e=>by have:=hv k e.symm;omega)⟩
theorem gz{w:World}{base ty:Nat}{v:Value}{xs:List UInt8}(hown:OwR aG 5 base w v xs)(s:ByteArray)(hb:xs.length+s.size<=140737488355328):
  ∃v' w',(Builtin.append_ #[106,9] ty #[v,.string s]).run Tryz.prog w= .ok v' w'/\OwR aG 5 base w' v' (xs++s.data.toList)/\al w v w' v':=by
 obtain⟨h1,h2⟩:=hown.to_bytes;obtain⟨i,z,q1,q2,q3,q4,q5⟩:=iu.info;have hz:z= .int .u8 0:=by
  have h:(Tryz.prog.info? 5).map (fun i=>i.zero)=some (some (.int .u8 0)):=by kernel_rfl
  rw[q1]at h;simp at h;rw[q2]at h;injection h
 subst hz;have h63:xs.length+s.size<=maxLen:=by unfold maxLen;omega
 obtain⟨v',w',r1,r2,r3,r4⟩:=Lib.run_append_own_string (P:=Tryz.prog) w base 106 9 ty 5 i iu.ht Tryz.underlying9 q1 q2 q3 q4 v xs.length (xs.map fP) h1 s h63 hb h2;have hr2:w'.ownsRow base 5 1 v' (xs++s.data.toList).length ((xs++s.data.toList).map fP):=by
  rw[zbe,zaq,<-tc];have:s.data.toList.length=s.size:=aC s;rw[this];exact r2
 refine⟨v',w',r1,OwR.of_bytes hr2 (zax h2 r3.size),r3,fun k hk=> ?_⟩;have hxl:(xs.map fP).length=xs.length:=by simp
 rcases h1.2 with⟨rfl,hn⟩|⟨g,cap,cur,rfl,hbg,hg,hnc,hcm,hcs,htake⟩
 · by_cases hm:s.size=0
   · rw[r4.2 ⟨rfl,hm⟩]at hk;cases hk
   · have hr:=run_append_nil_string (P:=Tryz.prog) w 106 9 ty 5 i (.int .u8 0) iu.ht Tryz.underlying9 q1 q2 s (by omega) (by unfold maxLen at h63;omega) (by rw[q4];omega);rw[r1]at hr;injection hr with e1 e2;rw[e1]at hk;injection hk with hk;exact .inr (zbG hk)
 · by_cases hroom:xs.length+s.size<=cap
   · (have hcs':cur.size=cap:=by simpa using hcs);have hr:=Lib.run_append_room_string (P:=Tryz.prog) w 106 9 ty 5 i iu.ht Tryz.underlying9 q1 q3 g xs.length cap cur hg s hroom (by omega);rw[r1]at hr;injection hr with e1 e2;rw[e1]at hk;exact .inl hk
   · have hr:=Lib.run_append_grow_string (P:=Tryz.prog) w 106 9 ty 5 i (.int .u8 0) iu.ht Tryz.underlying9 q1 q2 ⟨g,0,none⟩ xs.length cap (xs.map fP) (by rw[q3];simp) (h1.cells (g:=g) rfl) s (by omega) (by unfold maxLen at h63;omega) (by rw[q4];exact growslice_fits (by omega) (by omega));rw[r1]at hr;injection hr with e1 e2;rw[e1]at hk;injection hk with hk;exact .inr (zbG hk)
theorem fJ{w:World}{base ty:Nat}{v vx:Value}{xs ys:List UInt8}{S:Nat->Prop}(hown:OwR aG 5 base w v xs)(hsrc:SlR aG w S vx ys)(hb:xs.length+ys.length<=140737488355328):
  ∃v' w',(Builtin.append_ #[106,106] ty #[v,vx]).run Tryz.prog w= .ok v' w'/\OwR aG 5 base w' v' (xs++ys)/\al w v w' v':=by
 obtain⟨v',w',r1,r2,r3,r4⟩:=bH (ty:=ty) iu hown hsrc (fun _ _ h=>h) (by unfold maxLen;omega) (by omega);refine⟨v',w',r1,r2,r3,fun k hk=> ?_⟩;rcases r4 with e|e
 · exact .inl (e▸hk)
 · rw[e]at hk;injection hk with hk;exact .inr (by omega)
theorem dx{ops:Array Oper}{rest:List Oper}{o:Oper}{a:Act}{Q:Exit->Act->World->Prop}{w:World}{base:Nat}(hgd:o.guard=none)(s x:Operand)
  (ho:o.op= .call {callee:= .builtin .append,args:= #[s,x],argTypes:= #[106,106]}) {v vx:Value} {xs ys:List UInt8} {S:Nat->Prop}
  (hown:OwR aG 5 base w v xs) (hsrc:SlR aG w S vx ys) (hs:a.eval s=v) (hx:a.eval x=vx) (hb:xs.length+ys.length<=140737488355328)
  (h:∀v' w',OwR aG 5 base w' v' (xs++ys)->al w v w' v'->wpList Tryz.prog ops Q rest (a.put o.dst v') w'):wpList Tryz.prog ops Q (o::rest) a w:=
 wpList_plain hgd fun _ hK=>by
  obtain⟨v',w',hrun,h2,h3⟩:=fJ (ty:=o.type) hown hsrc hb;unfold Oper.wp execOp;simp only[ho,resolve,invoke,builtin,zbK,zbJ,Result.andThen_ok,zbn,zbc,zbB,hs,hx,hrun];exact hK _ _ (h v' w' h2 h3)
theorem kh{ops:Array Oper}{rest:List Oper}{o:Oper}{a:Act}{Q:Exit->Act->World->Prop}{w:World}{base:Nat}(hgd:o.guard=none)(s x:Operand)
  (ho:o.op= .call {callee:= .builtin .append,args:= #[s,x],argTypes:= #[106,9]}) {v:Value} {xs:List UInt8} {t:ByteArray}
  (hown:OwR aG 5 base w v xs) (hs:a.eval s=v) (hx:a.eval x= .string t) (hb:xs.length+t.size<=140737488355328)
  (h:∀v' w',OwR aG 5 base w' v' (xs++t.data.toList)->al w v w' v'->wpList Tryz.prog ops Q rest (a.put o.dst v') w'):wpList Tryz.prog ops Q (o::rest) a w:=
 wpList_plain hgd fun _ hK=>by
  obtain⟨v',w',hrun,h2,h3⟩:=gz (ty:=o.type) hown t hb;unfold Oper.wp execOp;simp only[ho,resolve,invoke,builtin,zbK,zbJ,Result.andThen_ok,zbn,zbc,zbB,hs,hx,hrun];exact hK _ _ (h v' w' h2 h3)
theorem iD{ops:Array Oper}{o:Oper}{a:Act}{K:Act->World->Prop}{Q:Exit->Act->World->Prop}{E:Prop}{w:World}{base:Nat}(hgd:o.guard=none)(s x:Operand)
  (ho:o.op= .call {callee:= .builtin .append,args:= #[s,x],argTypes:= #[106,106]}) {v vx:Value} {xs ys:List UInt8} {S:Nat->Prop}
  (hown:OwR aG 5 base w v xs) (hsrc:SlR aG w S vx ys) (hs:a.eval s=v) (hx:a.eval x=vx) (hb:xs.length+ys.length<=140737488355328)
  (h:∀v' w',OwR aG 5 base w' v' (xs++ys)->al w v w' v'->K (a.put o.dst v') w'):if Region.wanted o (yielded ops a.tmps)=true then Oper.wp Tryz.prog o a w K Q else E:=by
 have hw:Region.wanted o (yielded ops a.tmps)=true:=by simp[Region.wanted,hgd]
 rw[if_pos hw];obtain⟨v',w',hrun,h2,h3⟩:=fJ (ty:=o.type) hown hsrc hb;unfold Oper.wp execOp;simp only[ho,resolve,invoke,builtin,zbK,zbJ,Result.andThen_ok,zbn,zbc,zbB,hs,hx,hrun];exact h v' w' h2 h3
theorem AS{ops:Array Oper}{o:Oper}{a:Act}{K:Act->World->Prop}{Q:Exit->Act->World->Prop}{E:Prop}{w:World}{base:Nat}(hgd:o.guard=none)(s x:Operand)
  (ho:o.op= .call {callee:= .builtin .append,args:= #[s,x],argTypes:= #[106,9]}) {v:Value} {xs:List UInt8} {t:ByteArray}
  (hown:OwR aG 5 base w v xs) (hs:a.eval s=v) (hx:a.eval x= .string t) (hb:xs.length+t.size<=140737488355328)
  (h:∀v' w',OwR aG 5 base w' v' (xs++t.data.toList)->al w v w' v'->K (a.put o.dst v') w'):if Region.wanted o (yielded ops a.tmps)=true then Oper.wp Tryz.prog o a w K Q else E:=by
 have hw:Region.wanted o (yielded ops a.tmps)=true:=by simp[Region.wanted,hgd]
 rw[if_pos hw];obtain⟨v',w',hrun,h2,h3⟩:=gz (ty:=o.type) hown t hb;unfold Oper.wp execOp;simp only[ho,resolve,invoke,builtin,zbK,zbJ,Result.andThen_ok,zbn,zbc,zbB,hs,hx,hrun];exact h v' w' h2 h3
def sev(n:Nat):List UInt8:=if n<128 then [b8 n]else b8 (128+n%128:Nat)::sev (n/128)
termination_by n
decreasing_by omega
theorem hU{n:Nat}(h:n<128):sev n=[b8 n]:=by rw[sev,if_pos h]
theorem m8{n:Nat}(h:¬ n<128):sev n=b8 (128+n%128:Nat)::sev (n/128):=by rw[sev,if_neg h]
theorem kS(n d:Nat)(h:n<128^(d+1)):(sev n).length<=d+1:=by
 induction d generalizing n with
 | zero=>rw[hU (by omega)];simp
 | succ d ih=>
   by_cases hs:n<128
   · rw[hU hs];simp
   · rw[m8 hs,zaD];have:=ih (n/128) (by rw[Nat.div_lt_iff_lt_mul (by omega)];rwa[Nat.pow_succ]at h);omega
def mm(e:ab):List UInt8:=b8 e.key.size::(e.key.data.toList++(sev e.version.toNat++(b8 e.origin::b8 e.value.size::e.value.data.toList)))
theorem Cd{e:ab}(h:bj e=true):(mm e).length<=138:=by
 unfold bj eu at h;simp only[Bool.and_eq_true,decide_eq_true_eq]at h;obtain⟨⟨⟨⟨⟨⟨⟨h1,h2⟩,h3⟩,h4⟩,h5⟩,h6⟩,h7⟩,h8⟩:=h;have h9:=kS e.version.toNat 6 (by omega);have e1:e.key.data.toList.length=e.key.size:=aC _;have e2:e.value.data.toList.length=e.value.size:=aC _;unfold mm;simp only[zaD,zaq,e1,e2];omega
def lv(l:List ab):List UInt8:=116::b8 l.length::(l.map mm).flatten
def eG(l:List UInt8):Int × Int:=l.foldl (fun p c=>let x:=(p.1+c.toNat)%65521;(x,(p.2+x)%65521)) (1,0)
def et(l:List UInt8):List UInt8:=[b8 ((eG l).2/256),b8 ((eG l).2%256),b8 ((eG l).1/256),b8 ((eG l).1%256)]
def j1(l:List ab):List UInt8:=lv l++et (lv l)
theorem lP(l:List UInt8)(c:UInt8):eG (l++[c])=(((eG l).1+c.toNat)%65521,((eG l).2+((eG l).1+c.toNat)%65521)%65521):=by
 simp[eG,zcr]
theorem m7(l:List UInt8):0<=(eG l).1/\(eG l).1<65521/\0<=(eG l).2/\(eG l).2<65521:=by
 rcases List.eq_nil_or_concat l with rfl|⟨r,c,rfl⟩
 · simp[eG]
 · rw[List.concat_eq_append,lP];simp only;omega
theorem yF{α:Type}{r:Rep α}{T E:TypeId}{bytes:Nat}(el:Elt Tryz.prog T E r.size bytes){w:World}{base ty:Nat}{v vx:Value}{xs ys:List α}{S:Nat->Prop}(hown:OwR r E base w v xs)(hsrc:SlR r w S vx ys)
  (hS:∀(cs:List Value) (y:α),r.holds w S cs y->r.holds w (fun k=>k<w.heap.size/\v.ownBlock≠some k) cs y) (hn:xs.length+ys.length<=1000000000000) (hb:bytes<=100):
  ∃v' w',(Builtin.append_ #[T,T] ty #[v,vx]).run Tryz.prog w= .ok v' w'/\OwR r E base w' v' (xs++ys)/\al w v w' v':=by
 have hm:(xs.length+ys.length)*bytes<=1000000000000*100:=zcv hn hb;obtain⟨v',w',r1,r2,r3,r4⟩:=bH (ty:=ty) el hown hsrc hS (by unfold maxLen;omega) (by omega);refine⟨v',w',r1,r2,r3,fun k hk=> ?_⟩;rcases r4 with e|e
 · exact .inl (e▸hk)
 · rw[e]at hk;injection hk with hk;exact .inr (zbG hk)
theorem aR{α:Type}{r:Rep α}{T E:TypeId}{bytes:Nat}(el:Elt Tryz.prog T E r.size bytes){ops:Array Oper}{rest:List Oper}{o:Oper}{a:Act}{Q:Exit->Act->World->Prop}{w:World}{base:Nat}(hgd:o.guard=none)(s x:Operand)
  (ho:o.op= .call {callee:= .builtin .append,args:= #[s,x],argTypes:= #[T,T]}) {v vx:Value} {xs ys:List α} {S:Nat->Prop}
  (hown:OwR r E base w v xs) (hsrc:SlR r w S vx ys) (hS:∀(cs:List Value) (y:α),r.holds w S cs y->r.holds w (fun k=>k<w.heap.size/\v.ownBlock≠some k) cs y) (hs:a.eval s=v) (hx:a.eval x=vx) (hn:xs.length+ys.length<=1000000000000) (hb:bytes<=100)
  (h:∀v' w',OwR r E base w' v' (xs++ys)->al w v w' v'->wpList Tryz.prog ops Q rest (a.put o.dst v') w'):wpList Tryz.prog ops Q (o::rest) a w:=
 wpList_plain hgd fun _ hK=>by
  obtain⟨v',w',hrun,h2,h3⟩:=yF (ty:=o.type) el hown hsrc hS hn hb;unfold Oper.wp execOp;simp only[ho,resolve,invoke,builtin,zbK,zbJ,Result.andThen_ok,zbn,zbc,zbB,hs,hx,hrun];exact hK _ _ (h v' w' h2 h3)
theorem eA{α:Type}{r:Rep α}{T E:TypeId}{bytes:Nat}(el:Elt Tryz.prog T E r.size bytes){ops:Array Oper}{o:Oper}{a:Act}{K:Act->World->Prop}{Q:Exit->Act->World->Prop}{E':Prop}{w:World}{base:Nat}(hgd:o.guard=none)(s x:Operand)
  (ho:o.op= .call {callee:= .builtin .append,args:= #[s,x],argTypes:= #[T,T]}) {v vx:Value} {xs ys:List α} {S:Nat->Prop}
  (hown:OwR r E base w v xs) (hsrc:SlR r w S vx ys) (hS:∀(cs:List Value) (y:α),r.holds w S cs y->r.holds w (fun k=>k<w.heap.size/\v.ownBlock≠some k) cs y) (hs:a.eval s=v) (hx:a.eval x=vx) (hn:xs.length+ys.length<=1000000000000) (hb:bytes<=100)
  (h:∀v' w',OwR r E base w' v' (xs++ys)->al w v w' v'->K (a.put o.dst v') w'):if Region.wanted o (yielded ops a.tmps)=true then Oper.wp Tryz.prog o a w K Q else E':=by
 have hw:Region.wanted o (yielded ops a.tmps)=true:=by simp[Region.wanted,hgd]
 rw[if_pos hw];obtain⟨v',w',hrun,h2,h3⟩:=yF (ty:=o.type) el hown hsrc hS hn hb;unfold Oper.wp execOp;simp only[ho,resolve,invoke,builtin,zbK,zbJ,Result.andThen_ok,zbn,zbc,zbB,hs,hx,hrun];exact h v' w' h2 h3
theorem au{α:Type}{r:Rep α}{E base:Nat}{w:World}{v:Value}{xs:List α}(h:OwR r E base w v xs)(o:Obj):OwR r E base (w.alloc o) v xs:=h.keep ((zac w.heap.size w).alloc (zab _) o)
theorem Dj{α:Type}{r:Rep α}{E base:Nat}{w:World}{v:Value}{xs:List α}(h:OwR r E base w v xs):OwR r E base w.drew v xs:=h.keep ((zac w.heap.size w).drew)
theorem Sl.strA{w:World}{b off c n:Nat}{xs:List ByteArray}(h:Sl bs w (.slice (some ⟨b,off,none⟩) n c) xs){k:Nat}(hk:k<xs.length):w.cell? ⟨b,off+k,none⟩=some (.string xs[k]):=by
 obtain⟨cs,⟨rfl,hw⟩,hc⟩:=h.cell hk;have:=hc 0 _ rfl;simpa [bs,dw]using this
theorem fN:Elt Tryz.prog 55 9 1 16:=⟨Tryz.underlying55,by
 have h:(Tryz.prog.info? 9).map (fun i=>(i.zero,i.size,i.bytes))=some (some (.string ⟨#[]⟩),1,16):=by kernel_rfl
 obtain⟨i,h1,h2,h3,h4⟩:=info_parts h
 exact⟨i,_,h1,h2,h3,h4,rfl⟩,by decide⟩
theorem gp:Elt Tryz.prog 95 99 2 16:=⟨Tryz.underlying95,by
 have h:(Tryz.prog.info? 99).map (fun i=>(i.zero,i.size,i.bytes))=some (some (.agg #[.int .i64 0,.int .i64 0]),2,16):=by kernel_rfl
 obtain⟨i,h1,h2,h3,h4⟩:=info_parts h
 exact⟨i,_,h1,h2,h3,h4,rfl⟩,by decide⟩
theorem cK:Elt Tryz.prog 46 32 2 16:=⟨Tryz.underlying46,by
 have h:(Tryz.prog.info? 32).map (fun i=>(i.zero,i.size,i.bytes))=some (some (.agg #[.int .i64 0,.int .i64 0]),2,16):=by kernel_rfl
 obtain⟨i,h1,h2,h3,h4⟩:=info_parts h
 exact⟨i,_,h1,h2,h3,h4,rfl⟩,by decide⟩
theorem aN{α:Type}{r:Rep α}{w:World}{B:Nat}{cs:List Value}{x:α}{E:TypeId}(hB:B=w.heap.size)(hh:r.holds w (fun k=>k<w.heap.size) cs x):
  SlR r (w.alloc (.cells cs.toArray E)) (fun k=>k<w.heap.size+1) (.slice (some ⟨B,0,none⟩) 1 1) [x]:=by
 subst hB;exact SlR.one_new hh
end
section
open Go Go.RowKit
theorem yC(l m:List UInt8):bOf l++bOf m=bOf (l++m):=Go.ByteArray.mk_append_mk l m
theorem Et(k:Nat):∀(n:Nat) (w:World),n<k->n<1000000000000->
  Calls Tryz.prog 43 #[.int .i64 n] w fun e w'=>e= .returned (.string (bOf (Lib.decDigits n)))/\Below w.heap.size w w':=by
 induction k with
 | zero=>intro n w h _;omega
 | succ k ih=>
   intro n w h hb;have IH:=zaa ih;clear ih;by_cases h10:n<10
   · obtain⟨c,hcc⟩:∃c:UInt8,c=UInt8.ofNat (48+n):=⟨_,rfl⟩;have HD:=zaa (fw h10);rw[<-hcc]at HD;(have hw:(c.toNat:Int)=48+(n:Int):=by rw[hcc,eN h10];omega);have hone:Sl aG (w.alloc (.cells #[.int .u8 (c.toNat:Int)] 5)) (.slice (some ⟨w.heap.size,0,none⟩) 1 1) [c]:=
      SlR.keep (SlR.one_new (r:=aG) (w:=w) (cs:=[.int .u8 (c.toNat:Int)]) (x:=c) ⟨rfl,trivial⟩) (fun _ _=>rfl) (fun k hk=>by simpa using hk)
     have hc:=jy hone;rw[hw]at hc;clear hone h hb hw hcc;(go_enter Tryz.func43,Tryz.ntmps43);(go_wp2_with fail);(go_ret);exact⟨by rw[HD.out];rfl,(zac _ _).alloc (zab _) _⟩
   · have HD:=zaa (nx h10);(have e1:(n:Int)/10=((n/10:Nat):Int):=by omega);(have e2:(n:Int)%10=((n%10:Nat):Int):=by omega);have i1:=fun w=>IH.out (n/10) w (by omega) (by omega);have i2:=fun w=>IH.out (n%10) w (by omega) (by omega);rw[<-e1]at i1;rw[<-e2]at i2;have I1:=zaa i1;have I2:=zaa i2;have l1:=cm 11 (n/10) (by omega);have l2:=cm 11 (n%10) (by omega);(have z1:(bOf (Lib.decDigits (n/10))).size<=12:=by rw[bf];exact l1);(have z2:(bOf (Lib.decDigits (n%10))).size<=12:=by rw[bf];exact l2);(have h10':¬ (n:Int)<10:=by omega);(have hb':(n:Int)<1000000000000:=by omega);have EA:=zaa (yC (Lib.decDigits (n/10)) (Lib.decDigits (n%10)));have ES:=zaa (fw (u:=n%10) (by omega));clear e1 e2 i1 i2 l1 l2 h10 h hb;(go_enter Tryz.func43,Tryz.ntmps43);go_wp2_with (first
      | (go_at_call 43;have B1':=B1;refine(I2.out _).mono ?_;rintro e w2 ⟨rfl,hb2⟩;have B2:=zaa (B1.out.trans (hb2.mono B1.out.size));clear hb2)
      | (go_at_call 43;refine(I1.out _).mono ?_;rintro e w1 ⟨rfl,hb1⟩;have B1:=zaa hb1;clear hb1))
     (go_ret);refine⟨?_,B2.out⟩;rw[HD.out,<-ES.out,<-EA.out];rfl
theorem ny(n:Nat)(w:World)(h:n<1000000000000):
 Calls Tryz.prog 43 #[.int .i64 n] w fun e w'=>e= .returned (.string (bOf (Lib.decDigits n)))/\Below w.heap.size w w':=Et (n+1) n w (zbt _) h
theorem xF(l:List UInt8):∀acc:Nat,(∀c∈l,isD c)->dH acc l<(acc+1)*10^l.length:=by
 induction l with
 | nil=>intro acc _;rw[fG];simp
 | cons c r ih=>
   intro acc hd;obtain⟨h1,h2⟩:=hd c (by simp);have h:=ih (acc*10+(c.toNat-48)) (fun x hx=>hd x (by simp[hx]));rw[fj];refine zas h ?_;rw[zaD,Nat.pow_succ,Nat.mul_comm (10^r.length) 10,<-Nat.mul_assoc];exact zcd _ (by omega)
theorem BA{s:List UInt8}(h:¬ (1<=s.length/\s.length<=6)):mU s= -1:=by unfold mU;rw[if_pos (.inl h)]
theorem zn{s:List UInt8}(h:1<s.length/\s.head? =some 48):mU s= -1:=by unfold mU;rw[if_pos (.inr h)]
theorem tT{s:List UInt8}{c:UInt8}(h:c∈s)(hc:¬ isD c):mU s= -1:=by
 unfold mU;split
 · rfl
 · rw[if_neg (fun e=>hc (e c h))]
theorem qF{s:List UInt8}(h1:1<=s.length/\s.length<=6)(h2:¬ (1<s.length/\s.head? =some 48))(h3:∀c∈s,isD c):mU s=if 100000<dH 0 s then-1 else(dH 0 s:Int):=by
 unfold mU;rw[if_neg (by rintro(e|e)<;>first|exact e h1|exact h2 e),if_pos h3]
theorem qG(s:ByteArray)(w:World)(hl:s.size<=9223372036854775807):
  Calls Tryz.prog 188 #[.string s] w fun e w'=>e= .returned (.int .i64 (mU s.data.toList))/\w=w':=by
 have hsz:=aC s;by_cases h1:1<=s.size/\s.size<=6
 · obtain⟨h1a,h1b⟩:=h1;have hpos:0<s.size:=h1a;obtain⟨c0,hc0⟩:∃c0,s[0]'hpos=c0:=⟨_,rfl⟩;have hh:s.data.toList.head? =some c0:=by
    rw[<-hc0,zca,zad (by omega)];rfl
   (have h1i:(1:Int)<=(s.size:Int):=by omega);(have h1j:(s.size:Int)<=6:=by omega);by_cases h2:1<s.size/\c0=48
   · obtain⟨h2a,rfl⟩:=h2;have HR:=zaa (zn (s:=s.data.toList) ⟨by omega,hh⟩);(have h2i:(1:Int)<(s.size:Int):=by omega);clear hsz hh;(go_enter Tryz.func188,Tryz.ntmps188);(go_wp2_with (go_at_call 36;refine(aU _ _ _ _).mono ?_;rintro e w' ⟨rfl,rfl⟩));(go_ret);exact⟨ei HR.out.symm,rfl⟩
   · have HH:=zaa hh;have H2:=zaa h2;have hg:((1:Int)<(s.size:Int))->((c0.toNat:Int)==48)=false:=by
      intro h;rw[beq_eq_false_iff_ne];intro e;exact h2 ⟨by omega,UInt8.toNat_inj.1 (by have:(48:UInt8).toNat=48:=rfl;omega)⟩
     clear hh h2;have HSZ:=zaa hsz;clear hsz;by_cases h2i:(1:Int)<(s.size:Int)
     · have hg':=hg h2i;clear hg;(go_enter Tryz.func188,Tryz.ntmps188);(go_wp2_with (go_at_call 36;refine(aU _ _ _ _).mono ?_;rintro e w' ⟨rfl,rfl⟩));(go_loop [3,4] (fun n i=>∃k:Nat,k<=s.size/\i= .int .i64 k/\n= .int .i64 ((dH 0 (s.data.toList.take k):Nat):Int)/\∀c∈s.data.toList.take k,isD c) (fun _ i=>s.size-(intOf i).toNat));(case atStart=>exact⟨0,zap _,rfl,by rw[zcw,fG];rfl,by simp⟩);case round=>
        obtain⟨k,hk,rfl,rfl,hall⟩:=hrel;have HA:=zaa hall;have hvb:=xF _ 0 hall;have hpw:10^(s.data.toList.take k).length<=10^6:=Nat.pow_le_pow_right (by omega) (by rw[zat];omega);clear hall;by_cases hlt:k<s.size
        · have hu:s[k].toNat<256:=s[k].toNat_lt;(have hl':k<s.data.toList.length:=by rw[HSZ.out];exact hlt);have hx:s.data.toList[k]=s[k]:=rfl;have hsnoc:dH 0 (s.data.toList.take (k+1))=dH 0 (s.data.toList.take k)*10+(s[k].toNat-48):=by
           rw[zar hl',jD,hx]
          (have hmem:s[k]∈s.data.toList:=by rw[<-hx];exact zaw hl');have hnext:isD s[k]->∀c∈s.data.toList.take (k+1),isD c:=by
           intro hd c hc;rw[zar hl',hx]at hc;rcases zbd.1 hc with hc|hc
           · exact HA.out c hc
           · rw[zcn]at hc;subst hc;exact hd
          have HS:=zaa hsnoc;have HM:=zaa hmem;have HN:=zaa hnext;clear hsnoc hmem hnext hx;generalize hV:dH 0 (s.data.toList.take k)=V at*;(have hV1:(V:Int)<1000000:=by omega);clear hpw hvb;by_cases hd:isD s[k]
          · have HD:=zaa hd;obtain⟨d1,d2⟩:=hd;(have d1':(48:Int)<=(s[k].toNat:Int):=by omega);(have d2':(s[k].toNat:Int)<=57:=by omega);clear d1 d2 hV hu;(go_wp2_with (go_at_call 36;refine(aU _ _ _ _).mono ?_;rintro e w' ⟨rfl,rfl⟩));(go_round);(case rel=>exact⟨k+1,by omega,by go_num,by rw[HS.out];congr 1;omega,HN.out HD.out⟩);case measure=>simp[intOf];omega
          · have HR:=zaa (tT HM.out hd);have hd':(decide ((48:Int)<=(s[k].toNat:Int))&&decide ((s[k].toNat:Int)<=57))=false:=by
             rw[Bool.eq_false_iff];intro e;rw[Bool.and_eq_true,decide_eq_true_iff,decide_eq_true_iff]at e;exact hd ⟨by omega,by omega⟩
            have hin:=fun w=>aU (s[k].toNat:Int) 48 57 w;rw[hd']at hin;have HIN:=zaa hin;clear hd hd' hin;(go_wp2_with (go_at_call 36;refine(HIN.out _).mono ?_;rintro e w' ⟨rfl,rfl⟩));(go_ret);exact⟨ei HR.out.symm,rfl⟩
        · have hte:s.data.toList.take k=s.data.toList:=zaO (by rw[HSZ.out];omega);rw[hte]at HA hvb hpw⊢;clear hte;have HR:=zaa (qF (by rw[HSZ.out];exact⟨h1a,h1b⟩) (by rintro⟨e1,e2⟩;rw[HH.out]at e2;injection e2 with e2;exact H2.out ⟨by rw[<-HSZ.out];exact e1,e2⟩) HA.out);generalize hV:dH 0 s.data.toList=V at*;(go_wp2_with fail);all_goals
           (go_ret);refine⟨ei ?_,rfl⟩;rw[HR.out];split<;>omega
     · clear hg;(go_enter Tryz.func188,Tryz.ntmps188);(go_wp2_with (go_at_call 36;refine(aU _ _ _ _).mono ?_;rintro e w' ⟨rfl,rfl⟩));(go_loop [3,4] (fun n i=>∃k:Nat,k<=s.size/\i= .int .i64 k/\n= .int .i64 ((dH 0 (s.data.toList.take k):Nat):Int)/\∀c∈s.data.toList.take k,isD c) (fun _ i=>s.size-(intOf i).toNat));(case atStart=>exact⟨0,zap _,rfl,by rw[zcw,fG];rfl,by simp⟩);case round=>
        obtain⟨k,hk,rfl,rfl,hall⟩:=hrel;have HA:=zaa hall;have hvb:=xF _ 0 hall;have hpw:10^(s.data.toList.take k).length<=10^6:=Nat.pow_le_pow_right (by omega) (by rw[zat];omega);clear hall;by_cases hlt:k<s.size
        · have hu:s[k].toNat<256:=s[k].toNat_lt;(have hl':k<s.data.toList.length:=by rw[HSZ.out];exact hlt);have hx:s.data.toList[k]=s[k]:=rfl;have hsnoc:dH 0 (s.data.toList.take (k+1))=dH 0 (s.data.toList.take k)*10+(s[k].toNat-48):=by
           rw[zar hl',jD,hx]
          (have hmem:s[k]∈s.data.toList:=by rw[<-hx];exact zaw hl');have hnext:isD s[k]->∀c∈s.data.toList.take (k+1),isD c:=by
           intro hd c hc;rw[zar hl',hx]at hc;rcases zbd.1 hc with hc|hc
           · exact HA.out c hc
           · rw[zcn]at hc;subst hc;exact hd
          have HS:=zaa hsnoc;have HM:=zaa hmem;have HN:=zaa hnext;clear hsnoc hmem hnext hx;generalize hV:dH 0 (s.data.toList.take k)=V at*;(have hV1:(V:Int)<1000000:=by omega);clear hpw hvb;by_cases hd:isD s[k]
          · have HD:=zaa hd;obtain⟨d1,d2⟩:=hd;(have d1':(48:Int)<=(s[k].toNat:Int):=by omega);(have d2':(s[k].toNat:Int)<=57:=by omega);clear d1 d2 hV hu;(go_wp2_with (go_at_call 36;refine(aU _ _ _ _).mono ?_;rintro e w' ⟨rfl,rfl⟩));(go_round);(case rel=>exact⟨k+1,by omega,by go_num,by rw[HS.out];congr 1;omega,HN.out HD.out⟩);case measure=>simp[intOf];omega
          · have HR:=zaa (tT HM.out hd);have hd':(decide ((48:Int)<=(s[k].toNat:Int))&&decide ((s[k].toNat:Int)<=57))=false:=by
             rw[Bool.eq_false_iff];intro e;rw[Bool.and_eq_true,decide_eq_true_iff,decide_eq_true_iff]at e;exact hd ⟨by omega,by omega⟩
            have hin:=fun w=>aU (s[k].toNat:Int) 48 57 w;rw[hd']at hin;have HIN:=zaa hin;clear hd hd' hin;(go_wp2_with (go_at_call 36;refine(HIN.out _).mono ?_;rintro e w' ⟨rfl,rfl⟩));(go_ret);exact⟨ei HR.out.symm,rfl⟩
        · have hte:s.data.toList.take k=s.data.toList:=zaO (by rw[HSZ.out];omega);rw[hte]at HA hvb hpw⊢;clear hte;have HR:=zaa (qF (by rw[HSZ.out];exact⟨h1a,h1b⟩) (by rintro⟨e1,e2⟩;rw[HH.out]at e2;injection e2 with e2;exact H2.out ⟨by rw[<-HSZ.out];exact e1,e2⟩) HA.out);generalize hV:dH 0 s.data.toList=V at*;(go_wp2_with fail);all_goals
           (go_ret);refine⟨ei ?_,rfl⟩;rw[HR.out];split<;>omega
 · have HR:=zaa (BA (s:=s.data.toList) (by rw[hsz];exact h1));clear hsz;(go_enter Tryz.func188,Tryz.ntmps188);go_wp2_with (go_at_call 36;refine(aU _ _ _ _).mono ?_;rintro e w' ⟨rfl,rfl⟩)
   · (go_ret);exact⟨ei HR.out.symm,rfl⟩
   all_goals(exfalso;simp at*;omega)
end
end Go.Proofs.YtojojpjldkpmoaaGreatDoor
