/-
  
-/
import Derived.Test.YtojojpjldkpmoaaGreatDoorGDoB
import Derived.Test.YtojojpjldkpmoaaGreatDoorGStE
import Derived.Laws.CopyRow
import Derived.Laws.CopyOwn
import Derived.Lib.AppendZerosOnto
import Derived.Lib.AppendZeros
import Derived.Lib.Overlaps
import Derived.Laws.Externs
import Derived.Deep.RegionLaw
import Derived.WalkSpells
import Derived.Test.YtojojpjldkpmoaaGreatDoorGStG
import Derived.Deep.AppendLies
set_option linter.unusedVariables false
set_option linter.unusedSimpArgs false
set_option maxHeartbeats 16000000
set_option maxRecDepth 100000
namespace Go.Proofs.YtojojpjldkpmoaaGreatDoor
section
open Go.RowKit Go.Deep
section
variable {α:Type} {size:Nat} {enc:α->List Value} {ok:α->Prop} {h1:∀x,(enc x).length=size} {h2:∀x,∀u∈enc x,u.oneCell'=true}
theorem OwR.of_flat{E base:Nat}{w:World}{v:Value}{xs:List α}(h:w.ownsRow base E size v xs.length (xs.map enc).flatten)(hok:∀x∈xs,ok x)(hb:base<=w.heap.size):OwR (dw size enc ok h1 h2) E base w v xs:=by
 refine⟨xs.map enc,by simp,?_,h,hb⟩;intro i cs x hc hx;have:cs=enc x:=by simp[zbN,hx]at hc;exact hc.symm
 subst this;exact⟨rfl,hok x (List.mem_of_getElem? hx)⟩
theorem OwR.to_flat{E base:Nat}{w:World}{v:Value}{xs:List α}(h:OwR (dw size enc ok h1 h2) E base w v xs):w.ownsRow base E size v xs.length (xs.map enc).flatten/\(∀x∈xs,ok x)/\base<=w.heap.size:=by
 obtain⟨css,g1,g2,g3,g4⟩:=h;refine⟨?_,fun x hx=> ?_,g4⟩
 · have:css=xs.map enc:=by
    refine List.ext_getElem (by simp[g1]) fun i hi hi'=> ?_;have:=g2 i css[i] (xs[i]'(by omega)) (zad hi) (zad (by omega));rw[this.1];simp
   rw[this]at g3;exact g3
 · obtain⟨i,hi,rfl⟩:=zau hx;exact(g2 i (css[i]'(by omega)) xs[i] (zad _) (zad hi)).2
end
theorem eJ{P:Program}(w:World)(dT sT ty elem:TypeId)(k:Nat)(g o dLen dCap:Nat)(a:Addr)(sLen sCap:Nat)(cur:Array Value)(t:TypeId)(cs:List Value)
  (hu:P.underlying dT=some (.slice elem)) (hs:(P.info? elem).map (·.size)=some k)
  (hg:w.heap[g]? =some (.cells cur t (0,0))) (hn:cs.length=Nat.min sLen dLen*k)
  (hsrc:∀j v,cs[j]? =some v->w.cell? (a.add j)=some v) (hfit:o+cs.length<=cur.size) (h1:∀v∈cs,v.oneCell'=true):
  (Builtin.copy_ #[dT,sT] ty #[.slice (some ⟨g,o,none⟩) dLen dCap,.slice (some a) sLen sCap]).run P w=
   .ok (goInt (Nat.min sLen dLen)) (w.setRow g (splice cur.toList o cs).toArray):=by
 have hl:=run_loadCells_list (P:=P) w a cs hsrc;have hst:=run_storeCells_at P g o t cs 0 cur w hg (by simpa using hfit) h1;rw[hn]at hl;cases hq:P.info? elem with
 | none=>simp[hq]at hs
 | some i=>
   (have hi:i.size=k:=by simpa [hq]using hs);simp[Builtin.copy_,run_underlying hu,Builtin.lenOf,Builtin.firstCells,sizeOf,typeInfo,hq,hi,hl,hst,splice]
theorem gb{P:Program}{w:World}{ops:Array Oper}{rest:List Oper}{o:Oper}{a:Act}{Q:Exit->Act->World->Prop}(hgd:o.guard=none)(d s:Operand)(t t':TypeId)
  (ho:o.op= .call {callee:= .builtin .copy,args:= #[d,s],argTypes:= #[t,t']}) (v u:Value) (hd:a.eval d=v) (hs:a.eval s=u) {v':Value} {w':World}
  (hr:(Builtin.copy_ #[t,t'] o.type #[v,u]).run P w= .ok v' w') (h:wpList P ops Q rest (a.put o.dst v') w'):wpList P ops Q (o::rest) a w:=
 wpList_plain hgd fun _ hK=>by
  unfold Oper.wp execOp;simp only[ho,resolve,invoke,builtin,zbK,zbJ,Result.andThen_ok,zbn,zbc,zbB,hd,hs,hr];exact hK _ _ h
theorem iC{P:Program}{ops:Array Oper}{o:Oper}{a:Act}{w:World}{K:Act->World->Prop}{Q:Exit->Act->World->Prop}{E:Prop}
  (hg:o.guard=none) (d x:Operand) (dT sT:TypeId) (hop:o.op=Op.call {callee:=Callee.builtin Builtin.copy,args:= #[d,x],argTypes:= #[dT,sT]})
  (v u:Value) (hd:a.eval d=v) (hx:a.eval x=u) {v':Value} {w':World} (hr:(Builtin.copy_ #[dT,sT] o.type #[v,u]).run P w= .ok v' w') (hK:K (a.put o.dst v') w'):
  if Region.wanted o (yielded ops a.tmps)=true then Oper.wp P o a w K Q else E:=by
 have hw:Region.wanted o (yielded ops a.tmps)=true:=by simp[Region.wanted,hg]
 rw[if_pos hw];unfold Oper.wp;simp[execOp,hop,resolve,invoke,builtin,hd,hx,hr,Result.andThen];exact hK
theorem lw:Elt Tryz.prog 42 44 4 48:=⟨Tryz.underlying42,by
 have h:(Tryz.prog.info? 44).map (fun i=>(i.zero,i.size,i.bytes))=some (some (.agg #[.string ⟨#[]⟩,.int .i64 0,.int .i64 0,.string ⟨#[]⟩]),4,48):=by kernel_rfl
 obtain⟨i,h1,h2,h3,h4⟩:=info_parts h
 exact⟨i,_,h1,h2,h3,h4,rfl⟩,by decide⟩
theorem jT(xs:List ab):(xs.map ab.cells).flatten.length=xs.length*4:=by
 induction xs with
 | nil=>rfl
 | cons a r ih=>rw[zbc,zaU,zaq,ih];simp[ab.cells];omega
theorem pb(xs:List ab)(i:Nat):((xs.take i).map ab.cells).flatten=(xs.map ab.cells).flatten.take (i*4):=by
 induction xs generalizing i with
 | nil=>simp
 | cons a r ih=>
   cases i with
   | zero=>simp
   | succ i=>
     rw[zbz,zbc,zaU,ih,zbc,zaU,List.take_append];have:a.cells.length=4:=rfl;rw[this,zaO (l:=a.cells) (by rw[this];omega),show(i+1)*4-4=i*4 by omega]
theorem pc(xs:List ab)(i:Nat):((xs.drop i).map ab.cells).flatten=(xs.map ab.cells).flatten.drop (i*4):=by
 induction xs generalizing i with
 | nil=>simp
 | cons a r ih=>
   cases i with
   | zero=>simp
   | succ i=>
     rw[zbD,ih,zbc,zaU,List.drop_append];have:a.cells.length=4:=rfl;rw[this,zbA (l:=a.cells) (by rw[this];omega),zcf,show(i+1)*4-4=i*4 by omega]
theorem qZ(xs:List ab):∀u∈(xs.map ab.cells).flatten,u.oneCell'=true:=by
 intro u hu;obtain⟨l,hl,hu⟩:=List.mem_flatten.1 hu;obtain⟨x,_,rfl⟩:=zbR.1 hl;simp[ab.cells]at hu;rcases hu with rfl|rfl|rfl|rfl<;>rfl
theorem nS{α:Type}(C T Y:List α)(i m n:Nat)(hC:C.length=n)(hY:Y.length=m)(hi:i<=n)(hT:m<=T.length):
  (splice (splice (C++T) (i+m) (C.drop i)) i Y).take (n+m)=C.take i++(Y++C.drop i):=by
 unfold splice;subst hC hY;have e1:(C++T).take (i+Y.length)=C.take i++((C++T).drop i).take Y.length:=by
  rw[List.take_add,zbg hi]
 have l1:((C++T).take (i+Y.length)).length=i+Y.length:=by rw[zat,zaq];omega
 have ld:(C.drop i).length=C.length-i:=zaM;have e2:((C++T).take (i+Y.length)++(C.drop i++(C++T).drop (i+Y.length+(C.drop i).length))).take i=C.take i:=by
  rw[zbg (by omega),List.take_take,Nat.min_eq_left (by omega),zbg hi]
 have e3:((C++T).take (i+Y.length)++(C.drop i++(C++T).drop (i+Y.length+(C.drop i).length))).drop (i+Y.length)=C.drop i++(C++T).drop (i+Y.length+(C.drop i).length):=by
  rw[List.drop_append_of_le_length (by omega),zbA (by omega),zcf]
 rw[e2,e3,<-zbm,<-zbm,zbg (by simp only[zaq,zat,ld];omega),zaO (by simp only[zaq,zat,ld];omega),zbm]
theorem iS(v:Value)(xs:List ab)(w:World)(h:Sl aW w v xs)(hl:xs.length<=1000000):
  Calls Tryz.prog 21 #[v] w fun e w'=>∃v',e= .returned v'/\OwR aW 44 w.heap.size w' v' xs/\Below w.heap.size w w':=by
 have q1:=fun(wx:World) (a:Option Addr) (n c:Nat)=>Lib.run_eql_slice_nil (P:=Tryz.prog) wx 42 44 a n c 0 0 Tryz.underlying42;obtain⟨A,c,rfl⟩:=h.form;have H:=zaa h;clear h;rcases A with _|ad
 · have hx:xs=[]:=by
    rcases zaG xs.length with h0|h0
    · exact zaH h0
    · obtain⟨_,_,h,_⟩:=H.out.at_ h0;cases h
   subst hx;(go_enter Tryz.func21,Tryz.ntmps21);(go_wp2_with fail);(go_ret);exact⟨_,rfl,OwR.nil _ _ (zab _),zac _ _⟩
 · have hB0:Below w.heap.size w (w.alloc (.cells #[] 44)):=(zac _ _).alloc (zab _) _;have hown:OwR aW 44 w.heap.size (w.alloc (.cells #[] 44)) (.slice (some ⟨w.heap.size,0,none⟩) 0 0) []:=⟨[],rfl,fun i cs x h=>by simp at h,World.ownsRow_made w #[] 0 (zab _) (zap _) (by simp),by simp⟩;have H1:=zaa (H.out.below hB0);have HB0:=zaa hB0;have HO:=zaa hown;clear hB0 hown;(go_enter Tryz.func21,Tryz.ntmps21);(go_wp2_with (at_builtin;refine bD (base:=w.heap.size) rfl _ _ rfl lw HO.out H1.out rfl rfl (fun _ _ h=>h) (by simp;unfold maxLen;omega) (by simp;omega) ?_;intro v1 w1 ho1 hg1 hb1));(go_ret);exact⟨v1,rfl,ho1,HO.out.below_grown HB0.out hg1⟩
theorem iE:(Tryz.prog.info? 44).map (·.size)=some 4:=by kernel_rfl
def jY(base:Nat)(w:World)(v:Value)(ys:List ab)(e:Ending)(w':World):Prop:=
 ∃v',e= .returned v'/\OwR aW 44 base w' v' ys/\al w v w' v'
theorem Ee{w:World}{vb:Nat}{x:ab}(hvb:w.heap[vb]? =some (.cells x.cells.toArray 44 (0,0)))(hx:x.wf):Sl aW w (.slice (some ⟨vb,0,none⟩) 1 1) [x]:=by
 have hlt:vb<w.heap.size:=by
  rcases zbF vb w.heap.size with h|h
  · exact h
  · rw[zcb h]at hvb;cases hvb
 refine⟨some ⟨vb,0,none⟩,1,rfl,zab _,by decide,fun i y hy=> ?_⟩
 match i,hy with
 | 0,hy=>
   simp at hy;subst hy;refine⟨vb,0,x.cells,rfl,hlt,hlt,⟨rfl,hx⟩,fun j u hu=> ?_⟩;simp only[Nat.zero_mul,zbH,zbb];rw[cell_of_row w vb j _ _ _ hvb];simpa using hu
 | i+1,hy=>simp at hy
theorem al.of_at{w w':World}{v v':Value}(hg:w.grownBy w' v.ownBlock)(hb:v'.ownBlock=v.ownBlock∨v'.ownBlock=some w.heap.size):al w v w' v':=
 ⟨hg,fun k hk=>by
  rcases hb with e|e
  · exact .inl (e▸hk)
  · rw[e]at hk;injection hk with hk;exact .inr (zbG hk)⟩
theorem wF(v:Value)(xs:List ab)(x:ab)(w:World)(vb base:Nat)(h:OwR aW 44 base w v xs)(hl:xs.length<=1000)
  (hvb:w.heap[vb]? =some (.cells x.cells.toArray 44 (0,0))) (hx:x.wf):
  Calls Tryz.prog 66 #[v,.int .i64 (xs.length:Nat),.slice (some ⟨vb,0,none⟩) 1 1] w (jY base w v (xs++[x])):=by
 have hsl:=Ee hvb hx;have HSL:=zaa hsl;have H:=zaa h;obtain⟨h1,h2,h3⟩:=OwR.to_flat h;have hform:∃A n c,v= .slice A n c/\n=xs.length/\xs.length<=c/\c<=9223372036854775807/\(A=none->c=0)/\(∀a,A=some a->∃g,a=⟨g,0,none⟩):=by
  rcases h1.2 with⟨rfl,hn⟩|⟨g,cap,cur,rfl,_,_,hnc,hcm,_,_⟩
  · exact⟨none,0,0,rfl,hn.symm,(by omega),(by omega),(fun _=>rfl),(fun a ha=>by cases ha)⟩
  · exact⟨some ⟨g,0,none⟩,xs.length,cap,rfl,rfl,hnc,(by unfold maxLen at hcm;omega),(fun e=>by cases e),(fun a ha=>⟨g,by injection ha with ha;exact ha.symm⟩)⟩
 obtain⟨A,n,c,rfl,rfl,hc1,hc2,hA1,hA2⟩:=hform;have HA1:=zaa hA1;have HA2:=zaa hA2;clear h h1 h2 h3 hsl hvb hA1 hA2;rcases A with _|a
 · have hc0:=HA1.out rfl;subst hc0;have hx0:xs=[]:=zaH (by omega);subst hx0;(go_enter Tryz.func66,Tryz.ntmps66);(go_wp2_with (at_builtin;refine bD (base:=base) rfl (.tmp 23) (.tmp 24) rfl lw H.out HSL.out rfl rfl (fun _ _ h=>h) (by simp;decide) (by simp) ?_;intro v1 w1 ho1 hg1 hb1));(go_ret);exact⟨v1,rfl,ho1,al.of_at hg1 hb1⟩
 · obtain⟨g,rfl⟩:=HA2.out _ rfl;(go_enter Tryz.func66,Tryz.ntmps66);(go_wp2_with (at_builtin;refine bD (base:=base) rfl (.tmp 23) (.tmp 24) rfl lw H.out HSL.out rfl rfl (fun _ _ h=>h) (by simp;unfold maxLen;omega) (by simp;omega) ?_;intro v1 w1 ho1 hg1 hb1));all_goals
    (go_ret);exact⟨v1,rfl,ho1,al.of_at hg1 hb1⟩
theorem Bv(w:World)(vb g o lb cb:Nat)(cx cur:Array Value)(hvb:w.heap[vb]? =some (.cells cx 44 (0,0)))(hg:w.heap[g]? =some (.cells cur 44 (0,0)))(hne:vb≠g)(hcur:cur.size≠0):
  (callFunc 107 #[.slice (some ⟨vb,0,none⟩) 1 1,.slice (some ⟨g,o,none⟩) lb cb]).run Tryz.prog w= .ok (.value (.bool false)) w:=by
 rw[run_callFunc_extern Tryz.func107 (by kernel_rfl) (by kernel_rfl) (by kernel_rfl) (e:=Extern.SlicesOverlaps.overlaps #[42,42] #[4]) (by kernel_rfl),
  Lib.run_overlaps_apart w 42 4 44 Tryz.underlying42 4 Tryz.sizeOf44 ⟨vb,0,none⟩ ⟨g,o,none⟩ 1 1 lb cb hne 44 44 cx.size cur.size (by simp[World.shape?,hvb]) (by simp[World.shape?,hg]) hcur (by simp[World.frozen?,hvb]) (by simp[World.frozen?,hvb])]
 rfl
theorem sq(xs:List ab)(x:ab)(i:Nat)(w:World)(vb base g cap:Nat)(cur:Array Value)(hi:i<xs.length)(hl:xs.length<=1000)(hroom:xs.length+1<=cap)(hcap:cap<=9223372036854775807)
  (hbg:base<=g) (hg:w.heap[g]? =some (.cells cur 44 (0,0))) (hcs:cur.size=cap*4) (htake:cur.toList.take (xs.length*4)=(xs.map ab.cells).flatten) (hok:∀e∈xs,e.wf) (hbw:base<=w.heap.size)
  (hvb:w.heap[vb]? =some (.cells x.cells.toArray 44 (0,0))) (hne:vb≠g) (hx:x.wf):
  Calls Tryz.prog 66 #[.slice (some ⟨g,0,none⟩) xs.length cap,.int .i64 (i:Nat),.slice (some ⟨vb,0,none⟩) 1 1] w (jY base w (.slice (some ⟨g,0,none⟩) xs.length cap) (xs.take i++x::xs.drop i)):=by
 obtain⟨C,hC⟩:∃C,(xs.map ab.cells).flatten=C:=⟨_,rfl⟩;have hCl:C.length=xs.length*4:=by rw[<-hC,jT]
 have hC1:∀u∈C,u.oneCell'=true:=by rw[<-hC];exact qZ xs
 rw[hC]at htake;have hov:=fun lb cb=>Bv w vb g ((i+1)*4) lb cb _ cur hvb hg hne (by omega);have hdl:(C.drop (i*4)).length=(xs.length-i)*4:=by rw[zaM,hCl];omega
 have hcell:∀j u,C[j]? =some u->w.cell? ⟨g,j,none⟩=some u:=by
  intro j u hj;rw[cell_of_row w g j _ _ _ hg];have hjl:j<xs.length*4:=by rw[<-hCl];exact(zaT.1 hj).1
  rw[<-htake,zbo,if_pos hjl]at hj;simpa using hj
 have hcp1:∀ty,(Builtin.copy_ #[42,42] ty #[.slice (some ⟨g,(i+1)*4,none⟩) (xs.length+1-(i+1)) (cap-(i+1)),.slice (some ⟨g,i*4,none⟩) (xs.length+1-i) (cap-i)]).run Tryz.prog w.drew= .ok (goInt (Nat.min (xs.length+1-i) (xs.length+1-(i+1)))) (w.drew.setRow g (splice cur.toList ((i+1)*4) (C.drop (i*4))).toArray):=fun ty=>
  eJ w.drew _ _ ty 44 4 g ((i+1)*4) _ _ ⟨g,i*4,none⟩ _ _ cur 44 (C.drop (i*4)) Tryz.underlying42 iE hg
   (by rw[hdl];simp only[Nat.min_def];split<;>omega)
   (fun j u hj=>by
    (have e:((⟨g,i*4,none⟩:Addr).add j)=⟨g,i*4+j,none⟩:=by unfold Addr.add;split<;>simp_all);rw[e,zaY]
    exact hcell (i*4+j) u (by rwa[zbI]at hj))
   (by rw[hdl,hcs];omega) (fun u hu=>hC1 u (zbl hu))
 obtain⟨R1,hR1⟩:∃R1,splice cur.toList ((i+1)*4) (C.drop (i*4))=R1:=⟨_,rfl⟩;have hR1l:R1.length=cap*4:=by
  have hct:cur.toList.length=cur.size:=zcl;rw[<-hR1,length_splice _ _ _ (by rw[hdl];omega)];omega
 rw[hR1]at hcp1;obtain⟨W1,hW1⟩:∃W1,w.drew.setRow g R1.toArray=W1:=⟨_,rfl⟩;have hg1:W1.heap[g]? =some (.cells R1.toArray 44 (0,0)):=by rw[<-hW1];exact setRow_heap w.drew g cur _ _ _ hg
 have hvb1:W1.heap[vb]? =some (.cells x.cells.toArray 44 (0,0)):=by rw[<-hW1,setRow_other w.drew g vb _ hne];exact hvb
 have hcp2:∀ty dc,(Builtin.copy_ #[42,42] ty #[.slice (some ⟨g,i*4,none⟩) (xs.length+1-i) dc,.slice (some ⟨vb,0,none⟩) 1 1]).run Tryz.prog W1= .ok (goInt (Nat.min 1 (xs.length+1-i))) (W1.setRow g (splice R1 (i*4) x.cells).toArray):=fun ty dc=>by
  have:=eJ (P:=Tryz.prog) W1 42 42 ty 44 4 g (i*4) (xs.length+1-i) dc ⟨vb,0,none⟩ 1 1 R1.toArray 44 x.cells Tryz.underlying42 iE hg1
   (by show 4=_;simp only[Nat.min_def];split<;>omega)
   (fun j u hj=>by
    (have e:((⟨vb,0,none⟩:Addr).add j)=⟨vb,j,none⟩:=by unfold Addr.add;split<;>simp_all);rw[e,cell_of_row W1 vb j _ _ _ hvb1]
    simpa using hj)
   (by show _+4<=_;simp[hR1l];omega) (fun u hu=>by simp[ab.cells]at hu;rcases hu with rfl|rfl|rfl|rfl<;>rfl)
  simpa using this
 have hfin:jY base w (.slice (some ⟨g,0,none⟩) xs.length cap) (xs.take i++x::xs.drop i) (.returned (.slice (some ⟨g,0,none⟩) (xs.length+1) cap)) (W1.setRow g (splice R1 (i*4) x.cells).toArray):=by
  have hlen:(xs.take i++x::xs.drop i).length=xs.length+1:=by simp;omega
  refine⟨_,rfl,OwR.of_flat ?_ ?_ ?_,⟨⟨?_,?_,?_,?_,?_⟩,fun k hk=> .inl hk⟩⟩
  · rw[hlen];have hfl:((xs.take i++x::xs.drop i).map ab.cells).flatten=C.take (i*4)++(x.cells++C.drop (i*4)):=by
     rw[zbe,zck,zbc,zaU,pb,pc,hC]
    refine⟨by rw[jT,hlen],.inr ⟨g,cap,_,rfl,hbg,setRow_heap W1 g R1.toArray _ _ _ hg1,hroom,by unfold maxLen;omega,?_,?_⟩⟩
    · simp only[zbx];rw[length_splice _ _ _ (by show _+4<=_;omega),hR1l]
    · rw[hfl,<-hR1];(have hcur:cur.toList=C++cur.toList.drop (xs.length*4):=by rw[<-htake,zcp]);have:=nS C (cur.toList.drop (xs.length*4)) x.cells (i*4) 4 (xs.length*4) hCl rfl (by omega) (by rw[zaM,zcl,hcs];omega);rw[<-hcur]at this;rw[show(i+1)*4=i*4+4 by omega,show(xs.length+1)*4=xs.length*4+4 by omega];exact this
  · intro e he;rw[zbd,zaS]at he;rcases he with he|rfl|he
    · exact hok e (zbk he)
    · exact hx
    · exact hok e (zbl he)
  · rw[<-hW1];simpa using hbw
  · rw[<-hW1];rfl
  · rw[<-hW1];rfl
  · rw[<-hW1];rfl
  · rw[<-hW1];simp
  · intro k hk hne';have hkg:k≠g:=fun e=>hne' (by rw[e];rfl);rw[setRow_other W1 g k _ hkg,<-hW1,setRow_other w.drew g k _ hkg];rfl
 have HFIN:=zaa hfin;have hz2:¬ ((i:Int)=(xs.length:Int)):=by omega
 have hw1:IntKind.i64.wrap ((i:Int)+1)=(i:Int)+1:=by rw[IntKind.wrap_i64];omega
 have hb1:(0:Int)<=(i:Int)+1:=by omega
 have hin:i<=xs.length:=by omega
 have htn:((i:Int)+1).toNat=i+1:=by omega
 have hb2:¬ (cap=i+1):=by omega
 have hb3:(i:Int)<=(xs.length:Int)+1:=by omega
 have hb4:¬ (cap=i):=by omega
 rw[hW1]at hcp1;clear hC hCl hC1 htake hdl hcell hR1 hR1l hg1 hvb1 hfin hok hx hcs hg hvb;go_enter Tryz.func66,Tryz.ntmps66
 go_wp2_with (simp only[hov])
 go_region_law (refine iC rfl (.tmp 73) (.tmp 76) 42 42 rfl _ _ (by simp[Act.eval,Act.put]) (by simp[Act.eval,Act.put]) (hcp1 _) ?_)
 go_wp2_with (at_builtin;refine gb rfl (.tmp 80) (.tmp 81) 42 42 rfl _ _ rfl rfl (hcp2 _ _) ?_)
 go_ret
 exact HFIN.out
theorem uc(xs:List ab)(x:ab)(i:Nat)(w:World)(vb base g cap:Nat)(cur:Array Value)(hi:i<xs.length)(hl:xs.length<=1000)(hnc:xs.length<=cap)(hroom:cap<xs.length+1)
  (hg:w.heap[g]? =some (.cells cur 44 (0,0))) (htake:cur.toList.take (xs.length*4)=(xs.map ab.cells).flatten) (hok:∀e∈xs,e.wf) (hbw:base<=w.heap.size)
  (hvb:w.heap[vb]? =some (.cells x.cells.toArray 44 (0,0))) (hx:x.wf):
  Calls Tryz.prog 66 #[.slice (some ⟨g,0,none⟩) xs.length cap,.int .i64 (i:Nat),.slice (some ⟨vb,0,none⟩) 1 1] w (jY base w (.slice (some ⟨g,0,none⟩) xs.length cap) (xs.take i++x::xs.drop i)):=by
 obtain⟨ii,z,q1,q2,q3,q4,q5⟩:=lw.info;obtain⟨C,hC⟩:∃C,(xs.map ab.cells).flatten=C:=⟨_,rfl⟩;have hCl:C.length=xs.length*4:=by rw[<-hC,jT]
 have hC1:∀u∈C,u.oneCell'=true:=by rw[<-hC];exact qZ xs
 rw[hC]at htake;have hlt:∀{k:Nat} {o:Obj},w.heap[k]? =some o->k<w.heap.size:=by
  intro k o h;rcases zbF k w.heap.size with h'|h'
  · exact h'
  · rw[zcb h']at h;cases h
 have hgl:=hlt hg;have hvl:=hlt hvb;have hdl:(C.drop (i*4)).length=(xs.length-i)*4:=by rw[zaM,hCl];omega
 have htl:(C.take (i*4)).length=i*4:=by rw[zat,hCl];omega
 have hcell:∀j u,C[j]? =some u->w.cell? ⟨g,j,none⟩=some u:=by
  intro j u hj;rw[cell_of_row w g j _ _ _ hg];have hjl:j<xs.length*4:=by rw[<-hCl];exact(zaT.1 hj).1
  rw[<-htake,zbo,if_pos hjl]at hj;simpa using hj
 have hold:(Builtin.firstCells ii.size i (.slice (some ⟨g,0,none⟩) i cap)).run Tryz.prog w.drew= .ok (C.take (i*4)).toArray w.drew:=by
  rw[q3];exact run_firstCells_some w.drew 4 i ⟨g,0,none⟩ i cap (C.take (i*4)) htl (fun j u hj=>by
   (have e:((⟨g,0,none⟩:Addr).add j)=⟨g,j,none⟩:=by unfold Addr.add;split<;>simp_all);rw[e,zaY];rw[zbo]at hj;split at hj
   · exact hcell j u hj
   · cases hj)
 have hkk:(xs.length:Int)+1-(i:Int)=((xs.length+1-i:Nat):Int):=by omega
 have hik:i+(xs.length+1-i)=xs.length+1:=by omega
 obtain⟨G,hG⟩:∃G,G=grownCap w (xs.length+1) cap 44:=⟨_,rfl⟩;obtain⟨ROW,hROW⟩:∃ROW:Array Value,ROW=(C.take (i*4)).toArray++Builtin.zeroCells z.cells (xs.length+1-i)++Builtin.zeroCells z.cells (G-(xs.length+1)):=⟨_,rfl⟩;have hGn:xs.length+1<=G:=by rw[hG];exact grownCap_ge w _ _ _
 have hGm:G<=maxLen:=by rw[hG];exact grownCap_le_maxLen w _ _ _ (by unfold maxLen;omega)
 have hrz:∀ty,(Builtin.append_ #[42,3] ty #[.slice (some ⟨g,0,none⟩) i cap,.int .i64 ((xs.length:Int)+1-(i:Int))]).run Tryz.prog w=
   .ok (.slice (some ⟨w.heap.size,0,none⟩) (xs.length+1) G) (w.drew.alloc (.cells ROW 44)):=fun ty=>by
  have h:=Lib.run_append_grow_zeros (P:=Tryz.prog) w 42 3 ty 44 ii z .i64 .i64 Tryz.underlying42 Tryz.underlying3 q1 q2 (some ⟨g,0,none⟩) i cap (C.take (i*4)) hold (xs.length+1-i) (by omega) (by omega) (by omega) (by omega) (by rw[q4];omega) (by rw[q4,hik];exact growslice_fits hroom (by omega));rw[hik,<-hG,<-hROW]at h;rw[hkk];exact h
 have hRl:ROW.size=G*4:=by
  rw[hROW];simp only[Array.size_append,zbx,htl,size_zeroCells,q5];omega
 have hRt:ROW.toList.take (i*4)=C.take (i*4):=by
  rw[hROW,Array.toList_append,Array.toList_append,zbm,zbg (by rw[zaE,htl];exact zab _),zaE,zaO (by rw[htl];exact zab _)]
 obtain⟨W1,hW1⟩:∃W1,w.drew.alloc (.cells ROW 44)=W1:=⟨_,rfl⟩;rw[hW1]at hrz;have hN:W1.heap[w.heap.size]? =some (.cells ROW 44 (0,0)):=by rw[<-hW1];exact heap_alloc_new w.drew _
 have hvb1:W1.heap[vb]? =some (.cells x.cells.toArray 44 (0,0)):=by rw[<-hW1];exact(zbf w.drew _ vb hvl).trans hvb
 have hg1:W1.heap[g]? =some (.cells cur 44 (0,0)):=by rw[<-hW1];exact(zbf w.drew _ g hgl).trans hg
 have hcpA:∀ty dc,(Builtin.copy_ #[42,42] ty #[.slice (some ⟨w.heap.size,i*4,none⟩) (xs.length+1-i) dc,.slice (some ⟨vb,0,none⟩) 1 1]).run Tryz.prog W1= .ok (goInt (Nat.min 1 (xs.length+1-i))) (W1.setRow w.heap.size (splice ROW.toList (i*4) x.cells).toArray):=fun ty dc=>by
  have:=eJ (P:=Tryz.prog) W1 42 42 ty 44 4 w.heap.size (i*4) (xs.length+1-i) dc ⟨vb,0,none⟩ 1 1 ROW 44 x.cells Tryz.underlying42 iE hN
   (by show 4=_;simp only[Nat.min_def];split<;>omega)
   (fun j u hj=>by
    (have e:((⟨vb,0,none⟩:Addr).add j)=⟨vb,j,none⟩:=by unfold Addr.add;split<;>simp_all);rw[e,cell_of_row W1 vb j _ _ _ hvb1]
    simpa using hj)
   (by show _+4<=_;omega) (fun u hu=>by simp[ab.cells]at hu;rcases hu with rfl|rfl|rfl|rfl<;>rfl)
  exact this
 obtain⟨R2,hR2⟩:∃R2,splice ROW.toList (i*4) x.cells=R2:=⟨_,rfl⟩;have hRt':ROW.toList.length=ROW.size:=zcl;have hR2l:R2.length=G*4:=by
  rw[<-hR2,length_splice _ _ _ (by show _+4<=_;omega)];omega
 rw[hR2]at hcpA;obtain⟨W2,hW2⟩:∃W2,W1.setRow w.heap.size R2.toArray=W2:=⟨_,rfl⟩;rw[hW2]at hcpA;have hN2:W2.heap[w.heap.size]? =some (.cells R2.toArray 44 (0,0)):=by rw[<-hW2];exact setRow_heap W1 w.heap.size ROW _ _ _ hN
 have hg2:W2.heap[g]? =some (.cells cur 44 (0,0)):=by rw[<-hW2,setRow_other W1 w.heap.size g _ (by omega)];exact hg1
 have hcpB:∀ty dc sc,(Builtin.copy_ #[42,42] ty #[.slice (some ⟨w.heap.size,(i+1)*4,none⟩) (xs.length+1-(i+1)) dc,.slice (some ⟨g,i*4,none⟩) (xs.length-i) sc]).run Tryz.prog W2.drew= .ok (goInt (Nat.min (xs.length-i) (xs.length+1-(i+1)))) (W2.drew.setRow w.heap.size (splice R2 ((i+1)*4) (C.drop (i*4))).toArray):=fun ty dc sc=>by
  have:=eJ (P:=Tryz.prog) W2.drew 42 42 ty 44 4 w.heap.size ((i+1)*4) (xs.length+1-(i+1)) dc ⟨g,i*4,none⟩ (xs.length-i) sc R2.toArray 44 (C.drop (i*4)) Tryz.underlying42 iE hN2
   (by rw[hdl];simp only[Nat.min_def];split<;>omega)
   (fun j u hj=>by
    (have e:((⟨g,i*4,none⟩:Addr).add j)=⟨g,i*4+j,none⟩:=by unfold Addr.add;split<;>simp_all);rw[e,zaY,cell_of_row W2 g _ _ _ _ hg2,<-cell_of_row w g _ _ _ _ hg]
    exact hcell (i*4+j) u (by rwa[zbI]at hj))
   (by rw[hdl,zbx];omega) (fun u hu=>hC1 u (zbl hu))
  simpa using this
 have hfin:jY base w (.slice (some ⟨g,0,none⟩) xs.length cap) (xs.take i++x::xs.drop i) (.returned (.slice (some ⟨w.heap.size,0,none⟩) (xs.length+1) G)) (W2.drew.setRow w.heap.size (splice R2 ((i+1)*4) (C.drop (i*4))).toArray):=by
  have hlen:(xs.take i++x::xs.drop i).length=xs.length+1:=by simp;omega
  refine⟨_,rfl,OwR.of_flat ?_ ?_ ?_,⟨⟨?_,?_,?_,?_,?_⟩,fun k hk=> ?_⟩⟩
  · rw[hlen];have hfl:((xs.take i++x::xs.drop i).map ab.cells).flatten=C.take (i*4)++(x.cells++C.drop (i*4)):=by
     rw[zbe,zck,zbc,zaU,pb,pc,hC]
    refine⟨by rw[jT,hlen],.inr ⟨w.heap.size,G,_,rfl,hbw,setRow_heap W2.drew w.heap.size R2.toArray _ _ _ hN2,hGn,hGm,?_,?_⟩⟩
    · simp only[zbx];rw[length_splice _ _ _ (by rw[hdl];omega),hR2l]
    · rw[hfl];show(splice R2 ((i+1)*4) (C.drop (i*4))).take _=_;unfold splice;have e1:R2.take ((i+1)*4)=C.take (i*4)++x.cells:=by
       rw[<-hR2];unfold splice;rw[hRt,<-zbm,zbg (by rw[zaq,htl];show _<=_+4;omega),zaO (by rw[zaq,htl];show _+4<=_;omega)]
      rw[e1,<-zbm,zbg (by simp only[zaq,htl,hdl];show _<=_+4+_;omega),zaO (by simp only[zaq,htl,hdl];show _+4+_<=_;omega),zbm]
  · intro e he;rw[zbd,zaS]at he;rcases he with he|rfl|he
    · exact hok e (zbk he)
    · exact hx
    · exact hok e (zbl he)
  · rw[<-hW2,<-hW1];simp;omega
  · rw[<-hW2,<-hW1];rfl
  · rw[<-hW2,<-hW1];rfl
  · rw[<-hW2,<-hW1];rfl
  · rw[<-hW2,<-hW1];simp
  · intro k hk hne';(have hkg:k≠w.heap.size:=by omega);rw[setRow_other W2.drew w.heap.size k _ hkg];show W2.heap[k]? =_;rw[<-hW2,setRow_other W1 w.heap.size k _ hkg,<-hW1];exact zbf w.drew _ k hk
  · injection hk with hk;exact .inr (zbG hk)
 have HFIN:=zaa hfin;have hz2:¬ ((i:Int)=(xs.length:Int)):=by omega
 have hz3:(cap:Int)<(xs.length:Int)+1:=by omega
 have hw1:IntKind.i64.wrap ((i:Int)+1)=(i:Int)+1:=by rw[IntKind.wrap_i64];omega
 have hb1:(0:Int)<=(i:Int)+1:=by omega
 have hin:i<=xs.length:=by omega
 have htn:((i:Int)+1).toNat=i+1:=by omega
 have hGi:¬ (G=i):=by omega
 have hGim:¬ (G=i+1):=by omega
 have hci:¬ (cap=i):=by omega
 have hb3:(i:Int)<=(xs.length:Int):=by omega
 have hG63:G<=9223372036854775807:=by unfold maxLen at hGm;omega
 clear hC hCl hC1 htake hdl hcell hR2 hR2l hg1 hvb1 hfin hok hx hg hvb hkk hik hold hROW hG hRl hRt hRt' hN hN2 hg2 hW1 hW2 htl q1 q2 q3 q4 q5 hGm;go_enter Tryz.func66,Tryz.ntmps66
 go_wp2_with (first
  | (at_builtin;refine Lib.wpList_append_run _ rfl _ _ _ _ rfl _ _ rfl rfl _ _ (hrz _) ?_)
  | (at_builtin;refine gb rfl (.tmp 43) (.tmp 44) 42 42 rfl _ _ rfl rfl (hcpA _ _) ?_))
 go_region_law (refine iC rfl (.tmp 50) (.tmp 53) 42 42 rfl (.slice (some ⟨w.heap.size,(i+1)*4,none⟩) (xs.length+1-(i+1)) (G-(i+1))) (.slice (some ⟨g,i*4,none⟩) (xs.length-i) (cap-i)) (by simp[Act.eval,Act.put]) (by simp[Act.eval,Act.put]) (hcpB 3 (G-(i+1)) (cap-i)) ?_)
 go_wp2
 go_ret
 exact HFIN.out
theorem oY(v:Value)(xs:List ab)(x:ab)(i:Nat)(w:World)(vb base:Nat)(h:OwR aW 44 base w v xs)(hi:i<=xs.length)(hl:xs.length<=1000)
  (hvb:w.heap[vb]? =some (.cells x.cells.toArray 44 (0,0))) (hne:v.ownBlock≠some vb) (hx:x.wf):
  Calls Tryz.prog 66 #[v,.int .i64 (i:Nat),.slice (some ⟨vb,0,none⟩) 1 1] w (jY base w v (xs.take i++x::xs.drop i)):=by
 rcases zbF i xs.length with hlt|hge
 · obtain⟨h1,h2,h3⟩:=OwR.to_flat h;rcases h1.2 with⟨rfl,hn⟩|⟨g,cap,cur,rfl,hbg,hg,hnc,hcm,hcs,htake⟩
   · omega
   · by_cases hroom:xs.length+1<=cap
     · exact sq xs x i w vb base g cap cur hlt hl hroom (by unfold maxLen at hcm;omega) hbg hg hcs htake h2 h3 hvb (fun e=>hne (by rw[e];rfl)) hx
     · exact uc xs x i w vb base g cap cur hlt hl hnc (by omega) hg htake h2 h3 hvb hx
 · (have e:i=xs.length:=by omega);subst e;rw[zaN,List.drop_length];exact wF v xs x w vb base h hl hvb hx
end
end Go.Proofs.YtojojpjldkpmoaaGreatDoor
