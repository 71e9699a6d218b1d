/-
  
-/
import Derived.Test.YtojojpjldkpmoaaGreatDoorGRibS
import Derived.Test.YtojojpjldkpmoaaGreatDoorGIns2
import Derived.Test.YtojojpjldkpmoaaGreatDoorGTaE
import Derived.Test.YtojojpjldkpmoaaGreatDoorGShf
import Derived.Sort.Row
import Derived.Sort.Grow
import Derived.Lib.AppendZeros
import Derived.Test.YtojojpjldkpmoaaGreatDoorGDoB
import Derived.Lib.QuietBelow
set_option linter.unusedVariables false
set_option linter.unusedSimpArgs false
set_option maxHeartbeats 16000000
set_option maxRecDepth 100000
namespace Go.Proofs.YtojojpjldkpmoaaGreatDoor
section
open Go.RowKit Go.Deep
end
section
open Go.RowKit Go.Deep
def hJ(k:Nat)(x:List Value):Prop:=x.length=k/\∀u∈x,u.oneCell'=true
def jz(k:Nat):Rep (List Value):=
 { size:=k,holds:=fun _ _ cs x=>cs=x/\hJ k x,len:=fun h=>by rw[h.1];exact h.2.1,one:=fun h=>by rw[h.1];exact h.2.2,keep:=fun h _ _=>h}
theorem OwR.of_raw{k:Nat}{E base:Nat}{w:World}{v:Value}{xs:List (List Value)}(h:w.ownsRow base E k v xs.length xs.flatten)(hok:∀x∈xs,hJ k x)(hb:base<=w.heap.size):OwR (jz k) E base w v xs:=by
 refine⟨xs,rfl,?_,h,hb⟩;intro i cs x hc hx;rw[hc]at hx;injection hx with hx;subst hx;exact⟨rfl,hok cs (List.mem_of_getElem? hc)⟩
theorem OwR.to_raw{k:Nat}{E base:Nat}{w:World}{v:Value}{xs:List (List Value)}(h:OwR (jz k) E base w v xs):w.ownsRow base E k v xs.length xs.flatten/\(∀x∈xs,hJ k x)/\base<=w.heap.size:=by
 obtain⟨css,g1,g2,g3,g4⟩:=h;have:css=xs:=by
  refine List.ext_getElem g1 fun i hi hi'=> ?_;exact(g2 i css[i] xs[i] (zad hi) (zad hi')).1
 subst this;refine⟨g3,fun x hx=> ?_,g4⟩;obtain⟨i,hi,rfl⟩:=zau hx;exact(g2 i css[i] css[i] (zad hi) (zad hi)).2
theorem OwR.css{α:Type}{r:Rep α}{E base:Nat}{w:World}{v:Value}{xs:List α}(h:OwR r E base w v xs):
  ∃css:List (List Value),css.length=xs.length/\(∀(i:Nat) (cs:List Value) (x:α),css[i]? =some cs->xs[i]? =some x->r.holds w (fun k=>k<w.heap.size/\v.ownBlock≠some k) cs x)/\OwR (jz r.size) E base w v css:=by
 obtain⟨css,g1,g2,g3,g4⟩:=h;refine⟨css,g1,g2,OwR.of_raw (by rw[g1];exact g3) (fun cs hc=> ?_) g4⟩;obtain⟨i,hi,rfl⟩:=zau hc;have hh:=g2 i css[i] (xs[i]'(by omega)) (zad hi) (zad (by omega));exact⟨r.len hh,r.one hh⟩
theorem OwR.of_css{α:Type}{r:Rep α}{E base:Nat}{w:World}{v:Value}{xs:List α}{css:List (List Value)}(h1:css.length=xs.length)
  (h2:∀(i:Nat) (cs:List Value) (x:α),css[i]? =some cs->xs[i]? =some x->r.holds w (fun k=>k<w.heap.size/\v.ownBlock≠some k) cs x) (h:OwR (jz r.size) E base w v css):OwR r E base w v xs:=by
 obtain⟨g1,_,g3⟩:=OwR.to_raw h;exact⟨css,h1,h2,by rw[<-h1];exact g1,g3⟩
theorem iq{k:Nat}:∀{xs:List (List Value)},(∀x∈xs,hJ k x)->xs.flatten.length=xs.length*k
 | [],_=>by simp
 | a::xs,h=>by
   rw[zaU,zaq,(h a (by simp)).1,iq (xs:=xs) (fun x hx=>h x (by simp[hx])),zaD,zco];omega
theorem kB{k:Nat}:∀{xs:List (List Value)},(∀x∈xs,hJ k x)->∀i,(xs.take i).flatten=xs.flatten.take (i*k)
 | [],_,i=>by simp
 | a::xs,h,i=>by
   have ha:=(h a (by simp)).1;cases i with
   | zero=>simp
   | succ i=>
     rw[zbz,zaU,zaU,kB (xs:=xs) (fun x hx=>h x (by simp[hx])),List.take_append,ha,zaO (l:=a) (by rw[ha,zco];omega),show(i+1)*k-k=i*k by rw[zco];omega]
theorem kC{k:Nat}:∀{xs:List (List Value)},(∀x∈xs,hJ k x)->∀i,(xs.drop i).flatten=xs.flatten.drop (i*k)
 | [],_,i=>by simp
 | a::xs,h,i=>by
   have ha:=(h a (by simp)).1;cases i with
   | zero=>simp
   | succ i=>
     rw[zbD,zaU,kC (xs:=xs) (fun x hx=>h x (by simp[hx])),List.drop_append,ha,zbA (l:=a) (by rw[ha,zco];omega),zcf,show(i+1)*k-k=i*k by rw[zco];omega]
theorem qY{k:Nat}{xs:List (List Value)}(h:∀x∈xs,hJ k x):∀u∈xs.flatten,u.oneCell'=true:=by
 intro u hu;obtain⟨l,hl,hu⟩:=List.mem_flatten.1 hu;exact(h l hl).2 u hu
theorem gf:(Tryz.prog.info? 130).map (·.size)=some 5:=by kernel_rfl
def iz(base:Nat)(w:World)(v:Value)(ys:List (List Value))(e:Ending)(w':World):Prop:=
 ∃v',e= .returned v'/\OwR (jz 5) 130 base w' v' ys/\al w v w' v'
theorem Ec{w:World}{vb:Nat}{x:List Value}(hvb:w.heap[vb]? =some (.cells x.toArray 130 (0,0)))(hx:hJ 5 x):Sl (jz 5) w (.slice (some ⟨vb,0,none⟩) 1 1) [x]:=by
 have hlt:vb<w.heap.size:=by
  rcases zbF vb w.heap.size with h|h
  · exact h
  · rw[zcb h]at hvb;cases hvb
 refine⟨some ⟨vb,0,none⟩,1,rfl,zab _,by decide,fun i y hy=> ?_⟩
 match i,hy with
 | 0,hy=>
   simp at hy;subst hy;refine⟨vb,0,x,rfl,hlt,hlt,⟨rfl,hx⟩,fun j u hu=> ?_⟩;simp only[Nat.zero_mul,zbH,zbb];rw[cell_of_row w vb j _ _ _ hvb];simpa using hu
 | i+1,hy=>simp at hy
theorem ud(v:Value)(xs:List (List Value))(x:List Value)(w:World)(vb base:Nat)(h:OwR (jz 5) 130 base w v xs)(hl:xs.length<=1000)
  (hvb:w.heap[vb]? =some (.cells x.toArray 130 (0,0))) (hx:hJ 5 x):
  Calls Tryz.prog 123 #[v,.int .i64 (xs.length:Nat),.slice (some ⟨vb,0,none⟩) 1 1] w (iz base w v (xs++[x])):=by
 have hsl:=Ec hvb hx;have HSL:=zaa hsl;have H:=zaa h;obtain⟨h1,h2,h3⟩:=OwR.to_raw h;have hform:∃A n c,v= .slice A n c/\n=xs.length/\xs.length<=c/\c<=9223372036854775807/\(A=none->c=0)/\(∀a,A=some a->∃g,a=⟨g,0,none⟩):=by
  rcases h1.2 with⟨rfl,hn⟩|⟨g,cap,cur,rfl,_,_,hnc,hcm,_,_⟩
  · exact⟨none,0,0,rfl,hn.symm,(by omega),(by omega),(fun _=>rfl),(fun a ha=>by cases ha)⟩
  · exact⟨some ⟨g,0,none⟩,xs.length,cap,rfl,rfl,hnc,(by unfold maxLen at hcm;omega),(fun e=>by cases e),(fun a ha=>⟨g,by injection ha with ha;exact ha.symm⟩)⟩
 obtain⟨A,n,c,rfl,rfl,hc1,hc2,hA1,hA2⟩:=hform;have HA1:=zaa hA1;have HA2:=zaa hA2;clear h h1 h2 h3 hsl hvb hA1 hA2;rcases A with _|a
 · have hc0:=HA1.out rfl;subst hc0;have hx0:xs=[]:=zaH (by omega);subst hx0;(go_enter Tryz.func123,Tryz.ntmps123);(go_wp2_with (at_builtin;refine bD (base:=base) rfl (.tmp 23) (.tmp 24) rfl ir H.out HSL.out rfl rfl (fun _ _ h=>h) (by simp;decide) (by simp) ?_;intro v1 w1 ho1 hg1 hb1));(go_ret);exact⟨v1,rfl,ho1,al.of_at hg1 hb1⟩
 · obtain⟨g,rfl⟩:=HA2.out _ rfl;(go_enter Tryz.func123,Tryz.ntmps123);(go_wp2_with (at_builtin;refine bD (base:=base) rfl (.tmp 23) (.tmp 24) rfl ir H.out HSL.out rfl rfl (fun _ _ h=>h) (by simp;unfold maxLen;omega) (by simp;omega) ?_;intro v1 w1 ho1 hg1 hb1));all_goals
    (go_ret);exact⟨v1,rfl,ho1,al.of_at hg1 hb1⟩
theorem zj(w:World)(vb g o lb cb:Nat)(cx cur:Array Value)(hvb:w.heap[vb]? =some (.cells cx 130 (0,0)))(hg:w.heap[g]? =some (.cells cur 130 (0,0)))(hne:vb≠g)(hcur:cur.size≠0):
  (callFunc 156 #[.slice (some ⟨vb,0,none⟩) 1 1,.slice (some ⟨g,o,none⟩) lb cb]).run Tryz.prog w= .ok (.value (.bool false)) w:=by
 rw[run_callFunc_extern Tryz.func156 (by kernel_rfl) (by kernel_rfl) (by kernel_rfl) (e:=Extern.SlicesOverlaps.overlaps #[47,47] #[4]) (by kernel_rfl),
  Lib.run_overlaps_apart w 47 4 130 Tryz.underlying47 5 Tryz.sizeOf130 ⟨vb,0,none⟩ ⟨g,o,none⟩ 1 1 lb cb hne 130 130 cx.size cur.size (by simp[World.shape?,hvb]) (by simp[World.shape?,hg]) hcur (by simp[World.frozen?,hvb]) (by simp[World.frozen?,hvb])]
 rfl
theorem p8(xs:List (List Value))(x:List Value)(i:Nat)(w:World)(vb base g cap:Nat)(cur:Array Value)(hi:i<xs.length)(hl:xs.length<=1000)(hroom:xs.length+1<=cap)(hcap:cap<=9223372036854775807)
  (hbg:base<=g) (hg:w.heap[g]? =some (.cells cur 130 (0,0))) (hcs:cur.size=cap*5) (htake:cur.toList.take (xs.length*5)=xs.flatten) (hok:∀e∈xs,hJ 5 e) (hbw:base<=w.heap.size)
  (hvb:w.heap[vb]? =some (.cells x.toArray 130 (0,0))) (hne:vb≠g) (hx:hJ 5 x):
  Calls Tryz.prog 123 #[.slice (some ⟨g,0,none⟩) xs.length cap,.int .i64 (i:Nat),.slice (some ⟨vb,0,none⟩) 1 1] w (iz base w (.slice (some ⟨g,0,none⟩) xs.length cap) (xs.take i++x::xs.drop i)):=by
 obtain⟨C,hC⟩:∃C,xs.flatten=C:=⟨_,rfl⟩;have hCl:C.length=xs.length*5:=by rw[<-hC,iq hok]
 have hC1:∀u∈C,u.oneCell'=true:=by rw[<-hC];exact qY hok
 rw[hC]at htake;have hov:=fun lb cb=>zj w vb g ((i+1)*5) lb cb _ cur hvb hg hne (by omega);have hdl:(C.drop (i*5)).length=(xs.length-i)*5:=by rw[zaM,hCl];omega
 have hcell:∀j u,C[j]? =some u->w.cell? ⟨g,j,none⟩=some u:=by
  intro j u hj;rw[cell_of_row w g j _ _ _ hg];have hjl:j<xs.length*5:=by rw[<-hCl];exact(zaT.1 hj).1
  rw[<-htake,zbo,if_pos hjl]at hj;simpa using hj
 have hcp1:∀ty,(Builtin.copy_ #[47,47] ty #[.slice (some ⟨g,(i+1)*5,none⟩) (xs.length+1-(i+1)) (cap-(i+1)),.slice (some ⟨g,i*5,none⟩) (xs.length+1-i) (cap-i)]).run Tryz.prog w.drew= .ok (goInt (Nat.min (xs.length+1-i) (xs.length+1-(i+1)))) (w.drew.setRow g (splice cur.toList ((i+1)*5) (C.drop (i*5))).toArray):=fun ty=>
  eJ w.drew _ _ ty 130 5 g ((i+1)*5) _ _ ⟨g,i*5,none⟩ _ _ cur 130 (C.drop (i*5)) Tryz.underlying47 gf hg
   (by rw[hdl];simp only[Nat.min_def];split<;>omega)
   (fun j u hj=>by
    (have e:((⟨g,i*5,none⟩:Addr).add j)=⟨g,i*5+j,none⟩:=by unfold Addr.add;split<;>simp_all);rw[e,zaY]
    exact hcell (i*5+j) u (by rwa[zbI]at hj))
   (by rw[hdl,hcs];omega) (fun u hu=>hC1 u (zbl hu))
 obtain⟨R1,hR1⟩:∃R1,splice cur.toList ((i+1)*5) (C.drop (i*5))=R1:=⟨_,rfl⟩;have hR1l:R1.length=cap*5:=by
  have hct:cur.toList.length=cur.size:=zcl;rw[<-hR1,length_splice _ _ _ (by rw[hdl];omega)];omega
 rw[hR1]at hcp1;obtain⟨W1,hW1⟩:∃W1,w.drew.setRow g R1.toArray=W1:=⟨_,rfl⟩;have hg1:W1.heap[g]? =some (.cells R1.toArray 130 (0,0)):=by rw[<-hW1];exact setRow_heap w.drew g cur _ _ _ hg
 have hvb1:W1.heap[vb]? =some (.cells x.toArray 130 (0,0)):=by rw[<-hW1,setRow_other w.drew g vb _ hne];exact hvb
 have hcp2:∀ty dc,(Builtin.copy_ #[47,47] ty #[.slice (some ⟨g,i*5,none⟩) (xs.length+1-i) dc,.slice (some ⟨vb,0,none⟩) 1 1]).run Tryz.prog W1= .ok (goInt (Nat.min 1 (xs.length+1-i))) (W1.setRow g (splice R1 (i*5) x).toArray):=fun ty dc=>by
  have:=eJ (P:=Tryz.prog) W1 47 47 ty 130 5 g (i*5) (xs.length+1-i) dc ⟨vb,0,none⟩ 1 1 R1.toArray 130 x Tryz.underlying47 gf hg1
   (by rw[hx.1];simp only[Nat.min_def];split<;>omega)
   (fun j u hj=>by
    (have e:((⟨vb,0,none⟩:Addr).add j)=⟨vb,j,none⟩:=by unfold Addr.add;split<;>simp_all);rw[e,cell_of_row W1 vb j _ _ _ hvb1]
    simpa using hj)
   (by rw[hx.1];simp[hR1l];omega) (fun u hu=>hx.2 u hu)
  simpa using this
 have hfin:iz base w (.slice (some ⟨g,0,none⟩) xs.length cap) (xs.take i++x::xs.drop i) (.returned (.slice (some ⟨g,0,none⟩) (xs.length+1) cap)) (W1.setRow g (splice R1 (i*5) x).toArray):=by
  have hlen:(xs.take i++x::xs.drop i).length=xs.length+1:=by simp;omega
  have hall:∀e∈xs.take i++x::xs.drop i,hJ 5 e:=by
   intro e he;rw[zbd,zaS]at he;rcases he with he|rfl|he
   · exact hok e (zbk he)
   · exact hx
   · exact hok e (zbl he)
  refine⟨_,rfl,OwR.of_raw ?_ ?_ ?_,⟨⟨?_,?_,?_,?_,?_⟩,fun k hk=> .inl hk⟩⟩
  · rw[hlen];have hfl:(xs.take i++x::xs.drop i).flatten=C.take (i*5)++(x++C.drop (i*5)):=by
     rw[zck,zaU,kB hok,kC hok,hC]
    refine⟨by rw[iq hall,hlen],.inr ⟨g,cap,_,rfl,hbg,setRow_heap W1 g R1.toArray _ _ _ hg1,hroom,by unfold maxLen;omega,?_,?_⟩⟩
    · simp only[zbx];rw[length_splice _ _ _ (by rw[hx.1];omega),hR1l]
    · rw[hfl,<-hR1];(have hcur:cur.toList=C++cur.toList.drop (xs.length*5):=by rw[<-htake,zcp]);have:=nS C (cur.toList.drop (xs.length*5)) x (i*5) 5 (xs.length*5) hCl hx.1 (by omega) (by rw[zaM,zcl,hcs];omega);rw[<-hcur]at this;rw[show(i+1)*5=i*5+5 by omega,show(xs.length+1)*5=xs.length*5+5 by omega];exact this
  · intro e he;rw[zbd,zaS]at he;rcases he with he|rfl|he
    · exact hok e (zbk he)
    · exact hx
    · exact hok e (zbl he)
  · rw[<-hW1];simpa using hbw
  · rw[<-hW1];rfl
  · rw[<-hW1];rfl
  · rw[<-hW1];rfl
  · rw[<-hW1];simp
  · intro k hk hne';have hkg:k≠g:=fun e=>hne' (by rw[e];rfl);rw[setRow_other W1 g k _ hkg,<-hW1,setRow_other w.drew g k _ hkg];rfl
 have HFIN:=zaa hfin;have hz2:¬ ((i:Int)=(xs.length:Int)):=by omega
 have hw1:IntKind.i64.wrap ((i:Int)+1)=(i:Int)+1:=by rw[IntKind.wrap_i64];omega
 have hb1:(0:Int)<=(i:Int)+1:=by omega
 have hin:i<=xs.length:=by omega
 have htn:((i:Int)+1).toNat=i+1:=by omega
 have hb2:¬ (cap=i+1):=by omega
 have hb3:(i:Int)<=(xs.length:Int)+1:=by omega
 have hb4:¬ (cap=i):=by omega
 rw[hW1]at hcp1;clear hC hCl hC1 htake hdl hcell hR1 hR1l hg1 hvb1 hfin hok hx hcs hg hvb;go_enter Tryz.func123,Tryz.ntmps123
 go_wp2_with (simp only[hov])
 go_region_law (refine iC rfl (.tmp 73) (.tmp 76) 47 47 rfl _ _ (by simp[Act.eval,Act.put]) (by simp[Act.eval,Act.put]) (hcp1 _) ?_)
 go_wp2_with (at_builtin;refine gb rfl (.tmp 80) (.tmp 81) 47 47 rfl _ _ rfl rfl (hcp2 _ _) ?_)
 go_ret
 exact HFIN.out
theorem sr(xs:List (List Value))(x:List Value)(i:Nat)(w:World)(vb base g cap:Nat)(cur:Array Value)(hi:i<xs.length)(hl:xs.length<=1000)(hnc:xs.length<=cap)(hroom:cap<xs.length+1)
  (hg:w.heap[g]? =some (.cells cur 130 (0,0))) (htake:cur.toList.take (xs.length*5)=xs.flatten) (hok:∀e∈xs,hJ 5 e) (hbw:base<=w.heap.size)
  (hvb:w.heap[vb]? =some (.cells x.toArray 130 (0,0))) (hx:hJ 5 x):
  Calls Tryz.prog 123 #[.slice (some ⟨g,0,none⟩) xs.length cap,.int .i64 (i:Nat),.slice (some ⟨vb,0,none⟩) 1 1] w (iz base w (.slice (some ⟨g,0,none⟩) xs.length cap) (xs.take i++x::xs.drop i)):=by
 obtain⟨ii,z,q1,q2,q3,q4,q5⟩:=ir.info;obtain⟨C,hC⟩:∃C,xs.flatten=C:=⟨_,rfl⟩;have hCl:C.length=xs.length*5:=by rw[<-hC,iq hok]
 have hC1:∀u∈C,u.oneCell'=true:=by rw[<-hC];exact qY hok
 rw[hC]at htake;have hlt:∀{k:Nat} {o:Obj},w.heap[k]? =some o->k<w.heap.size:=by
  intro k o h;rcases zbF k w.heap.size with h'|h'
  · exact h'
  · rw[zcb h']at h;cases h
 have hgl:=hlt hg;have hvl:=hlt hvb;have hdl:(C.drop (i*5)).length=(xs.length-i)*5:=by rw[zaM,hCl];omega
 have htl:(C.take (i*5)).length=i*5:=by rw[zat,hCl];omega
 have hcell:∀j u,C[j]? =some u->w.cell? ⟨g,j,none⟩=some u:=by
  intro j u hj;rw[cell_of_row w g j _ _ _ hg];have hjl:j<xs.length*5:=by rw[<-hCl];exact(zaT.1 hj).1
  rw[<-htake,zbo,if_pos hjl]at hj;simpa using hj
 have hold:(Builtin.firstCells ii.size i (.slice (some ⟨g,0,none⟩) i cap)).run Tryz.prog w.drew= .ok (C.take (i*5)).toArray w.drew:=by
  rw[q3];exact run_firstCells_some w.drew 5 i ⟨g,0,none⟩ i cap (C.take (i*5)) htl (fun j u hj=>by
   (have e:((⟨g,0,none⟩:Addr).add j)=⟨g,j,none⟩:=by unfold Addr.add;split<;>simp_all);rw[e,zaY];rw[zbo]at hj;split at hj
   · exact hcell j u hj
   · cases hj)
 have hkk:(xs.length:Int)+1-(i:Int)=((xs.length+1-i:Nat):Int):=by omega
 have hik:i+(xs.length+1-i)=xs.length+1:=by omega
 obtain⟨G,hG⟩:∃G,G=grownCap w (xs.length+1) cap 130:=⟨_,rfl⟩;obtain⟨ROW,hROW⟩:∃ROW:Array Value,ROW=(C.take (i*5)).toArray++Builtin.zeroCells z.cells (xs.length+1-i)++Builtin.zeroCells z.cells (G-(xs.length+1)):=⟨_,rfl⟩;have hGn:xs.length+1<=G:=by rw[hG];exact grownCap_ge w _ _ _
 have hGm:G<=maxLen:=by rw[hG];exact grownCap_le_maxLen w _ _ _ (by unfold maxLen;omega)
 have hrz:∀ty,(Builtin.append_ #[47,3] ty #[.slice (some ⟨g,0,none⟩) i cap,.int .i64 ((xs.length:Int)+1-(i:Int))]).run Tryz.prog w=
   .ok (.slice (some ⟨w.heap.size,0,none⟩) (xs.length+1) G) (w.drew.alloc (.cells ROW 130)):=fun ty=>by
  have h:=Lib.run_append_grow_zeros (P:=Tryz.prog) w 47 3 ty 130 ii z .i64 .i64 Tryz.underlying47 Tryz.underlying3 q1 q2 (some ⟨g,0,none⟩) i cap (C.take (i*5)) hold (xs.length+1-i) (by omega) (by omega) (by omega) (by omega) (by rw[q4];omega) (by rw[q4,hik];exact growslice_fits hroom (by omega));rw[hik,<-hG,<-hROW]at h;rw[hkk];exact h
 have hRl:ROW.size=G*5:=by
  rw[hROW];simp only[Array.size_append,zbx,htl,size_zeroCells,q5];omega
 have hRt:ROW.toList.take (i*5)=C.take (i*5):=by
  rw[hROW,Array.toList_append,Array.toList_append,zbm,zbg (by rw[zaE,htl];exact zab _),zaE,zaO (by rw[htl];exact zab _)]
 obtain⟨W1,hW1⟩:∃W1,w.drew.alloc (.cells ROW 130)=W1:=⟨_,rfl⟩;rw[hW1]at hrz;have hN:W1.heap[w.heap.size]? =some (.cells ROW 130 (0,0)):=by rw[<-hW1];exact heap_alloc_new w.drew _
 have hvb1:W1.heap[vb]? =some (.cells x.toArray 130 (0,0)):=by rw[<-hW1];exact(zbf w.drew _ vb hvl).trans hvb
 have hg1:W1.heap[g]? =some (.cells cur 130 (0,0)):=by rw[<-hW1];exact(zbf w.drew _ g hgl).trans hg
 have hcpA:∀ty dc,(Builtin.copy_ #[47,47] ty #[.slice (some ⟨w.heap.size,i*5,none⟩) (xs.length+1-i) dc,.slice (some ⟨vb,0,none⟩) 1 1]).run Tryz.prog W1= .ok (goInt (Nat.min 1 (xs.length+1-i))) (W1.setRow w.heap.size (splice ROW.toList (i*5) x).toArray):=fun ty dc=>by
  have:=eJ (P:=Tryz.prog) W1 47 47 ty 130 5 w.heap.size (i*5) (xs.length+1-i) dc ⟨vb,0,none⟩ 1 1 ROW 130 x Tryz.underlying47 gf hN
   (by rw[hx.1];simp only[Nat.min_def];split<;>omega)
   (fun j u hj=>by
    (have e:((⟨vb,0,none⟩:Addr).add j)=⟨vb,j,none⟩:=by unfold Addr.add;split<;>simp_all);rw[e,cell_of_row W1 vb j _ _ _ hvb1]
    simpa using hj)
   (by rw[hx.1];omega) (fun u hu=>hx.2 u hu)
  exact this
 obtain⟨R2,hR2⟩:∃R2,splice ROW.toList (i*5) x=R2:=⟨_,rfl⟩;have hRt':ROW.toList.length=ROW.size:=zcl;have hR2l:R2.length=G*5:=by
  rw[<-hR2,length_splice _ _ _ (by rw[hx.1];omega)];omega
 rw[hR2]at hcpA;obtain⟨W2,hW2⟩:∃W2,W1.setRow w.heap.size R2.toArray=W2:=⟨_,rfl⟩;rw[hW2]at hcpA;have hN2:W2.heap[w.heap.size]? =some (.cells R2.toArray 130 (0,0)):=by rw[<-hW2];exact setRow_heap W1 w.heap.size ROW _ _ _ hN
 have hg2:W2.heap[g]? =some (.cells cur 130 (0,0)):=by rw[<-hW2,setRow_other W1 w.heap.size g _ (by omega)];exact hg1
 have hcpB:∀ty dc sc,(Builtin.copy_ #[47,47] ty #[.slice (some ⟨w.heap.size,(i+1)*5,none⟩) (xs.length+1-(i+1)) dc,.slice (some ⟨g,i*5,none⟩) (xs.length-i) sc]).run Tryz.prog W2.drew= .ok (goInt (Nat.min (xs.length-i) (xs.length+1-(i+1)))) (W2.drew.setRow w.heap.size (splice R2 ((i+1)*5) (C.drop (i*5))).toArray):=fun ty dc sc=>by
  have:=eJ (P:=Tryz.prog) W2.drew 47 47 ty 130 5 w.heap.size ((i+1)*5) (xs.length+1-(i+1)) dc ⟨g,i*5,none⟩ (xs.length-i) sc R2.toArray 130 (C.drop (i*5)) Tryz.underlying47 gf hN2
   (by rw[hdl];simp only[Nat.min_def];split<;>omega)
   (fun j u hj=>by
    (have e:((⟨g,i*5,none⟩:Addr).add j)=⟨g,i*5+j,none⟩:=by unfold Addr.add;split<;>simp_all);rw[e,zaY,cell_of_row W2 g _ _ _ _ hg2,<-cell_of_row w g _ _ _ _ hg]
    exact hcell (i*5+j) u (by rwa[zbI]at hj))
   (by rw[hdl,zbx];omega) (fun u hu=>hC1 u (zbl hu))
  simpa using this
 have hfin:iz base w (.slice (some ⟨g,0,none⟩) xs.length cap) (xs.take i++x::xs.drop i) (.returned (.slice (some ⟨w.heap.size,0,none⟩) (xs.length+1) G)) (W2.drew.setRow w.heap.size (splice R2 ((i+1)*5) (C.drop (i*5))).toArray):=by
  have hlen:(xs.take i++x::xs.drop i).length=xs.length+1:=by simp;omega
  have hall:∀e∈xs.take i++x::xs.drop i,hJ 5 e:=by
   intro e he;rw[zbd,zaS]at he;rcases he with he|rfl|he
   · exact hok e (zbk he)
   · exact hx
   · exact hok e (zbl he)
  refine⟨_,rfl,OwR.of_raw ?_ ?_ ?_,⟨⟨?_,?_,?_,?_,?_⟩,fun k hk=> ?_⟩⟩
  · rw[hlen];have hfl:(xs.take i++x::xs.drop i).flatten=C.take (i*5)++(x++C.drop (i*5)):=by
     rw[zck,zaU,kB hok,kC hok,hC]
    refine⟨by rw[iq hall,hlen],.inr ⟨w.heap.size,G,_,rfl,hbw,setRow_heap W2.drew w.heap.size R2.toArray _ _ _ hN2,hGn,hGm,?_,?_⟩⟩
    · simp only[zbx];rw[length_splice _ _ _ (by rw[hdl];omega),hR2l]
    · rw[hfl];show(splice R2 ((i+1)*5) (C.drop (i*5))).take _=_;unfold splice;have e1:R2.take ((i+1)*5)=C.take (i*5)++x:=by
       rw[<-hR2];unfold splice;rw[hRt,<-zbm,zbg (by rw[zaq,htl];rw[hx.1];omega),zaO (by rw[zaq,htl];rw[hx.1];omega)]
      rw[e1,<-zbm,zbg (by simp only[zaq,htl,hdl];rw[hx.1];omega),zaO (by simp only[zaq,htl,hdl];rw[hx.1];omega),zbm]
  · intro e he;rw[zbd,zaS]at he;rcases he with he|rfl|he
    · exact hok e (zbk he)
    · exact hx
    · exact hok e (zbl he)
  · rw[<-hW2,<-hW1];simp;omega
  · rw[<-hW2,<-hW1];rfl
  · rw[<-hW2,<-hW1];rfl
  · rw[<-hW2,<-hW1];rfl
  · rw[<-hW2,<-hW1];simp
  · intro k hk hne';(have hkg:k≠w.heap.size:=by omega);rw[setRow_other W2.drew w.heap.size k _ hkg];show W2.heap[k]? =_;rw[<-hW2,setRow_other W1 w.heap.size k _ hkg,<-hW1];exact zbf w.drew _ k hk
  · injection hk with hk;exact .inr (zbG hk)
 have HFIN:=zaa hfin;have hz2:¬ ((i:Int)=(xs.length:Int)):=by omega
 have hz3:(cap:Int)<(xs.length:Int)+1:=by omega
 have hw1:IntKind.i64.wrap ((i:Int)+1)=(i:Int)+1:=by rw[IntKind.wrap_i64];omega
 have hb1:(0:Int)<=(i:Int)+1:=by omega
 have hin:i<=xs.length:=by omega
 have htn:((i:Int)+1).toNat=i+1:=by omega
 have hGi:¬ (G=i):=by omega
 have hGim:¬ (G=i+1):=by omega
 have hci:¬ (cap=i):=by omega
 have hb3:(i:Int)<=(xs.length:Int):=by omega
 have hG63:G<=9223372036854775807:=by unfold maxLen at hGm;omega
 clear hC hCl hC1 htake hdl hcell hR2 hR2l hg1 hvb1 hfin hok hx hg hvb hkk hik hold hROW hG hRl hRt hRt' hN hN2 hg2 hW1 hW2 htl q1 q2 q3 q4 q5 hGm;go_enter Tryz.func123,Tryz.ntmps123
 go_wp2_with (first
  | (at_builtin;refine Lib.wpList_append_run _ rfl _ _ _ _ rfl _ _ rfl rfl _ _ (hrz _) ?_)
  | (at_builtin;refine gb rfl (.tmp 43) (.tmp 44) 47 47 rfl _ _ rfl rfl (hcpA _ _) ?_))
 go_region_law (refine iC rfl (.tmp 50) (.tmp 53) 47 47 rfl (.slice (some ⟨w.heap.size,(i+1)*5,none⟩) (xs.length+1-(i+1)) (G-(i+1))) (.slice (some ⟨g,i*5,none⟩) (xs.length-i) (cap-i)) (by simp[Act.eval,Act.put]) (by simp[Act.eval,Act.put]) (hcpB 3 (G-(i+1)) (cap-i)) ?_)
 go_wp2
 go_ret
 exact HFIN.out
theorem mA(v:Value)(xs:List (List Value))(x:List Value)(i:Nat)(w:World)(vb base:Nat)(h:OwR (jz 5) 130 base w v xs)(hi:i<=xs.length)(hl:xs.length<=1000)
  (hvb:w.heap[vb]? =some (.cells x.toArray 130 (0,0))) (hne:v.ownBlock≠some vb) (hx:hJ 5 x):
  Calls Tryz.prog 123 #[v,.int .i64 (i:Nat),.slice (some ⟨vb,0,none⟩) 1 1] w (iz base w v (xs.take i++x::xs.drop i)):=by
 rcases zbF i xs.length with hlt|hge
 · obtain⟨h1,h2,h3⟩:=OwR.to_raw h;rcases h1.2 with⟨rfl,hn⟩|⟨g,cap,cur,rfl,hbg,hg,hnc,hcm,hcs,htake⟩
   · omega
   · by_cases hroom:xs.length+1<=cap
     · exact p8 xs x i w vb base g cap cur hlt hl hroom (by unfold maxLen at hcm;omega) hbg hg hcs htake h2 h3 hvb (fun e=>hne (by rw[e];rfl)) hx
     · exact sr xs x i w vb base g cap cur hlt hl hnc (by omega) hg htake h2 h3 hvb hx
 · (have e:i=xs.length:=by omega);subst e;rw[zaN,List.drop_length];exact ud v xs x w vb base h hl hvb hx
end
section
open Go.RowKit Go.Deep Go.Sort
theorem ui{w:World}{g:Nat}{cur:Array Value}{E:TypeId}{fz:Nat × Nat}(h:w.heap[g]? =some (.cells cur E fz))(q:Nat)(ys:Array Int)(os:Array Obj):
  (grow (putRow (Value.int .i64) (Sort.ahead w q) g 0 ys) os).heap[g]? =some (.cells (putCells (Value.int .i64) 0 ys cur) E fz):=by
 have hl:g<w.heap.size:=by
  rcases zbF g w.heap.size with h1|h1
  · exact h1
  · rw[zcb h1]at h;cases h
 have h1:(putRow (Value.int .i64) (Sort.ahead w q) g 0 ys).heap[g]? =some (.cells (putCells (Value.int .i64) 0 ys cur) E fz):=by
  unfold putRow mapBlock;show(Array.modify (Sort.ahead w q).heap g _)[g]? =_;rw[Array.getElem?_modify,if_pos rfl];show Option.map _ w.heap[g]? =_;rw[h];rfl
 show((putRow (Value.int .i64) (Sort.ahead w q) g 0 ys).heap++os)[g]? =_;rw[Array.getElem?_append_left (by rw[size_putRow];exact hl)];exact h1
theorem lm{w:World}{g k:Nat}(hk:k<w.heap.size)(hne:k≠g)(q:Nat)(ys:Array Int)(os:Array Obj):
  (grow (putRow (Value.int .i64) (Sort.ahead w q) g 0 ys) os).heap[k]? =w.heap[k]? :=by
 show((putRow (Value.int .i64) (Sort.ahead w q) g 0 ys).heap++os)[k]? =_;rw[Array.getElem?_append_left (by rw[size_putRow];exact hk)];unfold putRow mapBlock;show(Array.modify (Sort.ahead w q).heap g _)[k]? =_;rw[Array.getElem?_modify,if_neg (fun e=>hne e.symm)];rfl
theorem iN(w:World)(g q:Nat)(ys:Array Int)(os:Array Obj):w.grownBy (grow (putRow (Value.int .i64) (Sort.ahead w q) g 0 ys) os) (some g):=
 ⟨rfl,rfl,rfl,by show _<=((putRow (Value.int .i64) (Sort.ahead w q) g 0 ys).heap++os).size;rw[Array.size_append,size_putRow];show w.heap.size<=w.heap.size+_;omega,fun k hk hne=>lm hk (fun e=>hne (by rw[e])) q ys os⟩
theorem pY{cur:Array Value}{ys:List Int}{m:Nat}(hm:m<=ys.length)(hc:ys.length<=cur.size):(putCells (Value.int .i64) 0 ys.toArray cur).toList.take m=(ys.take m).map (Value.int .i64):=by
 refine List.ext_getElem ?_ fun i h1 h2=> ?_
 · simp[putCells];omega
 · (have hi:i<m:=by simp at h2;omega);(have hiy:i<ys.length:=by omega);rw[zbS,Array.getElem_toList,zbW,zbS];unfold putCells;rw[Array.getElem_mapIdx,if_pos (by simp;omega)];rw[getElem!_pos _ (i-0) (by simpa using hiy)];simp
theorem oL{E base:Nat}{w:World}{v:Value}{xs:List Int}(h:OwR aI E base w v xs):w.ownsRow base E 1 v xs.length (xs.map (Value.int .i64))/\(∀x∈xs,inR x)/\base<=w.heap.size:=by
 obtain⟨h1,h2,h3⟩:=OwR.to_flat h;exact⟨by rw[<-eL];exact h1,h2,h3⟩
theorem ub{E base:Nat}{w:World}{v:Value}{xs:List Int}(h:w.ownsRow base E 1 v xs.length (xs.map (Value.int .i64)))(hr:∀x∈xs,inR x)(hb:base<=w.heap.size):OwR aI E base w v xs:=
 OwR.of_flat (by rw[<-eL]at h;exact h) hr hb
theorem xS{E base:Nat}{w:World}{g n cap:Nat}{xs:List Int}(h:OwR aI E base w (.slice (some ⟨g,0,none⟩) n cap) xs)(ys:List Int)(m q:Nat)(os:Array Obj)(hy:ys.length=xs.length)(hm:m<=ys.length)(hr:∀y∈ys,inR y):
  OwR aI E base (grow (putRow (Value.int .i64) (Sort.ahead w q) g 0 ys.toArray) os) (.slice (some ⟨g,0,none⟩) m cap) (ys.take m):=by
 obtain⟨⟨h0,h1⟩,_,hb⟩:=oL h;rcases h1 with⟨e,_⟩|⟨g',cap',cur,e,hbg,hg,hnc,hcm,hcs,htk⟩
 · cases e
 · injection e with e1 e2 e3;injection e1 with e1;injection e1 with e1 _ _;subst e1 e3;(have hl:(ys.take m).length=m:=by rw[zat];omega);refine ub ⟨by simp,.inr ⟨g,cap,_,by rw[hl],hbg,ui hg q ys.toArray os,by rw[hl];omega,hcm,by simp[putCells,hcs],?_⟩⟩ (fun y hy=>hr y (zbk hy)) (zax hb (iN w g q ys.toArray os).size);rw[hl,Nat.mul_one,pY hm (by omega)]
theorem qC{E base:Nat}{w:World}{g n cap:Nat}{xs:List Int}(h:OwR aI E base w (.slice (some ⟨g,0,none⟩) n cap) xs):Holds (Value.int .i64) w g 0 xs.toArray/\g<w.heap.size/\n=xs.length/\xs.length<=cap/\base<=g:=by
 obtain⟨h1,_,_⟩:=oL h;have hlt:=(h1.lt g rfl).2;have hs:=h.sl (by decide);rcases h1.2 with⟨e,_⟩|⟨g',cap',cur,e,hbg,hg,hnc,hcm,hcs,htk⟩
 · cases e
 · injection e with e1 e2 e3;injection e1 with e1;injection e1 with e1 _ _;subst e1 e2 e3;refine⟨fun j hj=> ?_,hlt,rfl,hnc,hbg⟩;(have hj':j<xs.length:=by simpa using hj);refine⟨?_,h1.frozenAt (0+j)⟩;rw[getElem!_pos _ j hj];exact(hs.int hj').1
theorem zN(n:Nat)(w:World)(hn:n<=1000000):
  Calls Tryz.prog 201 #[.slice none 0 0,.int .i64 (n:Nat)] w fun e w'=>∃v,e= .returned v/\OwR aI 3 w.heap.size w' v []/\Below w.heap.size w w':=by
 by_cases h0:n=0
 · subst h0;(go_enter Tryz.func201,Tryz.ntmps201);(go_wp2_with fail);(go_ret);exact⟨_,rfl,OwR.nil _ _ (zab _),zac _ _⟩
 · obtain⟨ii,z,q1,q2,q3,q4,q5⟩:=fD.info;(have hpos:(0:Int)<(n:Int):=by omega);(have hnn:¬ ((n:Int)<0):=by omega);obtain⟨G,hG⟩:∃G,G=grownCap w n 0 3:=⟨_,rfl⟩;obtain⟨ROW,hROW⟩:∃ROW:Array Value,ROW=Builtin.zeroCells z.cells n++Builtin.zeroCells z.cells (G-n):=⟨_,rfl⟩;(have hGn:n<=G:=by rw[hG];exact grownCap_ge w _ _ _);(have hGm:G<=maxLen:=by rw[hG];exact grownCap_le_maxLen w _ _ _ (by unfold maxLen;omega));have hrz:∀ty,(Builtin.append_ #[54,3] ty #[.slice none 0 0,.int .i64 (n:Nat)]).run Tryz.prog w= .ok (.slice (some ⟨w.heap.size,0,none⟩) n G) (w.drew.alloc (.cells ROW 3)):=fun ty=>by
    have h:=Lib.run_append_nil_zeros (P:=Tryz.prog) w 54 3 ty 3 ii z .i64 .i64 Tryz.underlying54 Tryz.underlying3 q1 q2 n (by omega) (by omega) (by omega) (by rw[q4];omega);rw[<-hG,<-hROW]at h;exact h
   have hRl:ROW.size=G:=by
    rw[hROW];simp only[Array.size_append,size_zeroCells,q5];omega
   have hown:OwR aI 3 w.heap.size (w.drew.alloc (.cells ROW 3)) (.slice (some ⟨w.heap.size,0,none⟩) 0 G) []:=
    ub ⟨by simp,.inr ⟨w.heap.size,G,ROW,rfl,zab _,heap_alloc_new w.drew _,zap _,hGm,by rw[hRl,Nat.mul_one],by simp⟩⟩ (fun x hx=>by cases hx) (by simp)
   have HOWN:=zaa hown;have HB:=zaa (((zac w.heap.size w).drew).alloc (zab _) (.cells ROW 3));clear hown hRl hROW hG q1 q2 q3 q4 q5;(go_enter Tryz.func201,Tryz.ntmps201);(go_wp2_with (at_builtin;refine Lib.wpList_append_run _ rfl _ _ _ _ rfl _ _ rfl rfl _ _ (hrz _) ?_));(go_ret);exact⟨_,rfl,HOWN.out,HB.out⟩
def xf(xs ys:List Int):Nat->List Int
 | 0=>[]
 | 1=>xs
 | _=>xs++ys
theorem uH(v1 v2:Value)(xs ys:List Int)(B:Nat)(w:World)(h1:Sl aI w v1 xs)(h2:Sl aI w v2 ys)(c1:w.cell? ⟨B,0,none⟩=some v1)(c2:w.cell? ⟨B,1,none⟩=some v2)(hl1:xs.length<=1000)(hl2:ys.length<=1000):
  Calls Tryz.prog 182 #[.slice (some ⟨B,0,none⟩) 2 2] w fun e w'=>∃v,e= .returned v/\OwR aI 3 w.heap.size w' v (xs++ys)/\Below w.heap.size w w':=by
 obtain⟨A1,k1,rfl⟩:=h1.form;obtain⟨A2,k2,rfl⟩:=h2.form;have H1:=zaa h1;have H2:=zaa h2;have C1:=zaa c1;have C2:=zaa c2;clear h1 h2;go_enter Tryz.func182,Tryz.ntmps182
 go_wp2_with fail
 go_loopw [3,11] (fun s i wr=>∃k:Nat,k<=2/\i= .int .i64 k/\s= .int .i64 ((xf xs ys k).length:Nat)/\wr=w) (fun _ i _=>2-(intOf i).toNat)
 case atStart=>exact⟨0,zap _,rfl,rfl,rfl⟩
 case round=>
  obtain⟨k,hk,rfl,rfl,rfl⟩:=hrel;have hcase:k=0∨k=1∨k=2:=by omega
  rcases hcase with rfl|rfl|rfl
  · have hz:((xf xs ys 0).length:Nat)=0:=rfl;rw[hz];(go_wp2_with fail);(go_roundw);(case rel=>exact⟨1,by omega,by first|rfl|go_num,by first|rfl|(show _=Value.int .i64 ((xs.length:Nat):Int);go_num),by first|rfl|trivial⟩);case measure=>simp[intOf]
  · have hz:((xf xs ys 1).length:Nat)=xs.length:=rfl;rw[hz];(have hs:((xs.length:Int)+(ys.length:Int))=(((xs++ys).length:Nat):Int):=by rw[zaq];omega);have HS:=zaa hs;(have hx9:(xs.length:Int)<=1000:=by omega);(have hy9:(ys.length:Int)<=1000:=by omega);clear hs;(go_wp2_with fail);(go_roundw);(case rel=>exact⟨2,by omega,by first|rfl|go_num,by first|rfl|(show _=Value.int .i64 (((xs++ys).length:Nat):Int);rw[<-HS.out]),by first|rfl|trivial⟩);case measure=>simp[intOf]
  · have hz:((xf xs ys 2).length:Nat)=(xs++ys).length:=rfl;rw[hz];obtain⟨W,hW⟩:∃x,x=wr:=⟨_,rfl⟩;subst hW;have HG:=zaa (zN (xs++ys).length W (by rw[zaq];omega));generalize (xs++ys).length=n at HG⊢;(go_wp2_with (go_at_call 201;refine HG.out.mono ?_;rintro e w1 ⟨v1,rfl,ho1,hb1⟩));have HO1:=zaa ho1;have HB1:=zaa hb1;clear ho1 hb1 c1 c2;(go_loopw [6,27] (fun o i wr=>∃k:Nat,k<=2/\i= .int .i64 k/\OwR aI 3 W.heap.size wr o (xf xs ys k)/\Below W.heap.size W wr) (fun _ i _=>2-(intOf i).toNat));(case atStart=>exact⟨0,zap _,rfl,HO1.out,HB1.out⟩);case round=>
     obtain⟨k,hk,rfl,ho,hb⟩:=hrel;have HO:=zaa ho;have HB:=zaa hb;have c1:=aa hb C1.out;have c2:=aa hb C2.out;clear ho hb HO1 HB1;(have hcase:k=0∨k=1∨k=2:=by omega);rcases hcase with rfl|rfl|rfl
     · (go_wp2_with (at_builtin;refine aR (base:=W.heap.size) fD rfl _ _ rfl HO.out (H1.out.below HB.out) (fun _ _ h=>h) rfl rfl (by show 0+xs.length<=_;omega) (by decide) ?_;intro v5 w5 ho5 hg5));(go_roundw);(case rel=>exact⟨1,by omega,by first|rfl|go_num,by simpa [xf]using ho5,HO.out.below_grown HB.out hg5.grown⟩);case measure=>simp[intOf]
     · (go_wp2_with (at_builtin;refine aR (base:=W.heap.size) fD rfl _ _ rfl HO.out (H2.out.below HB.out) (fun _ _ h=>h) rfl rfl (by show xs.length+ys.length<=_;omega) (by decide) ?_;intro v5 w5 ho5 hg5));(go_roundw);(case rel=>exact⟨2,by omega,by first|rfl|go_num,by simpa [xf]using ho5,HO.out.below_grown HB.out hg5.grown⟩);case measure=>simp[intOf]
     · (go_wp2_with fail);(go_ret);exact⟨_,rfl,HO.out,HB.out⟩
theorem wZ(zs:List Int):(Lib.compact zs).length<=zs.length:=Lib.compact_length_le zs
theorem Bs{E base:Nat}{w:World}{v:Value}{xs:List Int}(h:OwR aI E base w v xs):(xs=[]/\∃A c,v= .slice A 0 c)∨(0<xs.length/\∃g c,v= .slice (some ⟨g,0,none⟩) xs.length c):=by
 obtain⟨h1,_,_⟩:=oL h;rcases h1.2 with⟨rfl,hn⟩|⟨g,cap,cur,rfl,_⟩
 · exact .inl ⟨zaH hn,none,0,rfl⟩
 · rcases zaG xs.length with h0|h0
   · exact .inl ⟨zaH h0,some ⟨g,0,none⟩,cap,by rw[h0]⟩
   · exact .inr ⟨h0,g,cap,rfl⟩
theorem wE(v1 v2:Value)(xs ys:List Int)(w:World)(h1:Sl aI w v1 xs)(h2:Sl aI w v2 ys)(hx:∀x∈xs,0<=x/\x<=11)(hy:∀x∈ys,0<=x/\x<=11)(hl1:xs.length<=1000)(hl2:ys.length<=1000):
  Calls Tryz.prog 153 #[v1,v2] w fun e w'=>∃v,e= .returned v/\OwR aI 3 w.heap.size w' v (iX xs ys)/\Below w.heap.size w w':=by
 have hj:=zE hx hy;have hr:∀x∈xs++ys,inR x:=by
  intro x hxy;unfold inR;rcases zbd.1 hxy with h|h
  · have:=hx x h;omega
  · have:=hy x h;omega
 have hal:=(zac w.heap.size w).alloc (zab _) (.cells #[v1,v2] 54);have HC:=zaa (uH v1 v2 xs ys w.heap.size (w.alloc (.cells #[v1,v2] 54)) (h1.below hal) (h2.below hal) (by rw[zah _ _ _ _ rfl];rfl) (by rw[zah _ _ _ _ rfl];rfl) hl1 hl2);have HAL:=zaa hal;have HLN:=zaa (show(xs++ys).length<=2000 by rw[zaq];omega);obtain⟨A1,k1,rfl⟩:=h1.form;obtain⟨A2,k2,rfl⟩:=h2.form;have HJ:=zaa hj;have HR:=zaa hr;clear h1 h2 hal hj hr hx hy;generalize xs++ys=zs at HC HJ HR HLN;go_enter Tryz.func153,Tryz.ntmps153
 go_wp2_with (go_at_call 182;refine HC.out.mono ?_;rintro e w1 ⟨v5,rfl,ho1,hb1⟩;have HO1:=zaa ho1;have HB1:=zaa (HAL.out.trans (hb1.mono HAL.out.size));have HSZ:=zaa (show w.heap.size<=(w.alloc (.cells #[.slice A1 xs.length k1,.slice A2 ys.length k2] 54)).heap.size from HAL.out.size);clear ho1 hb1)
 rcases Bs HO1.out with⟨h0,A,c,rfl⟩|⟨hpos,g,c,rfl⟩
 · subst h0;refine(Tryz.slices_Sort_int_none A c w1).mono ?_;rintro e w' ⟨rfl,rfl⟩;(go_wp2_with (go_at_call 184;refine(Tryz.slices_Compact_int_empty A c w').mono ?_;rintro e w5 ⟨rfl,rfl⟩));(go_ret);(have hnil:([]:List Int)=iX xs ys:=by rw[<-HJ.out];simp[Lib.compact,Lib.compactUpTo]);exact⟨_,rfl,by rw[<-hnil];exact HO1.out.lower HSZ.out,HB1.out⟩
 · obtain⟨k1',k2',-,k4',k5'⟩:=qC HO1.out;obtain⟨S,hS⟩:∃S,S=zs.mergeSort fun x y=>decide (x<=y):=⟨_,rfl⟩;(have hSl:S.length=zs.length:=by rw[hS];exact List.length_mergeSort zs);have hSr:∀x∈S,inR x:=fun x hx=>HR.out x (by rw[hS]at hx;exact List.mem_mergeSort.1 hx);refine(Tryz.slices_Sort_int g 0 c zs w1 k1' k2' (by have:=HLN.out;omega)).mono ?_;rintro e w' ⟨rfl,q,os,hw'⟩;rw[<-hS]at hw';have ho2:=xS HO1.out S S.length q os hSl (zab _) hSr;have hb2:=HB1.out.grown (iN w1 g q S.toArray os) HB1.out.size (fun k hk=>by injection hk with hk;have:=HSZ.out;omega);rw[<-hw',zaN,hSl]at ho2;rw[<-hw']at hb2;have HO2:=zaa ho2;have HB2:=zaa hb2;clear hw' ho2 hb2 k1' k2' HR;obtain⟨m1,m2,-,m4,m5⟩:=qC HO2.out;have hcm:=Tryz.slices_Compact_int g 0 c S w' m1 (by have:=HLN.out;omega) m4;rw[hSl,<-hSl]at hcm;have hcr:∀y∈Lib.compact S++List.replicate (S.length-(Lib.compact S).length) 0,inR y:=by
    intro y hy;rcases zbd.1 hy with h|h
    · exact hSr y (mL.1 h)
    · rw[(List.mem_replicate.1 h).2];unfold inR;omega
   have hcl:=wZ S;obtain⟨Z,hZ⟩:∃Z,Z=Lib.compact S++List.replicate (S.length-(Lib.compact S).length) 0:=⟨_,rfl⟩;rw[<-hZ]at hcr hcm;(have hZl:Z.length=S.length:=by rw[hZ,zaq,List.length_replicate];omega);obtain⟨D,hD⟩:∃D,D=Lib.compact S:=⟨_,rfl⟩;(have hZt:Z.take D.length=D:=by rw[hZ,<-hD,List.take_left]);rw[<-hD]at hcm hcl;have HFIN:=zaa (fun q2=>And.intro (xS HO2.out Z D.length q2 #[] hZl (by omega) hcr) (HB2.out.grown (iN w' g q2 Z.toArray #[]) HB2.out.size (fun k hk=>by injection hk with hk;have:=HSZ.out;omega)));have HZT:=zaa hZt;have HCM:=zaa hcm;rw[hSl]at HCM;have HJ2:=zaa (show D=iX xs ys by rw[hD,hS];exact HJ.out);clear hcm hcr hcl m1 m2 m4 hSr hS hSl HJ hZ hZl hZt hD;(go_wp2_with (go_at_call 184;refine HCM.out.mono ?_;rintro e w5 ⟨rfl,q2,hw5⟩));(go_ret);obtain⟨f1,f2⟩:=HFIN.out q2;rw[grow_empty]at f1 f2;rw[HZT.out]at f1;exact⟨_,rfl,by rw[<-HJ2.out];exact f1.lower HSZ.out,f2⟩
end
section
open Go Go.RowKit Go.Deep
def lbP(l:List af)(p:ae):Nat:=(l.takeWhile fun x=>ak x.pre p).length
def fM(l:List af)(p:ae):Bool:=l.any fun x=>bA x.pre p
theorem AK{α:Type}(P:α->Bool):∀l:List α,(l.takeWhile P).length<=l.length
 | []=>by simp
 | a::r=>by rw[zbr];have:=AK P r;split<;>simp<;>omega
theorem xH{α:Type}(P:α->Bool):∀(l:List α) (i:Nat),i<=l.length->(∀j,(h:j<l.length)->j<i->P l[j]=true)->((h:i<l.length)->P l[i]=false)->(l.takeWhile P).length=i
 | [],i,hi,_,_=>by simp at hi;subst hi;rfl
 | a::r,0,_,_,h2=>by
   have:=h2 (by simp);rw[zbr];simp at this;rw[this];rfl
 | a::r,i+1,hi,h1,h2=>by
   have h0:=h1 0 (by simp) (by omega);simp at h0;rw[zbr,h0];have:=xH P r i (by simpa using hi) (fun j hj hji=>by have:=h1 (j+1) (by simp;omega) (by omega);rw[zag]at this;exact this) (fun h=>by have:=h2 (by simp;omega);rw[zag]at this;exact this);simp[this]
theorem nj{l:List af}(h:aE l){p:ae}{i j:Nat}(hij:i<=j)(hj:j<l.length)(hl:ak l[j].pre p=true):ak (l[i]'(by omega)).pre p=true:=by
 rcases Nat.lt_or_eq_of_le hij with e|e
 · exact ft (zaR.1 h i j (by omega) hj e) hl
 · subst e;exact hl
theorem Em{l:List af}(h:aE l){p:ae}{i:Nat}(hi:i<l.length)(he:l[i].pre=p):lbP l p=i:=by
 refine xH _ l i (by omega) (fun j hj hji=> ?_) (fun _=> ?_)
 · rw[<-he];exact zaR.1 h j i hj hi hji
 · rw[he];exact sf p
theorem ln{l:List af}(h:aE l)(p:ae):fM l p=true↔∃hl:lbP l p<l.length,l[lbP l p].pre=p:=by
 unfold fM;rw[zbp];constructor
 · rintro⟨x,hx,hs⟩;obtain⟨i,hi,rfl⟩:=zau hx;have he:=(aO _ _).1 hs;have:=Em h hi he;exact⟨by omega,by simp only[this];exact he⟩
 · rintro⟨hl,he⟩;exact⟨_,zaw hl,by rw[he];exact iG p⟩
theorem yH:∀{l:List af} {r:af},aE l->fM l r.pre=false->fA l r=l.take (lbP l r.pre)++r::l.drop (lbP l r.pre)
 | [],r,_,_=>rfl
 | x::l,r,hs,hp=>by
   obtain⟨h1,h2⟩:=zaP.1 hs;(have hpx:bA x.pre r.pre=false/\fM l r.pre=false:=by unfold fM at hp⊢;simpa using hp);unfold fA lbP;rw[zbr];by_cases ho:ak x.pre r.pre=true
   · rw[if_pos ho,ho];simp only[if_true,zaD,zbz,zbD,zbX];rw[yH h2 hpx.2];rfl
   · (have ho':ak x.pre r.pre=false:=by simpa using ho);rw[if_neg ho,if_neg (by rw[hpx.1];simp),ho'];rfl
theorem vf:∀{l:List af} {r:af},aE l->fM l r.pre=true->∃h:lbP l r.pre<l.length,l[lbP l r.pre].pre=r.pre/\fA l r=l.set (lbP l r.pre) (fT l[lbP l r.pre] r)
 | [],r,_,hp=>by unfold fM at hp;simp at hp
 | x::l,r,hs,hp=>by
   obtain⟨h1,h2⟩:=zaP.1 hs;by_cases ho:ak x.pre r.pre=true
   · have hne:=Bx ho;(have hp2:fM l r.pre=true:=by unfold fM at hp⊢;rw[List.any_cons,hne,Bool.false_or]at hp;exact hp);obtain⟨hl,he,ha⟩:=vf h2 hp2;(have hlb:lbP (x::l) r.pre=lbP l r.pre+1:=by unfold lbP;rw[zbr,ho];rfl);refine⟨by rw[hlb];simpa using hl,by simp only[hlb];simpa using he,?_⟩;unfold fA;rw[if_pos ho,ha];simp only[hlb,zam,zag]
   · (have ho':ak x.pre r.pre=false:=by simpa using ho);have hsm:bA x.pre r.pre=true:=by
      unfold fM at hp;rw[List.any_cons]at hp;cases hx:bA x.pre r.pre with
      | true=>rfl
      | false=>
        rw[hx,Bool.false_or,zbp]at hp;obtain⟨y,hy,hys⟩:=hp;have h3:=h1 y hy;rw[(aO _ _).1 hys]at h3;rw[ho']at h3;cases h3
     (have hlb:lbP (x::l) r.pre=0:=by unfold lbP;rw[zbr,ho'];rfl);refine⟨by rw[hlb];simp,by simp only[hlb];exact(aO _ _).1 hsm,?_⟩;unfold fA;rw[if_neg ho,if_pos hsm];simp only[hlb,zan,zaf]
theorem d6{a b:ae}(ha:aq a=0)(hb:aq b=0):(dp a b<0↔ak a b=true)/\(dp a b=0↔a=b)/\ -1000<=dp a b/\dp a b<=1000:=by
 have h1:=eH ha;have h2:=eH hb;have hw:∀x:Int,-1000<=x->x<=1000->wrap64 x=x:=by
  intro x h3 h4;unfold wrap64;omega
 unfold dp;by_cases e:a.addr=b.addr
 · rw[if_neg (by simpa using e),hw _ (by omega) (by omega),aF];refine⟨by omega,⟨fun h=> ?_,fun h=>by rw[h];omega⟩,by omega,by omega⟩;cases a;cases b;simp at e h⊢;exact⟨e,by omega⟩
 · rw[if_pos e,hw _ (by omega) (by omega),aF];refine⟨by omega,⟨fun h=>by omega,fun h=>by rw[h]at e;exact absurd rfl e⟩,by omega,by omega⟩
theorem ro(x:af)(p:ae)(v:Value)(w:World)(h:Sl aI w v x.hops):
  Calls Tryz.prog 152 #[x.agg v,.agg #[.int .i64 p.addr,.int .i64 p.bits]] w fun e w'=>e= .returned (.int .i64 (dp x.pre p))/\Below w.heap.size w w':=by
 obtain⟨A,c,rfl⟩:=h.form;obtain⟨hs,hhs⟩:∃l,x.hops=l:=⟨_,rfl⟩;unfold af.agg;rw[hhs];have hb:Below w.heap.size w ((w.alloc (.cells #[.int .i64 x.pre.addr,.int .i64 x.pre.bits,.bool x.here,.int .i64 x.cost,.slice A hs.length c] 130)).alloc (.cells #[.int .i64 p.addr,.int .i64 p.bits] 32)):=((zac _ _).alloc (zab _) _).alloc (by simp) _;have HB:=zaa hb;clear h hhs hb;go_enter Tryz.func152,Tryz.ntmps152
 go_wp2_with fail
 refine(gA x.pre p _).mono ?_;rintro e w1 ⟨rfl,hb1⟩;have HB1:=zaa (HB.out.trans (hb1.mono HB.out.size));clear hb1;go_wp2_with fail
 go_ret
 exact⟨rfl,HB1.out⟩
theorem rm(x:af)(p:ae)(v:Value)(w:World)(h:Sl aI w v x.hops):
  Calls Tryz.prog 121 #[x.agg v,.agg #[.int .i64 p.addr,.int .i64 p.bits]] w fun e w'=>e= .returned (.int .i64 (dp x.pre p))/\Below w.heap.size w w':=by
 obtain⟨A,c,rfl⟩:=h.form;obtain⟨hs,hhs⟩:∃l,x.hops=l:=⟨_,rfl⟩;unfold af.agg;rw[hhs];have hb:Below w.heap.size w ((w.alloc (.cells #[.int .i64 x.pre.addr,.int .i64 x.pre.bits,.bool x.here,.int .i64 x.cost,.slice A hs.length c] 130)).alloc (.cells #[.int .i64 p.addr,.int .i64 p.bits] 32)):=((zac _ _).alloc (zab _) _).alloc (by simp) _;have HB:=zaa hb;clear h hhs hb;go_enter Tryz.func121,Tryz.ntmps121
 go_wp2_with fail
 refine(gA x.pre p _).mono ?_;rintro e w1 ⟨rfl,hb1⟩;have HB1:=zaa (HB.out.trans (hb1.mono HB.out.size));clear hb1;go_wp2_with fail
 go_ret
 exact⟨rfl,HB1.out⟩
theorem qb(v:Value)(xs:List af)(p:ae)(w:World)(h:Sl aB w v xs)(hord:aE xs)(hbad:∀x∈xs,aq x.pre=0)(hp:aq p=0)(hl:xs.length<=1000000):
  Calls Tryz.prog 120 #[v,.agg #[.int .i64 p.addr,.int .i64 p.bits],.func (.func 152) #[] #[]] w fun e w'=>e= .returned (.tuple #[.int .i64 (lbP xs p:Nat),.bool (fM xs p)])/\Below w.heap.size w w':=by
 obtain⟨A,c,rfl⟩:=h.form;have hal:=(zac w.heap.size w).alloc (zab _) (.cells #[.int .i64 p.addr,.int .i64 p.bits] 32);have H:=zaa (h.below hal);have HAL:=zaa hal;have HO:=zaa hord;have HG:=zaa hbad;have HPB:=zaa hp;have q0:(w.alloc (.cells #[.int .i64 p.addr,.int .i64 p.bits] 32)).cell? ⟨w.heap.size,0,none⟩=some (.int .i64 p.addr):=by rw[zah _ _ _ _ rfl];rfl
 have q1:(w.alloc (.cells #[.int .i64 p.addr,.int .i64 p.bits] 32)).cell? ⟨w.heap.size,1,none⟩=some (.int .i64 p.bits):=by rw[zah _ _ _ _ rfl];rfl
 have HQ0:=zaa q0;have HQ1:=zaa q1;have HLT:=zaa (show w.heap.size<(w.alloc (.cells #[.int .i64 p.addr,.int .i64 p.bits] 32)).heap.size by simp);obtain⟨W,hW⟩:∃W,W=w.alloc (.cells #[.int .i64 p.addr,.int .i64 p.bits] 32):=⟨_,rfl⟩;rw[<-hW]at H HAL HQ0 HQ1 HLT;clear h hord hbad hp hal q0 q1;go_enter Tryz.func120,Tryz.ntmps120
 go_wp2_with fail
 rw[<-hW];clear hW;obtain⟨B,hB⟩:∃B,B=w.heap.size:=⟨_,rfl⟩;rw[<-hB]at HQ0 HQ1 HLT;rw[<-hB];clear hB;go_loopw [9,10,11] (fun i j _ wr=>∃lo hi:Nat,i= .int .i64 lo/\j= .int .i64 hi/\lo<=hi/\hi<=xs.length/\Below W.heap.size W wr/\(∀t,(h:t<xs.length)->t<lo->ak xs[t].pre p=true)/\(∀t,(h:t<xs.length)->hi<=t->ak xs[t].pre p=false)) (fun i j _ _=>(intOf j).toNat-(intOf i).toNat)
 case atStart=>exact⟨0,xs.length,rfl,rfl,zap _,zab _,zac _ _,fun t _ ht=>absurd ht (zce _),fun t h1 h2=>by omega⟩
 case round=>
  obtain⟨lo,hi,rfl,rfl,hlh,hin,hBB,hI1,hI2⟩:=hrel;have I1:=zaa hI1;have I2:=zaa hI2;have HBB:=zaa hBB;have p0:=aa hBB HQ0.out;have p1:=aa hBB HQ1.out;clear hI1 hI2 hBB;by_cases hlt:lo<hi
  · obtain⟨md,hmd⟩:∃md,md=(lo+hi)/2:=⟨_,rfl⟩;(have hm:md<xs.length:=by omega);obtain⟨b,off,rfl,hb⟩:=H.out.at_ hm;obtain⟨vh,f1,f2,f3,f4,f5,hs,_⟩:=(H.out.below HBB.out).route hm;obtain⟨y,hy⟩:∃y,xs[md]=y:=⟨_,rfl⟩;rw[hy]at f1 f2 f3 f4 hs;have hyb:=HG.out _ (zaw hm);rw[hy]at hyb;have HCB:=zaa (d6 hyb HPB.out);have Y:=zaa hy;have HHS:=zaa hs;have cS:∀d os,Calls Tryz.prog 152 #[.agg #[.int .i64 y.pre.addr,.int .i64 y.pre.bits,.bool y.here,.int .i64 y.cost,vh],.agg #[.int .i64 p.addr,.int .i64 p.bits]] (Sort.grow (redrawn wr d) os) fun e w''=>e= .returned (.int .i64 (dp y.pre p))/\∃q:Regrown,w''=Sort.grow (redrawn wr q.d) q.os:=fun d os=>Calls.regrown_of (ro y p vh _ (HHS.out.below (below_regrown wr d os)));have l1:=cell_regrown f1;have l2:=cell_regrown f2;have l3:=cell_regrown f3;have l4:=cell_regrown f4;have l5:=cell_regrown f5;have m1:=cell_regrown p0;have m2:=cell_regrown p1;(have hdiv:((lo:Int)+(hi:Int))/2=(((lo+hi)/2:Nat):Int):=by omega);rw[<-hmd]at hdiv;have HMD:=zaa hmd;(have hmb:md<=1000000:=by omega);clear hmd;clear hy hyb hs f1 f2 f3 f4 f5 p0 p1;(go_wp2_with fail);refine wp_region_quiet_below (by kernel_rfl) (by kernel_rfl) ?_;(repeat(quiet_step (fail)));(quiet_step (exact cS _ _));(repeat(quiet_step (fail)));refine wpQuiet_nil ?_;intro _ hw';obtain⟨⟨dq,osq⟩,hw''⟩:=hw';subst hw'';have HB1:=zaa (HBB.out.trans ((below_regrown wr dq osq).mono HBB.out.size));clear cS l1 l2 l3 l4 l5 m1 m2;generalize Sort.grow (redrawn wr dq) osq=w5 at HB1⊢;by_cases hc:dp y.pre p<0
    · have HL:=zaa (HCB.out.1.1 hc);(go_wp2_with fail);(go_roundw);case rel=>
       refine⟨md+1,hi,by first|rfl|go_num,rfl,by have:=HMD.out;omega,hin,HB1.out,fun t ht htl=> ?_,I2.out⟩;exact nj HO.out (by omega) hm (by rw[Y.out];exact HL.out)
      case measure=>have:=HMD.out;simp[intOf];omega
    · have HL:=zaa (show ak y.pre p=false by rw[Bool.eq_false_iff];exact fun e=>hc (HCB.out.1.2 e));(go_wp2_with fail);(go_roundw);case rel=>
       refine⟨lo,md,rfl,by first|rfl|go_num,by have:=HMD.out;omega,by have:=HMD.out;omega,HB1.out,I1.out,fun t ht htl=> ?_⟩;rw[Bool.eq_false_iff];intro e;have:=nj HO.out htl ht e;rw[Y.out,HL.out]at this;cases this
      case measure=>have:=HMD.out;simp[intOf];omega
  · (obtain rfl:lo=hi:=by omega);have hlb:lbP xs p=lo:=xH _ xs lo hin I1.out (fun h=>I2.out lo h (zab _));have HLB:=zaa hlb;clear hlb;by_cases hn:lo<xs.length
    · obtain⟨b,off,rfl,hb⟩:=H.out.at_ hn;obtain⟨vh,f1,f2,f3,f4,f5,hs,_⟩:=(H.out.below HBB.out).route hn;have hhas:=ln HO.out p;simp only[HLB.out]at hhas;obtain⟨y,hy⟩:∃y,xs[lo]=y:=⟨_,rfl⟩;rw[hy]at f1 f2 f3 f4 hs;have hyb:=HG.out _ (zaw hn);rw[hy]at hyb;have hcb:=d6 hyb HPB.out;have HH:=zaa (show fM xs p=(dp y.pre p==0)by
       rw[Bool.eq_iff_iff,hhas,beq_iff_eq,hcb.2.1,<-hy];exact⟨fun⟨_,h⟩=>h,fun h=>⟨hn,h⟩⟩)
      have HHS:=zaa hs;have cS:∀d os,Calls Tryz.prog 152 #[.agg #[.int .i64 y.pre.addr,.int .i64 y.pre.bits,.bool y.here,.int .i64 y.cost,vh],.agg #[.int .i64 p.addr,.int .i64 p.bits]] (Sort.grow (redrawn wr d) os) fun e w''=>e= .returned (.int .i64 (dp y.pre p))/\∃q:Regrown,w''=Sort.grow (redrawn wr q.d) q.os:=fun d os=>Calls.regrown_of (ro y p vh _ (HHS.out.below (below_regrown wr d os)));have l1:=cell_regrown f1;have l2:=cell_regrown f2;have l3:=cell_regrown f3;have l4:=cell_regrown f4;have l5:=cell_regrown f5;have m1:=cell_regrown p0;have m2:=cell_regrown p1;(have hni:(lo:Int)<(xs.length:Int):=by omega);clear hhas hcb hy hyb hs f1 f2 f3 f4 f5 p0 p1;(go_wp2_with fail);refine wp_region_quiet_below (by kernel_rfl) (by kernel_rfl) ?_;(repeat(quiet_step (fail)));(quiet_step (exact cS _ _));(repeat(quiet_step (fail)));refine wpQuiet_nil ?_;intro _ hw';obtain⟨⟨dq,osq⟩,hw''⟩:=hw';subst hw'';have HB1:=zaa (HBB.out.trans ((below_regrown wr dq osq).mono HBB.out.size));clear cS l1 l2 l3 l4 l5 m1 m2;(go_wp2_with fail);(go_ret2);refine⟨?_,HAL.out.trans (HB1.out.mono HAL.out.size)⟩;rw[HLB.out,HH.out];rfl
    · (have hni:¬ (lo:Int)<(xs.length:Int):=by omega);have HH:=zaa (show fM xs p=false by
       rw[Bool.eq_false_iff];intro e;obtain⟨h1,_⟩:=(ln HO.out p).1 e;rw[HLB.out]at h1
       exact hn h1)
      (go_wp2_with fail);(go_quiet (fail));(go_wp2_with fail);(go_ret2);refine⟨by rw[HLB.out,HH.out];rfl,HAL.out.trans ((ag HBB.out _).mono HAL.out.size)⟩
theorem qa(v:Value)(xs:List af)(p:ae)(w:World)(h:Sl aB w v xs)(hord:aE xs)(hbad:∀x∈xs,aq x.pre=0)(hp:aq p=0)(hl:xs.length<=1000000):
  Calls Tryz.prog 120 #[v,.agg #[.int .i64 p.addr,.int .i64 p.bits],.func (.func 121) #[] #[]] w fun e w'=>e= .returned (.tuple #[.int .i64 (lbP xs p:Nat),.bool (fM xs p)])/\Below w.heap.size w w':=by
 obtain⟨A,c,rfl⟩:=h.form;have hal:=(zac w.heap.size w).alloc (zab _) (.cells #[.int .i64 p.addr,.int .i64 p.bits] 32);have H:=zaa (h.below hal);have HAL:=zaa hal;have HO:=zaa hord;have HG:=zaa hbad;have HPB:=zaa hp;have q0:(w.alloc (.cells #[.int .i64 p.addr,.int .i64 p.bits] 32)).cell? ⟨w.heap.size,0,none⟩=some (.int .i64 p.addr):=by rw[zah _ _ _ _ rfl];rfl
 have q1:(w.alloc (.cells #[.int .i64 p.addr,.int .i64 p.bits] 32)).cell? ⟨w.heap.size,1,none⟩=some (.int .i64 p.bits):=by rw[zah _ _ _ _ rfl];rfl
 have HQ0:=zaa q0;have HQ1:=zaa q1;have HLT:=zaa (show w.heap.size<(w.alloc (.cells #[.int .i64 p.addr,.int .i64 p.bits] 32)).heap.size by simp);obtain⟨W,hW⟩:∃W,W=w.alloc (.cells #[.int .i64 p.addr,.int .i64 p.bits] 32):=⟨_,rfl⟩;rw[<-hW]at H HAL HQ0 HQ1 HLT;clear h hord hbad hp hal q0 q1;go_enter Tryz.func120,Tryz.ntmps120
 go_wp2_with fail
 rw[<-hW];clear hW;obtain⟨B,hB⟩:∃B,B=w.heap.size:=⟨_,rfl⟩;rw[<-hB]at HQ0 HQ1 HLT;rw[<-hB];clear hB;go_loopw [9,10,11] (fun i j _ wr=>∃lo hi:Nat,i= .int .i64 lo/\j= .int .i64 hi/\lo<=hi/\hi<=xs.length/\Below W.heap.size W wr/\(∀t,(h:t<xs.length)->t<lo->ak xs[t].pre p=true)/\(∀t,(h:t<xs.length)->hi<=t->ak xs[t].pre p=false)) (fun i j _ _=>(intOf j).toNat-(intOf i).toNat)
 case atStart=>exact⟨0,xs.length,rfl,rfl,zap _,zab _,zac _ _,fun t _ ht=>absurd ht (zce _),fun t h1 h2=>by omega⟩
 case round=>
  obtain⟨lo,hi,rfl,rfl,hlh,hin,hBB,hI1,hI2⟩:=hrel;have I1:=zaa hI1;have I2:=zaa hI2;have HBB:=zaa hBB;have p0:=aa hBB HQ0.out;have p1:=aa hBB HQ1.out;clear hI1 hI2 hBB;by_cases hlt:lo<hi
  · obtain⟨md,hmd⟩:∃md,md=(lo+hi)/2:=⟨_,rfl⟩;(have hm:md<xs.length:=by omega);obtain⟨b,off,rfl,hb⟩:=H.out.at_ hm;obtain⟨vh,f1,f2,f3,f4,f5,hs,_⟩:=(H.out.below HBB.out).route hm;obtain⟨y,hy⟩:∃y,xs[md]=y:=⟨_,rfl⟩;rw[hy]at f1 f2 f3 f4 hs;have hyb:=HG.out _ (zaw hm);rw[hy]at hyb;have HCB:=zaa (d6 hyb HPB.out);have Y:=zaa hy;have HHS:=zaa hs;have cS:∀d os,Calls Tryz.prog 121 #[.agg #[.int .i64 y.pre.addr,.int .i64 y.pre.bits,.bool y.here,.int .i64 y.cost,vh],.agg #[.int .i64 p.addr,.int .i64 p.bits]] (Sort.grow (redrawn wr d) os) fun e w''=>e= .returned (.int .i64 (dp y.pre p))/\∃q:Regrown,w''=Sort.grow (redrawn wr q.d) q.os:=fun d os=>Calls.regrown_of (rm y p vh _ (HHS.out.below (below_regrown wr d os)));have l1:=cell_regrown f1;have l2:=cell_regrown f2;have l3:=cell_regrown f3;have l4:=cell_regrown f4;have l5:=cell_regrown f5;have m1:=cell_regrown p0;have m2:=cell_regrown p1;(have hdiv:((lo:Int)+(hi:Int))/2=(((lo+hi)/2:Nat):Int):=by omega);rw[<-hmd]at hdiv;have HMD:=zaa hmd;(have hmb:md<=1000000:=by omega);clear hmd;clear hy hyb hs f1 f2 f3 f4 f5 p0 p1;(go_wp2_with fail);refine wp_region_quiet_below (by kernel_rfl) (by kernel_rfl) ?_;(repeat(quiet_step (fail)));(quiet_step (exact cS _ _));(repeat(quiet_step (fail)));refine wpQuiet_nil ?_;intro _ hw';obtain⟨⟨dq,osq⟩,hw''⟩:=hw';subst hw'';have HB1:=zaa (HBB.out.trans ((below_regrown wr dq osq).mono HBB.out.size));clear cS l1 l2 l3 l4 l5 m1 m2;generalize Sort.grow (redrawn wr dq) osq=w5 at HB1⊢;by_cases hc:dp y.pre p<0
    · have HL:=zaa (HCB.out.1.1 hc);(go_wp2_with fail);(go_roundw);case rel=>
       refine⟨md+1,hi,by first|rfl|go_num,rfl,by have:=HMD.out;omega,hin,HB1.out,fun t ht htl=> ?_,I2.out⟩;exact nj HO.out (by omega) hm (by rw[Y.out];exact HL.out)
      case measure=>have:=HMD.out;simp[intOf];omega
    · have HL:=zaa (show ak y.pre p=false by rw[Bool.eq_false_iff];exact fun e=>hc (HCB.out.1.2 e));(go_wp2_with fail);(go_roundw);case rel=>
       refine⟨lo,md,rfl,by first|rfl|go_num,by have:=HMD.out;omega,by have:=HMD.out;omega,HB1.out,I1.out,fun t ht htl=> ?_⟩;rw[Bool.eq_false_iff];intro e;have:=nj HO.out htl ht e;rw[Y.out,HL.out]at this;cases this
      case measure=>have:=HMD.out;simp[intOf];omega
  · (obtain rfl:lo=hi:=by omega);have hlb:lbP xs p=lo:=xH _ xs lo hin I1.out (fun h=>I2.out lo h (zab _));have HLB:=zaa hlb;clear hlb;by_cases hn:lo<xs.length
    · obtain⟨b,off,rfl,hb⟩:=H.out.at_ hn;obtain⟨vh,f1,f2,f3,f4,f5,hs,_⟩:=(H.out.below HBB.out).route hn;have hhas:=ln HO.out p;simp only[HLB.out]at hhas;obtain⟨y,hy⟩:∃y,xs[lo]=y:=⟨_,rfl⟩;rw[hy]at f1 f2 f3 f4 hs;have hyb:=HG.out _ (zaw hn);rw[hy]at hyb;have hcb:=d6 hyb HPB.out;have HH:=zaa (show fM xs p=(dp y.pre p==0)by
       rw[Bool.eq_iff_iff,hhas,beq_iff_eq,hcb.2.1,<-hy];exact⟨fun⟨_,h⟩=>h,fun h=>⟨hn,h⟩⟩)
      have HHS:=zaa hs;have cS:∀d os,Calls Tryz.prog 121 #[.agg #[.int .i64 y.pre.addr,.int .i64 y.pre.bits,.bool y.here,.int .i64 y.cost,vh],.agg #[.int .i64 p.addr,.int .i64 p.bits]] (Sort.grow (redrawn wr d) os) fun e w''=>e= .returned (.int .i64 (dp y.pre p))/\∃q:Regrown,w''=Sort.grow (redrawn wr q.d) q.os:=fun d os=>Calls.regrown_of (rm y p vh _ (HHS.out.below (below_regrown wr d os)));have l1:=cell_regrown f1;have l2:=cell_regrown f2;have l3:=cell_regrown f3;have l4:=cell_regrown f4;have l5:=cell_regrown f5;have m1:=cell_regrown p0;have m2:=cell_regrown p1;(have hni:(lo:Int)<(xs.length:Int):=by omega);clear hhas hcb hy hyb hs f1 f2 f3 f4 f5 p0 p1;(go_wp2_with fail);refine wp_region_quiet_below (by kernel_rfl) (by kernel_rfl) ?_;(repeat(quiet_step (fail)));(quiet_step (exact cS _ _));(repeat(quiet_step (fail)));refine wpQuiet_nil ?_;intro _ hw';obtain⟨⟨dq,osq⟩,hw''⟩:=hw';subst hw'';have HB1:=zaa (HBB.out.trans ((below_regrown wr dq osq).mono HBB.out.size));clear cS l1 l2 l3 l4 l5 m1 m2;(go_wp2_with fail);(go_ret2);refine⟨?_,HAL.out.trans (HB1.out.mono HAL.out.size)⟩;rw[HLB.out,HH.out];rfl
    · (have hni:¬ (lo:Int)<(xs.length:Int):=by omega);have HH:=zaa (show fM xs p=false by
       rw[Bool.eq_false_iff];intro e;obtain⟨h1,_⟩:=(ln HO.out p).1 e;rw[HLB.out]at h1
       exact hn h1)
      (go_wp2_with fail);(go_quiet (fail));(go_wp2_with fail);(go_ret2);refine⟨by rw[HLB.out,HH.out];rfl,HAL.out.trans ((ag HBB.out _).mono HAL.out.size)⟩
end
end Go.Proofs.YtojojpjldkpmoaaGreatDoor
