/-
  
-/
import Derived.Test.YtojojpjldkpmoaaGreatDoorGDoL
import Derived.Test.YtojojpjldkpmoaaGreatDoorGStE
import Derived.Test.YtojojpjldkpmoaaGreatDoorGDoB
import Derived.Test.YtojojpjldkpmoaaGreatDoorGOwn
set_option linter.unusedVariables false
set_option linter.unusedSimpArgs false
set_option maxHeartbeats 16000000
set_option maxRecDepth 100000
namespace Go.Proofs.YtojojpjldkpmoaaGreatDoor
open Go Go.RowKit Go.Deep
structure Way where
 cost:Int
 hops:List Int
def pM:Rep Way:=
 { size:=2,holds:=fun w S cs x=>∃v,cs=[.int .i64 x.cost,v]/\SlR aI w S v x.hops/\inR x.cost
   len:=fun⟨v,h,_⟩=>by rw[h];rfl
   one:=fun⟨v,h,⟨A,c,hv,_⟩,_⟩ u hu=>by
    rw[h,hv]at hu;simp at hu;rcases hu with rfl|rfl<;>rfl
   keep:=fun⟨v,h1,h2,h3⟩ k1 k2=>⟨v,h1,h2.keep k1 k2,h3⟩}
theorem Sl.way{w:World}{b off c n:Nat}{xs:List Way}(h:Sl pM w (.slice (some ⟨b,off,none⟩) n c) xs){k:Nat}(hk:k<xs.length):
  ∃v,w.cell? ⟨b,off+k*2,none⟩=some (.int .i64 xs[k].cost)/\w.cell? ⟨b,off+k*2+1,none⟩=some v/\Sl aI w v xs[k].hops/\inR xs[k].cost:=by
 obtain⟨cs,⟨v,rfl,hs,hw⟩,hc⟩:=h.cell hk;exact⟨v,hc 0 _ rfl,hc 1 _ rfl,hs,hw⟩
theorem DB:Elt Tryz.prog 146 152 2 32:=⟨Tryz.underlying146,by
 have h:(Tryz.prog.info? 152).map (fun i=>(i.zero,i.size,i.bytes))=some (some (.agg #[.int .i64 0,.slice none 0 0]),2,32):=by kernel_rfl
 obtain⟨i,h1,h2,h3,h4⟩:=info_parts h
 exact⟨i,_,h1,h2,h3,h4,rfl⟩,by decide⟩
theorem OwR.slF{E base:Nat}{w:World}{v:Value}{xs:List Int}(h:OwR aI E base w v xs):SlR aI w (fun k=>k<w.heap.size/\base<=k) v xs:=by
 obtain⟨A,c,rfl,h1,h2,h3⟩:=h.sl (by decide);refine⟨A,c,rfl,h1,h2,fun i x hx=> ?_⟩;obtain⟨b,off,cs,rfl,hS,hb,hh,hc⟩:=h3 i x hx;exact⟨b,off,cs,rfl,⟨hb,(h.base_le b rfl).1⟩,hb,hh,hc⟩
theorem iA{ops:Array Oper}{rest:List Oper}{o:Oper}{a:Act}{Q:Exit->Act->World->Prop}{w:World}{base:Nat}(hgd:o.guard=none)(s x:Operand)
  (ho:o.op= .call {callee:= .builtin .append,args:= #[s,x],argTypes:= #[146,146]}) {v vh:Value} {xs:List Way} {r:Way} {S:Nat->Prop}
  (hown:OwR pM 152 base w v xs) (hh:SlR aI w S vh r.hops) (hw:inR r.cost) (hS:∀k,S k->k<w.heap.size/\v.ownBlock≠some k) (hs:a.eval s=v)
  {B:Nat} (hx:a.eval x= .slice (some ⟨B,0,none⟩) 1 1) (hB:B=w.heap.size) (hb:xs.length<=1000000)
  (h:∀v' w',OwR pM 152 base w' v' (xs++[r])->al (w.alloc (.cells #[.int .i64 r.cost,vh] 152)) v w' v'->wpList Tryz.prog ops Q rest (a.put o.dst v') w'):
  wpList Tryz.prog ops Q (o::rest) a (w.alloc (.cells #[.int .i64 r.cost,vh] 152)):=
 wpList_plain hgd fun _ hK=>by
  subst hB;have hone:SlR pM (w.alloc (.cells #[.int .i64 r.cost,vh] 152)) (fun k=>S k∨k=w.heap.size) (.slice (some ⟨w.heap.size,0,none⟩) 1 1) [r]:=by
   refine⟨some ⟨w.heap.size,0,none⟩,1,rfl,by simp,by decide,fun i y hy=> ?_⟩
   match i,hy with
   | 0,hy=>
     simp at hy;subst hy;refine⟨w.heap.size,0,[.int .i64 r.cost,vh],rfl,.inr rfl,by simp,⟨vh,rfl,SlR.keep hh (fun k hk=>zbf _ _ _ (hS k hk).1) (fun k hk=> .inl hk),hw⟩,fun j u hu=> ?_⟩;rw[zah _ _ _ _ rfl];simpa using hu
   | i+1,hy=>simp at hy
  obtain⟨v',w',hrun,r2,r3,r4⟩:=bH (ty:=o.type) DB (au hown _) hone (fun cs y hy=>pM.keep hy (fun _ _=>rfl) (fun k hk=>by
   rcases hk with hk|hk
   · have:=hS k hk;exact⟨by simp;omega,this.2⟩
   · subst hk;exact⟨by simp,fun e=>by have:=(hown.base_le _ e).2;omega⟩)) (by unfold maxLen;simp;omega) (by simp;omega)
  unfold Oper.wp execOp;simp only[ho,resolve,invoke,builtin,zbK,zbJ,Result.andThen_ok,zbn,zbc,zbB,hs,hx,hrun];refine hK _ _ (h v' w' r2 ⟨r3,fun k hk=> ?_⟩);rcases r4 with e|e
  · exact .inl (e▸hk)
  · rw[e]at hk;injection hk with hk;exact .inr (zbG hk)
structure iV(w:World)(A:Nat)(c:Int)(o:Value):Prop where
 c0:w.cell? ⟨A,0,none⟩=some (.int .i64 c)
 c1:w.cell? ⟨A,1,none⟩=some o
 fz:∀i,w.frozen? ⟨A,i,none⟩=false
 lt:A<w.heap.size
theorem iV.keep{w w':World}{A:Nat}{d:Int}{o:Value}(h:iV w A d o)(hk:w'.heap[A]? =w.heap[A]?):iV w' A d o:=
 ⟨(zav (w:=w) hk).trans h.c0,(zav (w:=w) hk).trans h.c1,fun i=>(zaK (w:=w) hk).trans (h.fz i),dY h.lt hk⟩
theorem iV.below{w w':World}{A:Nat}{d:Int}{o:Value}(h:iV w A d o)(hb:Below w.heap.size w w'):iV w' A d o:=h.keep (hb.block A h.lt)
theorem iV.set1{w:World}{A:Nat}{d:Int}{o:Value}(h:iV w A d o)(v:Value):iV (w.setCell ⟨A,1,none⟩ v) A d v:=by
 refine⟨?_,?_,fun i=> ?_,by simp[World.setCell];exact h.lt⟩
 · rw[zaj _ _ _ _ (by simp)];exact h.c0
 · exact zaJ w _ v (by rw[h.c1];rfl)
 · rw[zaz];exact h.fz i
theorem iV.set0{w:World}{A:Nat}{d:Int}{o:Value}(h:iV w A d o)(d':Int):iV (w.setCell ⟨A,0,none⟩ (.int .i64 d')) A d' o:=by
 refine⟨?_,?_,fun i=> ?_,by simp[World.setCell];exact h.lt⟩
 · exact zaJ w _ _ (by rw[h.c0];rfl)
 · rw[zaj _ _ _ _ (by simp)];exact h.c1
 · rw[zaz];exact h.fz i
def fW(xs:List ab)(s q:Nat)(c:Int):Nat->List Int
 | 0=>[]
 | k+1=>if gI (fY xs s (k:Int) 12) q=c then fW xs s q c k++[(k:Int)]else fW xs s q c k
def bO(xs:List ab)(s q:Nat)(c:Int)(k:Nat):List Int:=if c<0 then []else fW xs s q c k
def fX(xs:List ab)(s q:Nat):Int:=gI (fY xs s (-1) 12) q
def ax(xs:List ab)(s q:Nat):Way:=if q=s then⟨0,[]⟩else⟨fX xs s q,bO xs s q (fX xs s q) 12⟩
def ex(xs:List ab)(s:Nat)(n:Nat):List Way:=(List.range n).map (ax xs s)
def dP(xs:List ab)(f:Int):List Way × Int:=if aj xs≠0 then([],aj xs)else if decide (0<=f)&&decide (f<=11)then(ex xs f.toNat 12,0)else([],2)
theorem o8(xs:List ab)(s q:Nat)(c:Int):∀k,(fW xs s q c k).length<=k
 | 0=>zab _
 | k+1=>by
   have:=o8 xs s q c k;unfold fW;split
   · simp;omega
   · omega
theorem cR(xs:List ab)(s n:Nat):(ex xs s n).length=n:=by simp[ex]
theorem mq(xs:List ab)(s n:Nat):ex xs s (n+1)=ex xs s n++[ax xs s n]:=by simp[ex,List.range_succ]
def pJ(r:List Way × Int)(w:World)(e:Ending)(w':World):Prop:=∃v,e= .returned (.tuple #[v,.int .i64 r.2])/\Sl pM w' v r.1/\Below w.heap.size w w'
theorem AD{r:List Way × Int}{w w':World}{v:Value}{l:List Way}{n:Int}(h:r=(l,n))(hs:Sl pM w' v l)(hb:Below w.heap.size w w'):pJ r w (.returned (.tuple #[v,.int .i64 n])) w':=⟨v,by rw[h],by rw[h];exact hs,hb⟩
theorem DF(xs:List ab)(s:Nat)(f:Int)(q:Nat): -1<=gI (fY xs s f 12) q/\gI (fY xs s f 12) q<=2000000:=by
 have h:=(rR (C:=bB xs) (D:=fun a=>(aP xs a).1) (s:=s) (fun a b=>ij xs a b) (yj (s:=s) (F:=eW f) (fun a b=>ij xs a b)) 12).2 q;exact⟨h.1,by have:=h.2;show gI (ib _ _ _ _ _) q<=_;omega⟩
theorem xl{w3 w4:World}{A base:Nat}{d:Int}{o v2:Value}{xs:List Int}{ob:Obj}(hA:iV w3 A d o)(ho:OwR aI 3 base w3 o xs)(hg:al (w3.alloc ob) o w4 v2)(h1:A<base):iV w4 A d o:=by
 refine hA.keep ?_;have:=hA.lt;rw[hg.grown.block A (by simp;omega) (fun e=>by have:=(ho.base_le A e.symm).1;omega)];exact zbf _ _ _ hA.lt
theorem vq(v:Value)(xs:List ab)(f:Int)(w:World)(h:Sl aW w v xs)(hv:aj xs=0->∀e∈xs,e.value.size<4294967281)(hE:Env w):
  Calls Tryz.prog 84 #[v,.int .i64 f] w (pJ (dP xs f) w):=by
 have hl:=h.len_le;obtain⟨A,c,rfl⟩:=h.form;have H:=zaa h;have HF:=zaa (gn (.slice A xs.length c) xs w h);have HR:=zaa (fun hc s q f hs hq w' (hb:Below w.heap.size w w')=>y9 (.slice A xs.length c) xs s q f w' (h.below hb) hs hq (hv hc) (hE.below hb));clear h hE hv;by_cases hc:aj xs=0
 · have HR:=zaa (HR.out hc);(have t1:(aj xs==0)=true:=by simp[hc]);(have t2:(aj xs !=0)=false:=by simp[hc]);have HIN:=zaa (fun w=>aU f 0 11 w);rcases hin:(decide (0<=f)&&decide (f<=11))with _|_
   · have HW:=zaa (show dP xs f=([],2)by unfold dP;rw[if_neg (by simp[hc]),hin];rfl);rw[hin]at HIN;clear hc;(go_enter Tryz.func84,Tryz.ntmps84);go_wp2_with (first
      | (go_at_call 75;refine HF.out.mono ?_;rintro e w1 ⟨rfl,hb1⟩)
      | (go_at_call 36;refine(HIN.out _).mono ?_;rintro e w' ⟨rfl,rfl⟩))
     (go_ret2);exact AD HW.out (Sl.nil _ _) hb1
   · obtain⟨s,rfl,hs⟩:∃s:Nat,f=s/\s<12:=by
      simp only[Bool.and_eq_true,decide_eq_true_eq]at hin;exact⟨f.toNat,by omega,by omega⟩
     have HW:=zaa (show dP xs s=(ex xs s 12,0)by unfold dP;rw[if_neg (by simp[hc]),hin];rfl);rw[hin]at HIN;clear hc hin;(go_enter Tryz.func84,Tryz.ntmps84);go_wp2_with (first
      | (go_at_call 75;refine HF.out.mono ?_;rintro e w1 ⟨rfl,hb1⟩)
      | (go_at_call 36;refine(HIN.out _).mono ?_;rintro e w' ⟨rfl,rfl⟩))
     have HB0:=zaa hb1;clear hb1 HF HIN;(go_loopw [7,8] (fun o i wr=>∃k:Nat,k<=12/\i= .int .i64 k/\OwR pM 152 w.heap.size wr o (ex xs s k)/\Below w.heap.size w wr) (fun _ i _=>12-(intOf i).toNat));(case atStart=>exact⟨0,zap _,rfl,OwR.nil _ _ HB0.out.size,HB0.out⟩);case round=>
      obtain⟨q,hq,rfl,ho,hB⟩:=hrel;have HO:=zaa ho;have HB:=zaa hB;clear ho hB HB0;by_cases hlt:q<12
      · (have hqi:(q:Int)<12:=by omega);by_cases hqs:q=s
        · subst hqs;have hbx:iV (wr.alloc (.cells #[.int .i64 0,.slice none 0 0] 152)) wr.heap.size 0 (.slice none 0 0):=by
           refine⟨?_,?_,fun i=>zaL _ _ _ _ rfl,by simp⟩
           · rw[zah _ _ _ _ rfl];rfl
           · rw[zah _ _ _ _ rfl];rfl
          have hal:=(zac wr.heap.size wr).alloc (zab _) (.cells #[.int .i64 0,.slice none 0 0] 152);have HX:=zaa hbx;have HO1:=zaa (HO.out.keep hal);have HB1:=zaa (HB.out.trans (hal.mono HB.out.size));have HWT:=zaa (show ax xs q q=⟨0,[]⟩by unfold ax;rw[if_pos rfl]);have HLN:=zaa (show(ex xs q q).length<=1000000 by rw[cR];omega);have HWS:=zaa (mq xs q q);clear hbx hal;(go_wp2_with fail);obtain⟨W,hW⟩:∃x,x=wr.alloc (.cells #[.int .i64 0,.slice none 0 0] 152):=⟨_,rfl⟩;rw[<-hW]at HX HO1 HB1;rw[<-hW];clear hW;obtain⟨B,hBe⟩:∃x,x=wr.heap.size:=⟨_,rfl⟩;rw[<-hBe]at HX;rw[<-hBe];clear hBe HO HB;have hx0:=HX.out.c0;have hx1:=HX.out.c1;obtain⟨A2,n2,c2,rfl⟩:=ap HO1.out (by decide);(go_loopw [10] (fun i wr=>i= .int .i64 0/\wr=W) (fun i _=>0));(case atStart=>exact⟨rfl,rfl⟩);case round=>
           obtain⟨rfl,rfl⟩:=hrel;(go_wp2_with (at_builtin;refine iA (base:=w.heap.size) (r:=⟨0,[]⟩) (S:=fun _=>False) rfl (.tmp 65) (.tmp 67) rfl HO1.out ⟨none,0,rfl,by simp,by simp[maxLen],fun i x h=>by simp at h⟩ ⟨by decide,by decide⟩ (fun k hk=>hk.elim) rfl rfl rfl HLN.out ?_;intro v5 w5 ho5 hg5));(go_roundw);(case rel=>exact⟨q+1,by omega,by go_num,by rw[HWS.out,HWT.out];exact ho5,(au HO1.out _).below_grown (HB1.out.alloc HB1.out.size _) hg5.grown⟩);case measure=>simp[intOf];omega
        · (have e1:((q:Int)==(s:Int))=false:=by rw[beq_eq_false_iff_ne];omega);(have e2:((q:Int) !=(s:Int))=true:=by rw[bne_iff_ne];omega);have hbx:iV (wr.alloc (.cells #[.int .i64 (-1),.slice none 0 0] 152)) wr.heap.size (-1) (.slice none 0 0):=by
           refine⟨?_,?_,fun i=>zaL _ _ _ _ rfl,by simp⟩
           · rw[zah _ _ _ _ rfl];rfl
           · rw[zah _ _ _ _ rfl];rfl
          have hal:=(zac wr.heap.size wr).alloc (zab _) (.cells #[.int .i64 (-1),.slice none 0 0] 152);have HX:=zaa hbx;have HAL:=zaa hal;have HB1:=zaa (HB.out.trans (hal.mono HB.out.size));have HWT:=zaa (show ax xs s q=⟨fX xs s q,bO xs s q (fX xs s q) 12⟩by unfold ax;rw[if_neg hqs]);have HLN:=zaa (show(ex xs s q).length<=1000000 by rw[cR];omega);have HWS:=zaa (mq xs s q);have HCA:=zaa (HR.out s q (-1) hs hlt);have HRK:=zaa (fun k=>HR.out s q k hs hlt);have HC:=zaa (show inR (fX xs s q)from by have h:=DF xs s (-1) q;unfold inR fX;omega);have hcc:gI (fY xs s (-1) 12) q=fX xs s q:=rfl;rw[hcc]at HCA;clear hcc hbx hal HR hqs;generalize fX xs s q=C at*;have HBL2:=zaa HB.out.size;obtain⟨W0,rfl⟩:∃x,x=wr:=⟨wr,rfl⟩;obtain⟨A2,n2,c2,rfl⟩:=ap HO.out (by decide);(go_wp2_with (go_at_call 124;refine(HCA.out _ HB1.out).mono ?_;rintro e w3 ⟨rfl,hb3⟩;have HX3:=zaa (HX.out.below hb3);obtain⟨y0,y1,y2,y3⟩:=HX3.out;have y4:=y2 0;have HB3:=zaa (HAL.out.trans (hb3.mono HAL.out.size));clear y2 hb3));obtain⟨B,hBe⟩:∃x,x=W0.heap.size:=⟨_,rfl⟩;have hset:=HX3.out.set0 C;have hset2:=HB3.out.setCell (p:=⟨W0.heap.size,0,none⟩) (zab _) (.int .i64 C);have hsz3:=HX3.out.lt;rw[<-hBe]at hset hset2 hsz3 HBL2;rw[<-hBe];have HBL:=zaa (zbG hBe.symm);have HBE:=zaa hBe;clear hBe;have HX4:=zaa hset;have HB4:=zaa hset2;have HZ4:=zaa (show B+1<=(w3.setCell ⟨B,0,none⟩ (.int .i64 C)).heap.size by simp[World.setCell];omega);clear hset hset2 hsz3 y0 y1 y3 y4 HX HX3 HAL HB1 HB3;(go_loopw [10] (fun i wr1=>∃(k:Nat) (v:Value),k<=12/\i= .int .i64 k/\iV wr1 B C v/\OwR aI 3 (B+1) wr1 v (bO xs s q C k)/\Below B W0 wr1) (fun i _=>12-(intOf i).toNat));(case atStart=>exact⟨0,_,zap _,rfl,HX4.out,(by unfold bO fW;rw[ite_self];exact OwR.nil _ _ HZ4.out),HB4.out⟩);case round=>
           obtain⟨k,v,hk,rfl,hbx,hv,hbk⟩:=hrel;obtain⟨A3,n3,c3,rfl⟩:=ap hv (by decide);have HXX:=zaa hbx;have HVV:=zaa hv;have HBK:=zaa hbk;obtain⟨y0,y1,y2,y3⟩:=hbx;have y4:=y2 1;clear hv hbk HX4 HB4 HZ4 y2 y3;by_cases hc0:C<0
           · (have g1:¬ 0<=C:=by omega);(have hp:bO xs s q C k=bO xs s q C 12:=by unfold bO;rw[if_pos hc0,if_pos hc0]);by_cases hlk:k<12
             · (have hki:(k:Int)<12:=by omega);have HHP:=zaa hp;have HSL:=zaa (HVV.out.slF);have HOZ:=zaa (HO.out.keep (HBE.out▸HBK.out));have HSS:=zaa (fun k (hk:k<wr.heap.size/\B+1<=k)=>(show k<wr.heap.size/\(Value.slice A2 n2 c2).ownBlock≠some k from⟨hk.1,fun e=>by have h1:=(HO.out.base_le k e).2;have h2:=hk.2;have h3:=HBL.out;omega⟩));(go_wp2_with (at_builtin;refine iA (base:=w.heap.size) (r:=⟨C,bO xs s q C k⟩) (S:=fun k=>k<wr.heap.size/\B+1<=k) rfl (.tmp 65) (.tmp 67) rfl HOZ.out HSL.out HC.out HSS.out rfl rfl rfl HLN.out ?_;intro v5 w5 ho5 hg5));(go_roundw);(case rel=>exact⟨q+1,by omega,by go_num,by rw[HWS.out,HWT.out,<-HHP.out];exact ho5,(au HOZ.out _).below_grown ((HB.out.trans (HBK.out.mono HBL2.out)).alloc (by have h1:=HB.out.size;have h2:=HBK.out.size;have h3:=HBL2.out;omega) _) hg5.grown⟩);case measure=>simp[intOf];omega
             · (have hki:¬ (k:Int)<12:=by omega);have HHP:=zaa hp;have HSL:=zaa (HVV.out.slF);have HOZ:=zaa (HO.out.keep (HBE.out▸HBK.out));have HSS:=zaa (fun k (hk:k<wr.heap.size/\B+1<=k)=>(show k<wr.heap.size/\(Value.slice A2 n2 c2).ownBlock≠some k from⟨hk.1,fun e=>by have h1:=(HO.out.base_le k e).2;have h2:=hk.2;have h3:=HBL.out;omega⟩));(go_wp2_with (at_builtin;refine iA (base:=w.heap.size) (r:=⟨C,bO xs s q C k⟩) (S:=fun k=>k<wr.heap.size/\B+1<=k) rfl (.tmp 65) (.tmp 67) rfl HOZ.out HSL.out HC.out HSS.out rfl rfl rfl HLN.out ?_;intro v5 w5 ho5 hg5));(go_roundw);(case rel=>exact⟨q+1,by omega,by go_num,by rw[HWS.out,HWT.out,<-HHP.out];exact ho5,(au HOZ.out _).below_grown ((HB.out.trans (HBK.out.mono HBL2.out)).alloc (by have h1:=HB.out.size;have h2:=HBK.out.size;have h3:=HBL2.out;omega) _) hg5.grown⟩);case measure=>simp[intOf];omega
           · (have g1:0<=C:=by omega);by_cases hlk:k<12
             · (have hki:(k:Int)<12:=by omega);have HCB:=zaa (HRK.out k);have HHL:=zaa (show(bO xs s q C k).length+1<=1000000000000 by unfold bO;rw[if_neg hc0];have:=o8 xs s q C k;omega);have HHS:=zaa (show bO xs s q C (k+1)=if gI (fY xs s (k:Int) 12) q=C then bO xs s q C k++[(k:Int)]else bO xs s q C k by unfold bO;rw[if_neg hc0,if_neg hc0];rfl);generalize gI (fY xs s (k:Int) 12) q=R at*;clear hc0;by_cases hrc:R=C
               · subst hrc;rw[if_pos rfl]at HHS;have HKR:=zaa (show inR (k:Int)by unfold inR;omega);(go_wp2_with fail);(go_region_with (go_at_call 124;refine(HCB.out _ ((HB.out.trans (HBK.out.mono HBL2.out)).drew)).mono ?_;rintro e w4 ⟨rfl,hb4⟩;have hb5:=Below.trans ((zac wr.heap.size wr).drew) hb4;have HX4:=zaa (HXX.out.below hb5);have HV4:=zaa (HVV.out.keep hb5);have HB4:=zaa (HBK.out.trans (hb5.mono (zbh HXX.out.lt)));obtain⟨z0,z1,z2,z3⟩:=HX4.out;have z4:=z2 1;clear z2 z3 hb5 hb4));all_goals
                  (go_wp2_with (at_builtin;refine aR (base:=B+1) fD rfl (.tmp 60) (.tmp 62) rfl (au HV4.out _) (aN (r:=aI) (cs:=[.int .i64 k]) (x:=(k:Int)) rfl ⟨rfl,HKR.out⟩) (fun _ _ h=>h) rfl rfl HHL.out (by decide) ?_;intro v5 w5 ho5 hg5;obtain⟨A9,n9,c9,rfl⟩:=ap ho5 (by decide);have HX5:=zaa (xl HX4.out HV4.out hg5 (zbt B));obtain⟨x0,x1,x2,x3⟩:=HX5.out;have x4:=x2 1;clear x2 x3));(go_roundw);case rel=>
                   refine⟨k+1,_,by omega,by go_num,HX5.out.set1 _,?_,?_⟩
                   · rw[HHS.out];exact dW ho5 (p:=⟨B,1,none⟩) (zbt B) _ (fun _ _ h=>h)
                   · have b1:=(au HV4.out (.cells #[.int .i64 k] 3)).below_grown ((zac (B+1) w4).alloc (HX4.out.lt) (.cells #[.int .i64 k] 3)) hg5.grown;exact(HB4.out.trans (b1.mono (Nat.le_succ B))).setCell (p:=⟨B,1,none⟩) (zab _) _
                  case measure=>simp[intOf];omega
               · (have hrb:(R==C)=false:=by rw[beq_eq_false_iff_ne];exact hrc);rw[if_neg hrc]at HHS;clear hrc;(go_wp2_with fail);(go_region_with (go_at_call 124;refine(HCB.out _ ((HB.out.trans (HBK.out.mono HBL2.out)).drew)).mono ?_;rintro e w4 ⟨rfl,hb4⟩;have hb5:=Below.trans ((zac wr.heap.size wr).drew) hb4;have HX4:=zaa (HXX.out.below hb5);have HV4:=zaa (HVV.out.keep hb5);have HB4:=zaa (HBK.out.trans (hb5.mono (zbh HXX.out.lt)));obtain⟨z0,z1,z2,z3⟩:=HX4.out;have z4:=z2 1;clear z2 z3 hb5 hb4));all_goals
                  (go_wp2_with fail);(go_roundw);(case rel=>exact⟨k+1,_,by omega,by go_num,HX4.out,by rw[HHS.out];exact HV4.out,HB4.out⟩);case measure=>simp[intOf];omega
             · (have hki:¬ (k:Int)<12:=by omega);(have hp:bO xs s q C k=bO xs s q C 12:=by rw[show k=12 by omega]);clear hc0;have HHP:=zaa hp;have HSL:=zaa (HVV.out.slF);have HOZ:=zaa (HO.out.keep (HBE.out▸HBK.out));have HSS:=zaa (fun k (hk:k<wr.heap.size/\B+1<=k)=>(show k<wr.heap.size/\(Value.slice A2 n2 c2).ownBlock≠some k from⟨hk.1,fun e=>by have h1:=(HO.out.base_le k e).2;have h2:=hk.2;have h3:=HBL.out;omega⟩));(go_wp2_with (at_builtin;refine iA (base:=w.heap.size) (r:=⟨C,bO xs s q C k⟩) (S:=fun k=>k<wr.heap.size/\B+1<=k) rfl (.tmp 65) (.tmp 67) rfl HOZ.out HSL.out HC.out HSS.out rfl rfl rfl HLN.out ?_;intro v5 w5 ho5 hg5));(go_roundw);(case rel=>exact⟨q+1,by omega,by go_num,by rw[HWS.out,HWT.out,<-HHP.out];exact ho5,(au HOZ.out _).below_grown ((HB.out.trans (HBK.out.mono HBL2.out)).alloc (by have h1:=HB.out.size;have h2:=HBK.out.size;have h3:=HBL2.out;omega) _) hg5.grown⟩);case measure=>simp[intOf];omega
      · (have hqi:¬ (q:Int)<12:=by omega);(obtain rfl:q=12:=by omega);obtain⟨A2,n2,c2,rfl⟩:=ap HO.out (by decide);(go_wp2_with fail);(go_ret2);exact AD HW.out (HO.out.sl (by decide)) HB.out
 · (have t1:(aj xs==0)=false:=by rw[beq_eq_false_iff_ne];exact hc);(have t2:(aj xs !=0)=true:=by rw[bne_iff_ne];exact hc);have HW:=zaa (show dP xs f=([],aj xs)by unfold dP;rw[if_pos hc]);clear hc;(go_enter Tryz.func84,Tryz.ntmps84);go_wp2_with (first
    | (go_at_call 75;refine HF.out.mono ?_;rintro e w1 ⟨rfl,hb1⟩))
   (go_ret2);exact AD HW.out (Sl.nil _ _) hb1
end Go.Proofs.YtojojpjldkpmoaaGreatDoor
