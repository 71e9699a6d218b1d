/-
  
-/
import Derived.Test.YtojojpjldkpmoaaGreatDoorGDoG
import Derived.Test.YtojojpjldkpmoaaGreatDoorGDoF
import Derived.Test.YtojojpjldkpmoaaGreatDoorGSrt
import Derived.Test.YtojojpjldkpmoaaGreatDoorGStE
set_option linter.unusedVariables false
set_option linter.unusedSimpArgs false
set_option maxHeartbeats 16000000
set_option maxRecDepth 100000
namespace Go.Proofs.YtojojpjldkpmoaaGreatDoor
open Go Go.RowKit
theorem wh{xs:List ab}{k:ByteArray}{p:Nat}(hp:p<xs.length)(h:∀j,(h:j<xs.length)->j<p->xs[j].key≠k)(he:xs[p].key=k):bU xs k=p:=by
 unfold bU;have:(xs.findIdx? fun e=>decide (e.key=k))=some p:=by
  rw[zbv];exact⟨hp,decide_eq_true he,fun j hj=>by have:=h j (by omega) hj;simpa using this⟩
 rw[this]
theorem tN{xs:List ab}{k:ByteArray}(h:∀j,(h:j<xs.length)->xs[j].key≠k):bU xs k= -1:=by
 refine gR ?_;unfold dm;rw[zch];intro e he;obtain⟨j,hj,rfl⟩:=zau he;simpa using h j hj
theorem oH(v:Value)(xs:List ab)(k:ByteArray)(w:World)(h:Sl aW w v xs):
  Calls Tryz.prog 74 #[v,.string k] w fun e w'=>e= .returned (.int .i64 (bU xs k))/\w=w':=by
 have hl:=h.len_le;obtain⟨A,c,rfl⟩:=h.form;have H:=zaa h;clear h;go_enter Tryz.func74,Tryz.ntmps74
 go_wp2_with fail
 go_loop [5] (fun i=>∃p:Nat,p<=xs.length/\i= .int .i64 p/\∀j,(h:j<xs.length)->j<p->xs[j].key≠k) (fun i=>xs.length-(intOf i).toNat)
 case atStart=>exact⟨0,zap _,rfl,fun j _ h=>absurd h (by omega)⟩
 case round=>
  obtain⟨p,hp,rfl,hall⟩:=hrel;have HA:=zaa hall;clear hall;by_cases hlt:p<xs.length
  · obtain⟨b,off,rfl,hb⟩:=H.out.at_ hlt;obtain⟨f1,_,_,_,_⟩:=H.out.ent hlt;go_wp2_with fail
    · (go_ret);have he:xs[p].key=k:=by
       have:=‹(xs[p].key.toList==k.toList)=true›;exact toList_inj (eq_of_beq this)
      exact⟨ei (wh hlt HA.out he).symm,rfl⟩
    · (go_round);case rel=>
       refine⟨p+1,by omega,by go_num,fun j hj hjp=> ?_⟩;by_cases e:j=p
       · subst e;intro he;have:=‹(xs[j].key.toList==k.toList)=false›;rw[he]at this;simp at this
       · exact HA.out j hj (by omega)
      case measure=>simp[intOf];omega
  · (go_wp2_with fail);(go_ret);exact⟨ei (tN fun j hj=>HA.out j hj (by omega)).symm,rfl⟩
def bQ(n:Nat):ByteArray:=bOf (97::58::Lib.decDigits n)
theorem sn(n:Nat)(h:(Lib.decDigits n).length<=20)(w:World):(Op.stringOp .add ⟨#[97,58]⟩ (bOf (Lib.decDigits n))).run Tryz.prog w= .ok (.string (bQ n)) w:=eF [97,58] (Lib.decDigits n) (by show 2+_<=_;omega) w
def aP(l:List ab)(n:Nat):Bool × List cY:=match bR l (bQ n)with
 | none=>(false,[])
 | some e=>((aJ e.value.data.toList).1,(aJ e.value.data.toList).2.1)
theorem jm(s:List UInt8):aw (aJ s).2.1=0:=by
 unfold aJ;split
 · rfl
 · split
   · assumption
   · rfl
theorem jX(l:List ab)(n:Nat):aw (aP l n).2=0:=by
 unfold aP;split
 · rfl
 · exact jm _
theorem xq{l:List ab}{n:Nat}(h:bU l (bQ n)= -1):aP l n=(false,[]):=by
 unfold aP;have:bR l (bQ n)=none:=by
  unfold bU at h;unfold bR;rw[zbQ];rcases hf:(l.findIdx? fun e=>decide (e.key=bQ n))with _|i
  · rw[zcc]at hf;intro x hx;have:=hf x hx;simpa using this
  · rw[hf]at h;simp only at h;omega
 rw[this]
theorem xp{l:List ab}{n i:Nat}(h:bU l (bQ n)=i):∃hi:i<l.length,aP l n=((aJ l[i].value.data.toList).1,(aJ l[i].value.data.toList).2.1):=by
 unfold bU at h;rcases hf:(l.findIdx? fun e=>decide (e.key=bQ n))with _|j
 · rw[hf]at h;simp only at h;omega
 · rw[hf]at h;simp only at h;(obtain rfl:j=i:=by omega);obtain⟨hj,h1,h2⟩:=zbv.1 hf;refine⟨hj,?_⟩;unfold aP;have:bR l (bQ n)=some l[j]:=by
    unfold bR;rw[zci];exact⟨h1,j,hj,rfl,fun k hk=>by simpa using h2 k hk⟩
   rw[this]
theorem zh(l:List ab)(k:ByteArray): -1<=bU l k:=by
 unfold bU;split<;>omega
def dL(l:List cY)(tgt:Int):Int:=match l.find? fun x=>decide (x.node=tgt)with
 | some x=>x.cost
 | none=>0
theorem yW{xs:List cY}{tgt:Int}{p:Nat}(hp:p<xs.length)(h:∀j,(h:j<xs.length)->j<p->xs[j].node≠tgt)(he:xs[p].node=tgt):dL xs tgt=xs[p].cost:=by
 unfold dL;have:(xs.find? fun x=>decide (x.node=tgt))=some xs[p]:=by
  rw[zci];exact⟨decide_eq_true he,p,hp,rfl,fun k hk=>by have:=h k (by omega) hk;simpa using this⟩
 rw[this]
theorem vH{xs:List cY}{tgt:Int}(h:∀j,(h:j<xs.length)->xs[j].node≠tgt):dL xs tgt=0:=by
 unfold dL;have:(xs.find? fun x=>decide (x.node=tgt))=none:=by
  rw[zbQ];intro x hx;obtain⟨j,hj,rfl⟩:=zau hx;simpa using h j hj
 rw[this]
theorem kQ{xs:List cY}(h:aw xs=0)(tgt:Int):0<=dL xs tgt/\dL xs tgt<=1000:=by
 unfold dL;split
 · rename_i x hx;obtain⟨i,hi,rfl⟩:=zau (List.mem_of_find?_eq_some hx);obtain⟨_,_,h3,h4⟩:=ef h i hi;omega
 · omega
def bB(l:List ab)(a b:Nat):Nat:=if a=b∨dL (aP l b).2 a=0 then 0 else(dL (aP l a).2 b).toNat
theorem ij(l:List ab)(a b:Nat):bB l a b<=1000:=by
 unfold bB;split
 · omega
 · have:=kQ (jX l a) b;omega
theorem km(d:Bool)(v:Value)(xs:List cY)(tgt:Int)(w:World)(h:Sl dg w v xs):
  Calls Tryz.prog 187 #[.agg #[.bool d,v],.int .i64 tgt] w fun e w'=>e= .returned (.int .i64 (dL xs tgt))/\Below w.heap.size w w':=by
 have hl:=h.len_le;obtain⟨A,c,rfl⟩:=h.form;have H:=zaa h;clear h;go_enter Tryz.func187,Tryz.ntmps187
 go_wp2_with fail
 go_loopw [5] (fun i wr=>∃p:Nat,p<=xs.length/\i= .int .i64 p/\Below w.heap.size w wr/\wr.cell? ⟨w.heap.size,1,none⟩=some (.slice A xs.length c)/\∀j,(h:j<xs.length)->j<p->xs[j].node≠tgt) (fun i _=>xs.length-(intOf i).toNat)
 case atStart=>
  refine⟨0,zap _,rfl,(zac _ _).alloc (zab _) _,?_,fun j _ h=>absurd h (by omega)⟩;rw[zah _ _ _ _ rfl];rfl
 case round=>
  obtain⟨p,hp,rfl,hB,hx,hall⟩:=hrel;have HA:=zaa hall;have HB:=zaa hB;clear hall;by_cases hlt:p<xs.length
  · obtain⟨b,off,rfl,hb⟩:=H.out.at_ hlt;obtain⟨f1,f2,_,_⟩:=(H.out.below hB).side hlt;(have hlti:(p:Int)<(xs.length:Int):=by omega);clear hB;by_cases he:xs[p].node=tgt
    · have HS:=zaa (yW hlt HA.out he);(have heb:(xs[p].node==tgt)=true:=by rw[beq_iff_eq];exact he);clear he;(go_wp2_with fail);(go_ret);exact⟨ei HS.out.symm,HB.out⟩
    · have HE:=zaa he;(have heb:(xs[p].node==tgt)=false:=by rw[beq_eq_false_iff_ne];exact he);clear he;(go_wp2_with fail);(go_roundw);case rel=>
       refine⟨p+1,by omega,by go_num,HB.out,hx,fun j hj hjp=> ?_⟩;by_cases e:j=p
       · subst e;exact HE.out
       · exact HA.out j hj (by omega)
      case measure=>simp[intOf];omega
  · clear hB;(go_wp2_with fail);(go_ret);exact⟨ei (vH fun j hj=>HA.out j hj (by omega)).symm,HB.out⟩
theorem C5{w:World}{v:Value}{xs:List cY}{A:Nat}(h:Sl dg w v xs)(hA:∀i k x,w.cell? ⟨A,i,none⟩≠some (.int k x)):SlR dg w (fun k=>k<w.heap.size/\k≠A) v xs:=by
 obtain⟨a,c,hv,h1,h2,h3⟩:=h;refine⟨a,c,hv,h1,h2,fun i x hx=> ?_⟩;obtain⟨b,off,cs,e1,e2,e3,e4,e5⟩:=h3 i x hx;refine⟨b,off,cs,e1,⟨e2,fun e=> ?_⟩,e3,e4,e5⟩;obtain⟨rfl,_⟩:=e4;subst e;exact hA _ _ _ (e5 0 _ rfl)
theorem Ei{w1 w2:World}{R:Nat}{d:Bool}(h:∀i,w1.cell? ⟨R,i,none⟩= #[Value.bool d,.slice none 0 0][i]?)(hb:Below w1.heap.size w1 w2)(hR:R<w1.heap.size)(i:Nat)(k:IntKind)(x:Int):w2.cell? ⟨R,i,none⟩≠some (.int k x):=by
 rw[hb.cell (p:=⟨R,i,none⟩) hR,h i]
 match i with
 | 0=>simp
 | 1=>simp
 | i+2=>simp
theorem rE(v:Value)(xs:List ab)(n:Nat)(w:World)(h:Sl aW w v xs)(hn:n<12)(hs:∀e∈xs,e.value.size<4294967281)(hE:Env w):
  Calls Tryz.prog 158 #[v,.int .i64 n] w fun e w'=>(∃v',e= .returned (.agg #[.bool (aP xs n).1,v'])/\Sl dg w' v' (aP xs n).2)/\Below w.heap.size w w':=by
 have hl:=h.len_le;obtain⟨A,c,rfl⟩:=h.form;have H:=zaa h;have HE:=zaa hE;have HS:=zaa hs;clear h hE hs;have RK:=sn n (by have:=cm 4 n (by omega);omega);have HD:=zaa (fun w=>ny n w (by omega));have hb0:Below w.heap.size w (w.alloc (.cells #[.bool false,.slice none 0 0] 97)):=(zac _ _).alloc (zab _) _;have HB0:=zaa hb0;have hge:=zh xs (bQ n);have HP:=zaa (fun w h=>oH (.slice A xs.length c) xs (bQ n) w h);clear hb0;by_cases hm:bU xs (bQ n)= -1
 · have HA:=zaa (xq hm);rw[hm]at HP;clear hm hge;(go_enter Tryz.func158,Tryz.ntmps158);go_wp2_with (first
    | (go_at_call 43;refine(HD.out _).mono ?_;rintro e w1 ⟨rfl,hb1⟩;obtain⟨hA1,hN1,hF1,hS1⟩:=aT hb1;have z0:w1.cell? ⟨w.heap.size,0,none⟩=some (.bool false):=hN1 0;have z1:w1.cell? ⟨w.heap.size,1,none⟩=some (.slice none 0 0):=hN1 1;have z2:=hF1 0;have z3:=hF1 1;have HA1:=zaa hA1;clear hb1 hN1 hF1 hA1)
    | (go_at_call 74;refine(HP.out _ (H.out.below HA1.out)).mono ?_;rintro e w' ⟨rfl,rfl⟩))
   refine bodyPost_ret (v:= .agg #[.bool false,.slice none 0 0]) (by simp[results,Tryz.results158,go_sem,z0,z1]) rfl ?_;exact⟨⟨_,by rw[HA.out],by rw[HA.out];exact Sl.nil _ _⟩,(HA1.out.setCell (p:=⟨w.heap.size,0,none⟩) (zab _) _).setCell (p:=⟨w.heap.size,1,none⟩) (zab _) _⟩
 · obtain⟨i,hi⟩:∃i:Nat,bU xs (bQ n)=i:=⟨(bU xs (bQ n)).toNat,by omega⟩;obtain⟨hil,ha⟩:=xp hi;have HA:=zaa ha;have HAO:=zaa (fun w h=>Al xs[i].value w (HS.out _ (zaw hil)) h);rw[hi]at HP;(have hili:(i:Int)<(xs.length:Int):=by omega);obtain⟨b,off,rfl,hb⟩:=H.out.at_ hil;obtain⟨_,_,_,f3,_⟩:=H.out.ent hil;have F3:=zaa f3;clear hm hge hi ha f3;(go_enter Tryz.func158,Tryz.ntmps158);go_wp2_with (first
    | (go_at_call 43;refine(HD.out _).mono ?_;rintro e w1 ⟨rfl,hb1⟩;obtain⟨hA1,hN1,hF1,hS1⟩:=aT hb1;have z0:w1.cell? ⟨w.heap.size,0,none⟩=some (.bool false):=hN1 0;have z1:w1.cell? ⟨w.heap.size,1,none⟩=some (.slice none 0 0):=hN1 1;have z2:=hF1 0;have z3:=hF1 1;have f3:=aa hA1 F3.out;have HA1:=zaa hA1;have BX0:=zaa hN1;have BX:=zaa (show Box w1 w.heap.size false (.slice none 0 0)from⟨z0,z1,hF1,hS1⟩);clear hb1 hN1 hF1 hA1)
    | (go_at_call 74;refine(HP.out _ (H.out.below HA1.out)).mono ?_;rintro e w' ⟨rfl,rfl⟩)
    | (go_at_call 186;refine(HAO.out _ (HE.out.below HA1.out)).mono ?_;rintro e w2 ⟨v2,rfl,hv2,hb2⟩;obtain⟨A2,c2,rfl⟩:=hv2.form;have HV2:=zaa (hv2.below ((zac w2.heap.size w2).alloc (zab _) (.cells #[.bool (aJ xs[i].value.data.toList).1,.slice A2 (aJ xs[i].value.data.toList).2.1.length c2] 97)));have hb3:=hb2.trans ((zac w2.heap.size w2).alloc (zab _) (.cells #[.bool (aJ xs[i].value.data.toList).1,.slice A2 (aJ xs[i].value.data.toList).2.1.length c2] 97)|>.mono hb2.size);have HNI:=zaa (fun i k x=>Ei BX0.out hb3 hS1 i k x);obtain⟨y0,y1,y2,y3⟩:=BX.out.below hb3;have y4:=y2 0;have y5:=y2 1;have HB3:=zaa (HA1.out.trans (hb3.mono HA1.out.size));clear hb2 hb3 hv2 y2))
   refine bodyPost_ret (v:= .agg #[.bool (aJ xs[i].value.data.toList).1,.slice A2 (aJ xs[i].value.data.toList).2.1.length c2]) (by simp[results,Tryz.results158,go_sem,y0,y1]) rfl ?_;refine⟨⟨_,by rw[HA.out],?_⟩,(HB3.out.setCell (p:=⟨w.heap.size,0,none⟩) (zab _) _).setCell (p:=⟨w.heap.size,1,none⟩) (zab _) _⟩;rw[HA.out];refine SlR.keep (C5 HV2.out (A:=w.heap.size) (fun i k x=>HNI.out i k x)) (fun q hq=> ?_) (fun q hq=>by simp[World.setCell];have:=hq.1;simpa using this);rw[zao _ _ _ _ hq.2,zao _ _ _ _ hq.2]
theorem BM(v:Value)(xs:List ab)(a b:Nat)(w:World)(h:Sl aW w v xs)(ha:a<12)(hb:b<12)(hs:∀e∈xs,e.value.size<4294967281)(hE:Env w):
  Calls Tryz.prog 159 #[v,.int .i64 a,.int .i64 b] w fun e w'=>e= .returned (.int .i64 (bB xs a b:Nat))/\Below w.heap.size w w':=by
 have hl:=h.len_le;obtain⟨A,c,rfl⟩:=h.form;have H:=zaa h;have HE:=zaa hE;have HIN:=zaa (fun n hn w' (hb:Below w.heap.size w w')=>rE (.slice A xs.length c) xs n w' (h.below hb) hn hs (hE.below hb));clear h hE hs;by_cases hab:a=b
 · (have hi:((a:Int)==(b:Int))=true:=by rw[beq_iff_eq];omega);have HL:=zaa (show bB xs a b=0 by unfold bB;rw[if_pos (.inl hab)]);(go_enter Tryz.func159,Tryz.ntmps159);(go_wp2_with fail);(go_ret);exact⟨by rw[HL.out];rfl,zac _ _⟩
 · (have hi:((a:Int)==(b:Int))=false:=by rw[beq_eq_false_iff_ne];omega);have HSA:=zaa (kQ (jX xs a) b);have HSB:=zaa (kQ (jX xs b) a);have hlk:bB xs a b=if dL (aP xs b).2 a=0 then 0 else(dL (aP xs a).2 b).toNat:=by
    unfold bB;by_cases h0:dL (aP xs b).2 a=0
    · rw[if_pos (.inr h0),if_pos h0]
    · rw[if_neg (by rintro(e|e)<;>first|exact hab e|exact h0 e),if_neg h0]
   have HL:=zaa hlk;have HA:=zaa (HIN.out a ha);have HB:=zaa (HIN.out b hb);clear hlk;by_cases h0:dL (aP xs b).2 a=0
   · have HSO:=zaa (fun d v w h=>(by have:=km d v (aP xs b).2 a w h;rw[h0]at this;exact this:Calls Tryz.prog 187 #[.agg #[.bool d,v],.int .i64 a] w fun e w'=>e= .returned (.int .i64 0)/\Below w.heap.size w w'));rw[if_pos h0]at HL;clear h0;(go_enter Tryz.func159,Tryz.ntmps159);go_wp2_with (first
      | (go_at_call 158;refine(HB.out _ (zac _ _)).mono ?_;rintro e w1 ⟨⟨v1,rfl,hv1⟩,hb1⟩)
      | (go_at_call 187;refine(HSO.out _ _ _ hv1).mono ?_;rintro e w2 ⟨rfl,hb2⟩))
     (go_ret);exact⟨by rw[HL.out];rfl,hb1.trans (hb2.mono hb1.size)⟩
   · (have h0b:(dL (aP xs b).2 a==0)=false:=by rw[beq_eq_false_iff_ne];exact h0);have HSO:=zaa (fun d v w h=>km d v (aP xs b).2 a w h);have HSP:=zaa (fun d v w h=>km d v (aP xs a).2 b w h);rw[if_neg h0]at HL;generalize dL (aP xs b).2 a=X at*;clear h0;(go_enter Tryz.func159,Tryz.ntmps159);go_wp2_with (first
      | (go_at_call 158;have U':=U;refine(HA.out _ HX2.out).mono ?_;rintro e w3 ⟨⟨v3,rfl,hv3⟩,hb3⟩)
      | (go_at_call 158;refine(HB.out _ (zac _ _)).mono ?_;rintro e w1 ⟨⟨v1,rfl,hv1⟩,hb1⟩)
      | (go_at_call 187;have U':=U;refine(HSP.out _ _ _ hv3).mono ?_;rintro e w4 ⟨rfl,hb4⟩)
      | (go_at_call 187;refine(HSO.out _ _ _ hv1).mono ?_;rintro e w2 ⟨rfl,hb2⟩;have U:=trivial;have HX2:=zaa (hb1.trans (hb2.mono hb1.size))))
     (go_ret);have hx3:=HX2.out.trans (hb3.mono HX2.out.size);exact⟨by rw[HL.out,Int.toNat_of_nonneg HSA.out.1];rfl,hx3.trans (hb4.mono hx3.size)⟩
end Go.Proofs.YtojojpjldkpmoaaGreatDoor
