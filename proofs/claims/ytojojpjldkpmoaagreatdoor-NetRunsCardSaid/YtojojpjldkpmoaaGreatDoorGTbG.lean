/-
  
-/
import Derived.Test.YtojojpjldkpmoaaGreatDoorGTaB
import Derived.Test.YtojojpjldkpmoaaGreatDoorGOwn
import Derived.Laws.StructEq
import Derived.Test.YtojojpjldkpmoaaGreatDoorGTaE
set_option linter.unusedVariables false
set_option linter.unusedSimpArgs false
set_option maxHeartbeats 16000000
set_option maxRecDepth 100000
namespace Go.Proofs.YtojojpjldkpmoaaGreatDoor
section
open Go.RowKit Go.Sort
theorem OwR.lower{α:Type}{r:Rep α}{E base base':Nat}{w:World}{v:Value}{xs:List α}(h:OwR r E base w v xs)(hb:base'<=base):OwR r E base' w v xs:=by
 obtain⟨css,g1,g2,g3,g4⟩:=h;refine⟨css,g1,g2,⟨g3.1,?_⟩,by omega⟩;rcases g3.2 with h|⟨g,cap,cur,a1,a2,a3⟩
 · exact .inl h
 · exact .inr ⟨g,cap,cur,a1,by omega,a3⟩
theorem OwR.form{α:Type}{r:Rep α}{E base:Nat}{w:World}{v:Value}{xs:List α}(h:OwR r E base w v xs):∃A c,v= .slice A xs.length c:=by
 obtain⟨css,g1,g2,g3,g4⟩:=h;rcases g3.2 with⟨rfl,h⟩|⟨g,cap,cur,rfl,_⟩
 · exact⟨none,0,by rw[h]⟩
 · exact⟨_,_,rfl⟩
theorem tO{wr w1:World}{cs ds:Array Value}{t u:TypeId}(h:Below ((wr.alloc (.cells cs t)).alloc (.cells ds u)).heap.size ((wr.alloc (.cells cs t)).alloc (.cells ds u)) w1):
  (∀i,w1.frozen? ⟨wr.heap.size,i,none⟩=false)/\(∀i,w1.frozen? ⟨wr.heap.size+1,i,none⟩=false):=by
 obtain⟨h1,h2,h3,h4⟩:=aT h;rw[zbq]at h1 h2 h3 h4;obtain⟨g1,g2,g3,_⟩:=aT (wr:=wr) (w1:=w1) (cs:=cs) (t:=t) (by rw[zbq];exact h1);exact⟨g3,h3⟩
theorem kf(w:World)(p:Addr)(u:Value):w.grownBy (w.setCell p u) (some p.block):=
 ⟨rfl,rfl,rfl,by simp[World.setCell],fun k _ hne=>zao _ _ _ _ (fun e=>hne (by rw[e]))⟩
theorem OwR.setCellI{E base:Nat}{w:World}{v:Value}{xs:List Int}(h:OwR aI E base w v xs){p:Addr}(hp:p.block<base)(u:Value):OwR aI E base (w.setCell p u) v xs:=
 h.kept (kf w p u) (.inr (fun e=>by have:=(h.base_le _ e).1;omega))
def DM(w:World)(r:af)(e:Ending)(w':World):Prop:=
 ∃v',e= .returned (.agg #[.int .i64 r.pre.addr,.int .i64 r.pre.bits,.bool r.here,.int .i64 r.cost,v'])/\OwR aI 3 w.heap.size w' v' r.hops/\Below w.heap.size w w'
theorem iR(r:af)(v:Value)(w:World)(h:Sl aI w v r.hops)(hl:r.hops.length<=1000):
  Calls Tryz.prog 117 #[.agg #[.int .i64 r.pre.addr,.int .i64 r.pre.bits,.bool r.here,.int .i64 r.cost,v]] w (DM w r):=by
 obtain⟨A,c,rfl⟩:=h.form;obtain⟨hs,hhs⟩:∃hs,r.hops=hs:=⟨_,rfl⟩;rw[hhs]at h hl⊢;have HHS:=zaa hhs;have hb:Below w.heap.size w ((w.alloc (.cells #[.int .i64 r.pre.addr,.int .i64 r.pre.bits,.bool r.here,.int .i64 r.cost,.slice A hs.length c] 130)).alloc (.cells #[.int .i64 0,.int .i64 0,.bool false,.int .i64 0,.slice none 0 0] 130)):=((zac _ _).alloc (zab _) _).alloc (by simp) _;have hcl:=py _ hs _ (h.below hb) (by omega);have HCL:=zaa hcl;clear h hb hcl hhs;go_enter Tryz.func117,Tryz.ntmps117
 go_wp2_with fail
 refine HCL.out.mono ?_;rintro e w1 ⟨v1,rfl,ho1,hb1⟩;obtain⟨A1,c1,rfl⟩:=ho1.form;obtain⟨hA,hN,hM,hS⟩:=kq hb1;obtain⟨hF1,hF2⟩:=tO hb1;have HA:=zaa hA;have HO:=zaa ho1;clear hA hb1 ho1 HCL;go_wp2_with fail
 refine bodyPost_ret (v:= .agg #[.int .i64 r.pre.addr,.int .i64 r.pre.bits,.bool r.here,.int .i64 r.cost,.slice A1 hs.length c1]) (by simp[results,Tryz.results117,go_sem, *]) rfl ⟨_,rfl,?_,?_⟩
 · have h0:OwR aI 3 (w.heap.size+1+1) w1 (.slice A1 hs.length c1) hs:=by
    have:=HO.out;rw[zbq,zbq]at this;exact this
   rw[HHS.out];refine OwR.lower (base:=w.heap.size+1+1) ?_ (by omega);(iterate 6 refine OwR.setCellI ?_ (by dsimp only;omega) _);exact h0
 · (iterate 6 refine Below.setCell ?_ (by dsimp only;omega) _);exact HA.out
end
section
open Go.RowKit
theorem tq(v1 v2:Value)(xs:List Int)(w:World)(h1:Sl aI w v1 xs)(h2:Sl aI w v2 xs):
  Calls Tryz.prog 14 #[v1,v2] w fun e w'=>e= .returned (.bool true)/\Below w.heap.size w w':=by
 have hl:=h1.len_le;obtain⟨A1,c1,rfl⟩:=h1.form;obtain⟨A2,c2,rfl⟩:=h2.form;have H1:=zaa h1;have H2:=zaa h2;clear h1 h2;go_enter Tryz.func14,Tryz.ntmps14
 go_wp2_with fail
 go_loopw [5] (fun s5 wr=>∃k:Nat,k<=xs.length/\s5= .int .i64 k/\Below w.heap.size w wr) (fun s5 _=>xs.length-(intOf s5).toNat)
 case atStart=>exact⟨0,zap _,rfl,zac _ _⟩
 case round=>
  obtain⟨k,hk,rfl,hB⟩:=hrel;have HB:=zaa hB;by_cases hlt:k<xs.length
  · obtain⟨b1,o1,rfl,hb1⟩:=H1.out.at_ hlt;obtain⟨b2,o2,rfl,hb2⟩:=H2.out.at_ hlt;obtain⟨f1,_⟩:=(H1.out.below hB).int hlt;obtain⟨g1,_⟩:=(H2.out.below hB).int hlt;have r0:(0:Int)<=(k:Int):=zai _;(have r1:(k:Int)<(xs.length:Int):=by omega);clear hB;(go_wp2_with fail);(go_quiet (fail));(go_wp2_with fail);(go_roundw);(case rel=>exact⟨k+1,by omega,by go_num,ag HB.out _⟩);case measure=>simp[intOf];omega
  · clear hB;(go_wp2_with fail);(go_ret);exact⟨rfl,HB.out⟩
theorem lu(a b c d:Int)(w:World):
  (binOp .eql 32 (.agg #[.int .i64 a,.int .i64 b]) (.agg #[.int .i64 c,.int .i64 d])).run Tryz.prog w= .ok (.bool (a==c&&b==d)) w:=by
 have hS:Tryz.prog.underlying 32=some (.struct (Tryz.prog.fieldsOf 32)):=by kernel_rfl
 have hp:Tryz.prog.stoodInHeld 32=false:=by kernel_rfl
 have u3:=Tryz.underlying3;have a3:=Tryz.isAgg3;have z3:=Tryz.sizeOf3;rw[run_eql_struct,show(10000:Nat)=9999+1 from rfl,run_equalIn_agg w 9999 32 _ _ hS hp];simp only[Program.fieldsOf,Tryz.underlying32];go_simp
 by_cases h1:a=c<;>by_cases h2:b=d<;>simp[h1,h2]
theorem BE(a b c d:Int)(w:World):
  (binOp .neq 32 (.agg #[.int .i64 a,.int .i64 b]) (.agg #[.int .i64 c,.int .i64 d])).run Tryz.prog w= .ok (.bool (!(a==c&&b==d))) w:=by
 have hS:Tryz.prog.underlying 32=some (.struct (Tryz.prog.fieldsOf 32)):=by kernel_rfl
 have hp:Tryz.prog.stoodInHeld 32=false:=by kernel_rfl
 have u3:=Tryz.underlying3;have a3:=Tryz.isAgg3;have z3:=Tryz.sizeOf3;rw[run_neq_struct,show(10000:Nat)=9999+1 from rfl,run_equalIn_agg w 9999 32 _ _ hS hp];simp only[Program.fieldsOf,Tryz.underlying32];go_simp
 by_cases h1:a=c<;>by_cases h2:b=d<;>simp[h1,h2]
theorem gF(op:BinOp)(a b:Operand)(x y:Array Value)(w:World):(eqGuard op 32 a b (.agg x) (.agg y)).run Tryz.prog w= .ok () w:=
 run_eqGuard_agg w op _ a b x y (by kernel_rfl)
def af.agg(r:af)(v:Value):Value:= .agg #[.int .i64 r.pre.addr,.int .i64 r.pre.bits,.bool r.here,.int .i64 r.cost,v]
end
section
open Go Go.RowKit Go.Deep
theorem oW(n:Nat)(h:(Lib.decDigits n).length<=20)(w:World):(Op.stringOp .add ⟨#[112,58]⟩ (bOf (Lib.decDigits n))).run Tryz.prog w= .ok (.string (dO n)) w:=eF [112,58] (Lib.decDigits n) (by show 2+_<=_;omega) w
theorem ph{l:List ab}{k:ByteArray}:(bU l k= -1/\bR l k=none)∨∃i:Nat,bU l k=i/\∃hi:i<l.length,bR l k=some l[i]:=by
 unfold bU bR;rcases hf:(l.findIdx? fun e=>decide (e.key=k))with _|i
 · left;refine⟨by rw[hf],?_⟩;rw[zbQ];rw[zcc]at hf;intro x hx;have:=hf x hx;simpa using this
 · right;obtain⟨hi,h1,h2⟩:=zbv.1 hf;refine⟨i,by rw[hf],hi,?_⟩;rw[zci];exact⟨h1,i,hi,rfl,fun j hj=>by have:=h2 j hj;simpa using this⟩
theorem tL(v:Value)(xs:List ab)(n:Nat)(w:World)(h:Sl aW w v xs)(hn:n<12)(hs:∀e∈xs,e.value.size<4294967281)(hE:Env w):
  Calls Tryz.prog 86 #[v,.int .i64 n] w fun e w'=>(∃v',e= .returned v'/\Sl aA w' v' (ar xs n))/\Below w.heap.size w w':=by
 have hl:=h.len_le;obtain⟨A,c,rfl⟩:=h.form;have H:=zaa h;have HE:=zaa hE;have HS:=zaa hs;clear h hE hs;have RK:=oW n (by have:=cm 4 n (by omega);omega);have HD:=zaa (fun w=>ny n w (by omega));have HP:=zaa (fun w h=>oH (.slice A xs.length c) xs (dO n) w h);rcases ph (l:=xs) (k:=dO n)with⟨hm,hf⟩|⟨i,hi,hil,hf⟩
 · have HA:=zaa (show ar xs n=[]by unfold ar;rw[hf]);rw[hm]at HP;clear hm hf;(go_enter Tryz.func86,Tryz.ntmps86);go_wp2_with (first
    | (go_at_call 43;refine(HD.out _).mono ?_;rintro e w1 ⟨rfl,hb1⟩;have HB1:=zaa hb1;clear hb1)
    | (go_at_call 74;refine(HP.out _ (H.out.below HB1.out)).mono ?_;rintro e w' ⟨rfl,rfl⟩))
   (go_ret);exact⟨⟨_,rfl,by rw[HA.out];exact Sl.nil _ _⟩,HB1.out⟩
 · have HA:=zaa (show ar xs n=(bG xs[i].value.data.toList).1 by unfold ar;rw[hf]);have HPO:=zaa (fun w h=>tK xs[i].value w (HS.out _ (zaw hil)) h);rw[hi]at HP;(have hili:(i:Int)<(xs.length:Int):=by omega);(have hi0:¬ ((i:Int)<0):=by omega);obtain⟨b,off,rfl,hb⟩:=H.out.at_ hil;obtain⟨_,_,_,f3,_⟩:=H.out.ent hil;have F3:=zaa f3;clear hi hf f3;(go_enter Tryz.func86,Tryz.ntmps86);go_wp2_with (first
    | (go_at_call 43;refine(HD.out _).mono ?_;rintro e w1 ⟨rfl,hb1⟩;have f3:=aa hb1 F3.out;have HB1:=zaa hb1;clear hb1)
    | (go_at_call 74;refine(HP.out _ (H.out.below HB1.out)).mono ?_;rintro e w' ⟨rfl,rfl⟩)
    | (go_at_call 125;refine(HPO.out _ (HE.out.below HB1.out)).mono ?_;rintro e w2 ⟨v2,rfl,hv2,hb2⟩;have HV2:=zaa hv2;have HB2:=zaa hb2;clear hb2 hv2))
   (go_ret);exact⟨⟨_,rfl,by rw[HA.out];exact HV2.out⟩,HB1.out.trans (HB2.out.mono HB1.out.size)⟩
theorem uj(v:Value)(xs:List Int)(n:Int)(w:World)(h:Sl aI w v xs)(hl:xs.length<=1000000):
  Calls Tryz.prog 87 #[v,.int .i64 n] w fun e w'=>e= .returned (.bool (xs.contains n))/\Below w.heap.size w w':=by
 obtain⟨A,c,rfl⟩:=h.form;have H:=zaa h;obtain⟨R,hR⟩:∃R,R=xs.contains n:=⟨_,rfl⟩;rw[<-hR];have HR:=zaa hR;clear h hR;go_enter Tryz.func87,Tryz.ntmps87
 go_wp2_with fail
 go_loopw [5] (fun i wr=>∃k:Nat,k<=xs.length/\i= .int .i64 k/\Below w.heap.size w wr/\∀j,(h:j<xs.length)->j<k->xs[j]≠n) (fun i _=>xs.length-(intOf i).toNat)
 case atStart=>exact⟨0,zap _,rfl,zac _ _,fun j _ h=>absurd h (by omega)⟩
 case round=>
  obtain⟨k,hk,rfl,hB,hall⟩:=hrel;have HA:=zaa hall;have HB:=zaa hB;clear hall;by_cases hlt:k<xs.length
  · obtain⟨b,off,rfl,hb⟩:=H.out.at_ hlt;obtain⟨f1,_⟩:=(H.out.below hB).int hlt;(have hki:(k:Int)<(xs.length:Int):=by omega);obtain⟨x,hx⟩:∃x,x=xs[k]:=⟨_,rfl⟩;rw[<-hx]at f1;have HX:=zaa hx;clear hB hx;by_cases e:x=n
    · (have he:(x==n)=true:=by rw[beq_iff_eq];exact e);have HY:=zaa (show xs.contains n=true by rw[zcq,<-e,HX.out];exact zaw hlt);clear e;(go_wp2_with fail);(go_ret);exact⟨eb (by rw[HR.out,HY.out]),HB.out⟩
    · (have he:(x==n)=false:=by rw[beq_eq_false_iff_ne];exact e);have HN:=zaa e;clear e;(go_wp2_with fail);(go_roundw);case rel=>
       refine⟨k+1,by omega,by go_num,HB.out,fun j hj hjk=> ?_⟩;by_cases e2:j=k
       · subst e2;rw[<-HX.out];exact HN.out
       · exact HA.out j hj (by omega)
      case measure=>simp[intOf];omega
  · (have hki:¬ (k:Int)<(xs.length:Int):=by omega);have HY:=zaa (show xs.contains n=false by
     rw[Bool.eq_false_iff];intro e;rw[zcq]at e;obtain⟨j,hj,he⟩:=zau e
     exact HA.out j hj (by omega) he)
    clear hB;(go_wp2_with fail);(go_ret);exact⟨eb (by rw[HR.out,HY.out]),HB.out⟩
theorem g6(v:Value)(xs:List ae)(p:ae)(w:World)(h:Sl aA w v xs)(hl:xs.length<=1000000):
  Calls Tryz.prog 85 #[v,.agg #[.int .i64 p.addr,.int .i64 p.bits]] w fun e w'=>e= .returned (.bool (inP xs p))/\Below w.heap.size w w':=by
 obtain⟨A,c,rfl⟩:=h.form;have hal:=(zac w.heap.size w).alloc (zab _) (.cells #[.int .i64 p.addr,.int .i64 p.bits] 32);have H:=zaa (h.below hal);have HAL:=zaa hal;obtain⟨R,hR⟩:∃R,R=inP xs p:=⟨_,rfl⟩;rw[<-hR];have HR:=zaa hR;clear hR;have HQ0:=zaa (show(w.alloc (.cells #[.int .i64 p.addr,.int .i64 p.bits] 32)).cell? ⟨w.heap.size,0,none⟩=some (.int .i64 p.addr)by rw[zah _ _ _ _ rfl];rfl);have HQ1:=zaa (show(w.alloc (.cells #[.int .i64 p.addr,.int .i64 p.bits] 32)).cell? ⟨w.heap.size,1,none⟩=some (.int .i64 p.bits)by rw[zah _ _ _ _ rfl];rfl);obtain⟨W,hW⟩:∃W,W=w.alloc (.cells #[.int .i64 p.addr,.int .i64 p.bits] 32):=⟨_,rfl⟩;rw[<-hW]at H HAL HQ0 HQ1;clear h hal;go_enter Tryz.func85,Tryz.ntmps85
 go_wp2_with fail
 rw[<-hW];clear hW;obtain⟨B,hB⟩:∃B,B=w.heap.size:=⟨_,rfl⟩;rw[<-hB]at HQ0 HQ1;rw[<-hB];clear hB;go_loopw [5] (fun i wr=>∃k:Nat,k<=xs.length/\i= .int .i64 k/\Below W.heap.size W wr/\∀j,(h:j<xs.length)->j<k->bA xs[j] p=false) (fun i _=>xs.length-(intOf i).toNat)
 case atStart=>exact⟨0,zap _,rfl,zac _ _,fun j _ h=>absurd h (by omega)⟩
 case round=>
  obtain⟨k,hk,rfl,hB,hall⟩:=hrel;have HA:=zaa hall;have HB:=zaa hB;have p0:=aa hB HQ0.out;have p1:=aa hB HQ1.out;clear hall;by_cases hlt:k<xs.length
  · obtain⟨b,off,rfl,hb⟩:=H.out.at_ hlt;obtain⟨f1,f2,_⟩:=(H.out.below hB).pref hlt;(have hki:(k:Int)<(xs.length:Int):=by omega);obtain⟨x,hx⟩:∃x,x=xs[k]:=⟨_,rfl⟩;rw[<-hx]at f1 f2;have q1:=lu x.addr x.bits p.addr p.bits;have q2:=fun a b=>gF .eql a b;have HX:=zaa hx;clear hB hx;rcases he:(x.addr==p.addr&&x.bits==p.bits)with _|_
    · rw[he]at q1;have HN:=zaa (show bA x p=false from he);clear he;(go_wp2_with fail);(go_quiet (fail));(go_wp2_with fail);(go_roundw);case rel=>
       refine⟨k+1,by omega,by go_num,ag HB.out _,fun j hj hjk=> ?_⟩;by_cases e2:j=k
       · subst e2;rw[<-HX.out];exact HN.out
       · exact HA.out j hj (by omega)
      case measure=>simp[intOf];omega
    · rw[he]at q1;have HY:=zaa (show inP xs p=true by unfold inP;rw[zbp];exact⟨x,by rw[HX.out];exact zaw hlt,he⟩);clear he;(go_wp2_with fail);(go_quiet (fail));(go_wp2_with fail);(go_ret);exact⟨eb (by rw[HR.out,HY.out]),HAL.out.trans ((ag HB.out _).mono HAL.out.size)⟩
  · (have hki:¬ (k:Int)<(xs.length:Int):=by omega);have HY:=zaa (show inP xs p=false by
     rw[Bool.eq_false_iff];intro e;unfold inP at e;rw[zbp]at e;obtain⟨x,hx,he⟩:=e;obtain⟨j,hj,rfl⟩:=zau hx;have:=HA.out j hj (by omega)
     rw[this]at he;cases he)
    clear hB;(go_wp2_with fail);(go_ret);exact⟨eb (by rw[HR.out,HY.out]),HAL.out.trans (HB.out.mono HAL.out.size)⟩
end
end Go.Proofs.YtojojpjldkpmoaaGreatDoor
