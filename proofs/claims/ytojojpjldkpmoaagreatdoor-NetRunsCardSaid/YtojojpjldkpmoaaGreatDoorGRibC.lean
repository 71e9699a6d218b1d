/-
  
-/
import Derived.Test.YtojojpjldkpmoaaGreatDoorGGrB
import Derived.Test.YtojojpjldkpmoaaGreatDoorGOwn
import Derived.Lib.QuietBelow
import Derived.Test.YtojojpjldkpmoaaGreatDoorGStE
set_option linter.unusedVariables false
set_option linter.unusedSimpArgs false
set_option maxHeartbeats 16000000
set_option maxRecDepth 100000
namespace Go.Proofs.YtojojpjldkpmoaaGreatDoor
section
open Go.RowKit Go.Sort
structure af where
 pre:ae
 here:Bool
 cost:Int
 hops:List Int
def cz(l:List Int):Nat->Nat->Bool
 | 0,_=>true
 | n+1,k=>match l[k]? with
   | none=>true
   | some e=>decide (0<=e)&&decide (e<=11)&&(match k with|0=>true|j+1=>match l[j]? with|some p=>decide (p<e)|none=>true)&&cz l n (k+1)
def gZ(l:List Int):Bool:=cz l (l.length-0) 0
def eh(r:af):Bool:=
 decide (aq r.pre=0)&&decide (0<=r.cost)&&decide (r.cost<=1048576)&&(if r.here then decide (r.cost=0)&&r.hops.isEmpty else !r.hops.isEmpty)
def aX(r:af):Int:=if eh r&&gZ r.hops then 0 else 4
def ia(p q:af):Bool:=ak p.pre q.pre
def ah(l:List af):Int:=if 200<l.length then 1 else br aX ia l (l.length-0) 0
def af.cells(r:af)(v:Value):List Value:=[.int .i64 r.pre.addr,.int .i64 r.pre.bits,.bool r.here,.int .i64 r.cost,v]
def af.wf(r:af):Prop:=inR r.pre.addr/\inR r.pre.bits/\inR r.cost
def aB:Rep af:=
 { size:=5,holds:=fun w S cs r=>∃v,cs=r.cells v/\SlR aI w S v r.hops/\r.wf
   len:=fun⟨v,h,_⟩=>by rw[h];rfl
   one:=fun⟨v,h,⟨A,c,hv,_⟩,_⟩ u hu=>by
    rw[h,hv]at hu;simp[af.cells]at hu;rcases hu with rfl|rfl|rfl|rfl|rfl<;>rfl
   keep:=fun⟨v,h1,h2,h3⟩ k1 k2=>⟨v,h1,h2.keep k1 k2,h3⟩}
theorem Sl.route{w:World}{b off c n:Nat}{xs:List af}(h:Sl aB w (.slice (some ⟨b,off,none⟩) n c) xs){k:Nat}(hk:k<xs.length):
  ∃v,w.cell? ⟨b,off+k*5,none⟩=some (.int .i64 xs[k].pre.addr)/\w.cell? ⟨b,off+k*5+1,none⟩=some (.int .i64 xs[k].pre.bits)/\w.cell? ⟨b,off+k*5+2,none⟩=some (.bool xs[k].here)/\
   w.cell? ⟨b,off+k*5+3,none⟩=some (.int .i64 xs[k].cost)/\w.cell? ⟨b,off+k*5+4,none⟩=some v/\Sl aI w v xs[k].hops/\xs[k].wf:=by
 obtain⟨cs,⟨v,rfl,hs,hw⟩,hc⟩:=h.cell hk;exact⟨v,hc 0 _ rfl,hc 1 _ rfl,hc 2 _ rfl,hc 3 _ rfl,hc 4 _ rfl,hs,hw⟩
def dp(a b:ae):Int:=if a.addr≠b.addr then wrap64 (a.addr-b.addr)else wrap64 (a.bits-b.bits)
theorem gA(a b:ae)(w:World):
  Calls Tryz.prog 122 #[.agg #[.int .i64 a.addr,.int .i64 a.bits],.agg #[.int .i64 b.addr,.int .i64 b.bits]] w fun e w'=>e= .returned (.int .i64 (dp a b))/\Below w.heap.size w w':=by
 have hB:Below w.heap.size w ((w.alloc (.cells #[.int .i64 a.addr,.int .i64 a.bits] 32)).alloc (.cells #[.int .i64 b.addr,.int .i64 b.bits] 32)):=((zac _ _).alloc (zab _) _).alloc (by simp) _;have HB:=zaa hB;clear hB;go_enter Tryz.func122,Tryz.ntmps122
 go_wp2
 · (go_ret);exact⟨ei (by unfold dp;rw[if_pos (by simpa using‹(a.addr !=b.addr)=true›)]),HB.out⟩
 · (go_ret);exact⟨ei (by unfold dp;rw[if_neg (by simpa using‹(a.addr !=b.addr)=false›)]),HB.out⟩
theorem lC(p:ae):ai [p]=aq p:=by
 unfold ai;rw[if_neg (by simp)];show br aq ak [p] 1 0=aq p;unfold br;by_cases h:aq p=0
 · simp[h,br]
 · simp[h]
theorem uh(l:List Int)(k:Nat)(h:l.length<=k)(n:Nat):cz l n k=true:=by
 cases n with
 | zero=>rfl
 | succ n=>unfold cz;rw[zbU h]
theorem ll(l:List Int)(k:Nat)(hk:k<l.length)(h:l[k]<0∨11<l[k]):cz l (l.length-k) k=false:=by
 obtain⟨n,hn⟩:∃n,l.length-k=n+1:=⟨l.length-k-1,by omega⟩;rw[hn];unfold cz;rw[zad hk];simp only[Bool.and_eq_false_iff,decide_eq_false_iff_not];omega
theorem o7(l:List Int)(hk:0<l.length)(h:(0:Int)<=l[0]/\l[0]<=(11:Int)):cz l (l.length-0) 0=cz l (l.length-1) 1:=by
 obtain⟨n,hn⟩:∃n,l.length=n+1:=⟨l.length-1,by omega⟩;rw[show l.length-1=n by omega,show l.length-0=n+1 by omega]
 conv=>lhs;unfold cz
 rw[zad hk];simp[h]
theorem o6(l:List Int)(j:Nat)(hk:j+1<l.length)(ho:l[j+1]<=l[j]):cz l (l.length-(j+1)) (j+1)=false:=by
 obtain⟨n,hn⟩:∃n,l.length-(j+1)=n+1:=⟨l.length-(j+1)-1,by omega⟩;have h1:l[j]? =some l[j]:=zad (by omega);rw[hn];unfold cz;rw[zad hk];simp only[h1,Bool.and_eq_false_iff,decide_eq_false_iff_not];left;right;omega
theorem qR(l:List Int)(j:Nat)(hk:j+1<l.length)(h:0<=l[j+1]/\l[j+1]<=11)(ho:l[j]<l[j+1]):cz l (l.length-(j+1)) (j+1)=cz l (l.length-(j+1+1)) (j+1+1):=by
 obtain⟨n,hn⟩:∃n,l.length-(j+1)=n+1:=⟨l.length-(j+1)-1,by omega⟩;rw[hn,show l.length-(j+1+1)=n by omega]
 conv=>lhs;unfold cz
 have h1:l[j]? =some l[j]:=zad (by omega);rw[zad hk];simp[h,ho,h1]
theorem fU(r:af):(eh r=true/\aq r.pre=0/\0<=r.cost/\r.cost<=1048576/\((r.here=true/\r.cost=0/\r.hops.length=0)∨(r.here=false/\0<r.hops.length)))∨
  (eh r=false/\(aq r.pre≠0∨(aq r.pre=0/\(r.cost<0∨1048576<r.cost))∨(aq r.pre=0/\0<=r.cost/\r.cost<=1048576/\((r.here=true/\r.cost≠0)∨(r.here=true/\r.cost=0/\0<r.hops.length)∨(r.here=false/\r.hops.length=0))))):=by
 unfold eh;by_cases h1:aq r.pre=0
 · by_cases h2:0<=r.cost/\r.cost<=1048576
   · obtain⟨h2,h3⟩:=h2;rcases hh:r.here with _|_
     · rcases hl:r.hops with _|⟨a,l⟩<;>simp[h1,h2,h3]
     · by_cases hc:r.cost=0
       · rcases hl:r.hops with _|⟨a,l⟩<;>simp[h1,hc]
       · simp[h1,h2,h3,hc]
   · right;refine⟨?_,.inr (.inl ⟨h1,by omega⟩)⟩;rw[Bool.eq_false_iff];simp;omega
 · right;exact⟨by simp[h1],.inl h1⟩
theorem AV{w:World}(p:ae)(hw:inR p.addr/\inR p.bits):Sl aA (w.alloc (.cells #[.int .i64 p.addr,.int .i64 p.bits] 32)) (.slice (some ⟨w.heap.size,0,none⟩) 1 1) [p]:=by
 have h:SlR aA (w.alloc (.cells [Value.int .i64 p.addr,Value.int .i64 p.bits].toArray 32)) (fun k=>k<w.heap.size+1) (.slice (some ⟨w.heap.size,0,none⟩) 1 1) [p]:=SlR.one_new ⟨rfl,hw⟩;have e:(w.alloc (.cells #[.int .i64 p.addr,.int .i64 p.bits] 32)).heap.size=w.heap.size+1:=by simp
 unfold Sl;rw[e];exact h
theorem Cu{a b:ae}(ha:aq a=0)(hb:aq b=0):(ak a b=true/\dp a b<0)∨(ak a b=false/\0<=dp a b):=by
 have bd:∀{p:ae},aq p=0->0<=p.bits/\p.bits<=8/\0<=p.addr/\p.addr<=255:=by
  intro p h;unfold aq at h;split at h
  · assumption
  · cases h
 obtain⟨a1,a2,a3,a4⟩:=bd ha;obtain⟨b1,b2,b3,b4⟩:=bd hb;unfold dp;have hw:∀x:Int,-300<=x->x<=300->wrap64 x=x:=by intro x h1 h2;unfold wrap64;omega
 by_cases he:a.addr=b.addr
 · rw[if_neg (by simpa using he),hw _ (by omega) (by omega)];by_cases hl:a.bits<b.bits
   · left;exact⟨(aF _ _).2 (.inr ⟨he,hl⟩),by omega⟩
   · right;exact⟨by rw[Bool.eq_false_iff];intro e;rw[aF]at e;omega,by omega⟩
 · rw[if_pos he,hw _ (by omega) (by omega)];by_cases hl:a.addr<b.addr
   · left;exact⟨(aF _ _).2 (.inl hl),by omega⟩
   · right;exact⟨by rw[Bool.eq_false_iff];intro e;rw[aF]at e;omega,by omega⟩
theorem pQ{r:af}(h:gZ r.hops=false):aX r=4:=by unfold aX;rw[h];simp
theorem tz{r:af}(h:eh r=true)(h2:gZ r.hops=true):aX r=0:=by unfold aX;rw[h,h2];rfl
def Ez(xs:List af)(k:Nat):Prop:=∀m,m+1=k->(h:m<xs.length)->aq xs[m].pre=0
theorem eS(v:Value)(xs:List af)(w:World)(h:Sl aB w v xs):
  Calls Tryz.prog 113 #[v] w fun e w'=>e= .returned (.int .i64 (ah xs))/\Below w.heap.size w w':=by
 have hl:=h.len_le;obtain⟨A,c,rfl⟩:=h.form;have H:=zaa h;clear h;by_cases h6:200<xs.length
 · (have h6':(200:Int)<(xs.length:Int):=by omega);(go_enter Tryz.func113,Tryz.ntmps113);(go_wp2_with fail);(go_ret);exact⟨ei (by simp[ah,h6]),zac _ _⟩
 · (have h6':¬ (200:Int)<(xs.length:Int):=by omega);(go_enter Tryz.func113,Tryz.ntmps113);(go_wp2_with fail);(have hs0:ah xs=br aX ia xs (xs.length-0) 0:=by simp[ah,h6]);(go_loopw [2,3,4,5,6,12,14,15,16] (fun _ _ _ _ _ i _ _ _ wr=>∃k:Nat,k<=xs.length/\i= .int .i64 k/\Below w.heap.size w wr/\ah xs=br aX ia xs (xs.length-k) k/\Ez xs k) (fun _ _ _ _ _ i _ _ _ _=>xs.length-(intOf i).toNat));(case atStart=>exact⟨0,zap _,rfl,zac _ _,hs0,fun m hm=>absurd hm (by omega)⟩);case round=>
    obtain⟨k,hk,rfl,hB,hs,hpv⟩:=hrel;have HS:=zaa hs;have HPV:=zaa hpv;clear hs hs0 hpv;by_cases hlt:k<xs.length
    · obtain⟨b,off,rfl,hb⟩:=H.out.at_ hlt;obtain⟨hv,f1,f2,f3,f4,f5,hsl,hwf⟩:=(H.out.below hB).route hlt;obtain⟨A2,c2,hvv⟩:=hsl.form;have hfc:=fU xs[k];obtain⟨hs,hhs⟩:∃hs,xs[k].hops=hs:=⟨_,rfl⟩;rw[hhs]at hsl hvv hfc;subst hvv;have HHS:=zaa hhs;(have hbw:b<wr.heap.size:=by have:=hB.size;omega);have hl0:=hsl.len_le;have HB:=zaa hB;have HSL:=zaa hsl;have HWF:=zaa hwf;have HFC:=zaa hfc;clear hB hsl hwf hhs hfc;(go_wp2_with fail);have hone:=AV (w:=wr.alloc (.cells #[.int .i64 xs[k].pre.addr,.int .i64 xs[k].pre.bits,.bool xs[k].here,.int .i64 xs[k].cost,.slice A2 hs.length c2] 130)) xs[k].pre ⟨HWF.out.1,HWF.out.2.1⟩;simp only[zbq]at hone;refine(d7 _ _ _ hone).mono ?_;rw[lC];rintro e w1 ⟨rfl,hb1⟩;obtain⟨hA,hN,hM,hS⟩:=kq hb1;have hB1:=HB.out.trans (hA.mono HB.out.size);have HB1:=zaa hB1;have HSL1:=zaa (HSL.out.below hA);clear hone hA hB1 hb1 hM f1 f2 f3 f4 f5;rcases HFC.out with⟨hf,hp,hc1,hc2,hcase⟩|⟨hf,hcase⟩
      · (have t1:(aq xs[k].pre !=0)=false:=by simp[hp]);have HP:=zaa hp;(have t2:¬ xs[k].cost<0:=by omega);(have t3:¬ 1048576<xs[k].cost:=by omega);have HF:=zaa hf;clear hp hf;rcases hcase with⟨hh,hc,hn⟩|⟨hh,hn⟩
        case' inl=>have t4:(xs[k].cost !=0)=false:=by simp[hc]
        case' inl=>have t5:¬ 0<hs.length:=by omega
        case' inl=>clear hc
        case' inr=>have t5:((hs.length:Int)==0)=false:=by rw[beq_eq_false_iff_ne];omega
        all_goals
         have HNN:=zaa hn;clear hn;(go_wp2_with fail);(go_loop [5,6,61,63,64,65] (fun _ _ i _ _ _=>∃j:Nat,j<=hs.length/\i= .int .i64 j/\gZ hs=cz hs (hs.length-j) j) (fun _ _ i _ _ _=>hs.length-(intOf i).toNat));(case atStart=>exact⟨0,zap _,rfl,rfl⟩);case round=>
          obtain⟨j,hj,rfl,hho⟩:=hrel;have HHO:=zaa hho;clear hho;by_cases hjl:j<hs.length
          · (try(exfalso;omega));all_goals
             obtain⟨b2,off2,rfl,hb2⟩:=HSL1.out.at_ hjl;obtain⟨g1,_⟩:=HSL1.out.int hjl;have fin:cz hs (hs.length-j) j=false->(Ending.returned (.int .i64 4)=Ending.returned (.int .i64 (ah xs))/\Below w.heap.size w w1):=
              fun hb=>⟨ei (by
               have hbad:=pQ (r:=xs[k]) (by rw[HHS.out,HHO.out];exact hb)
               rw[HS.out,gy xs k hlt (by rw[hbad];decide)];exact hbad.symm),HB1.out⟩
             have FIN:=zaa fin;clear fin;rcases(show hs[j]<0∨11<hs[j]∨(0<=hs[j]/\hs[j]<=11)by omega)with hx|hx|⟨hx1,hx2⟩
             · (go_wp2_with fail);(go_ret);exact FIN.out (ll hs j hjl (.inl hx))
             · (have hx':12<=hs[j]:=by omega);(go_wp2_with fail);(go_ret);exact FIN.out (ll hs j hjl (.inr hx))
             · (have q1:¬ hs[j]<0:=by omega);(have q2:¬ 12<=hs[j]:=by omega);rcases zaG j with h0|h0
               · subst h0;(have q3:(0:Int)<(hs.length:Int):=by omega);simp only[zbH]at g1;(go_wp2_with fail);(go_round);(case rel=>exact⟨1,by omega,by go_num,by rw[HHO.out];exact o7 hs hjl ⟨hx1,hx2⟩⟩);case measure=>simp[intOf];omega
               · obtain⟨m,rfl⟩:∃m,j=m+1:=⟨j-1,by omega⟩;(have hm:m<hs.length:=by omega);obtain⟨g2,_⟩:=HSL1.out.int hm;by_cases ho:hs[m+1]<=hs[m]
                 · (go_wp2_with fail);(go_ret);exact FIN.out (o6 hs m hjl ho)
                 · (go_wp2_with fail);(go_round);(case rel=>exact⟨m+1+1,by omega,by go_num,by rw[HHO.out];exact qR hs m hjl ⟨hx1,hx2⟩ (by omega)⟩);case measure=>simp[intOf];omega
          · have hok:aX xs[k]=0:=tz HF.out (by rw[HHS.out,HHO.out];exact uh hs j (by omega) _);have HOK:=zaa hok;clear hok;rcases zaG k with h0|h0
            · subst h0;(go_wp2_with fail);(go_quiet (fail));(go_wp2_with fail);(go_roundw);case rel=>exact⟨1,by omega,by go_num,ag HB1.out _,by rw[HS.out];exact gw xs hlt HOK.out,fun m hm _=>by
               (have e:m=0:=by omega)
               subst e;exact HP.out⟩
              case measure=>simp[intOf];omega
            · obtain⟨m,rfl⟩:∃m,k=m+1:=⟨k-1,by omega⟩;(have hm:m<xs.length:=by omega);obtain⟨_,g1,g2,z3,z4,z5,z6,z7⟩:=(H.out.below HB1.out).route hm;clear z3 z4 z5 z6 z7;(have q2:(m:Int)<(xs.length:Int):=by omega);have q0:(0:Int)<=(m:Int):=zai _;(have hw:IntKind.i64.wrap (m:Int)=(m:Int):=by rw[IntKind.wrap_i64];omega);have hco:=Cu (HPV.out m rfl hm) HP.out;have HCO:=zaa hco;clear hco;(go_wp2_with fail);refine gu 11 (by kernel_rfl) (by kernel_rfl) ?_;intro wd hwd;(have hbd:Below w.heap.size w wd:=by rw[hwd];exact HB1.out.drew);have HBD:=zaa hbd;(have g1':wd.cell? ⟨b,off+m*5,none⟩=some (.int .i64 xs[m].pre.addr):=by rw[hwd,zaY];exact g1);(have g2':wd.cell? ⟨b,off+m*5+1,none⟩=some (.int .i64 xs[m].pre.bits):=by rw[hwd,zaY];exact g2);have hN':∀i,wd.cell? ⟨wr.heap.size,i,none⟩= #[Value.int .i64 xs[m+1].pre.addr,.int .i64 xs[m+1].pre.bits,.bool xs[m+1].here,.int .i64 xs[m+1].cost,.slice A2 hs.length c2][i]? :=by
               intro i;rw[hwd,zaY];exact hN i
              clear hwd hbd g1 g2 hN;simp only[zbz,zcw,zbD,List.drop_zero];(iterate 11 still_step);refine wpStill_nil ?_;(go_wp2_with fail);refine(gA xs[m].pre xs[m+1].pre _).mono ?_;rintro e w2 ⟨rfl,hb2⟩;have HB2:=zaa (HBD.out.trans (hb2.mono HBD.out.size));clear hb2;clear hw;rcases HCO.out with⟨ho,hc⟩|⟨ho,hc⟩
              · (have hc':¬ (0<=dp xs[m].pre xs[m+1].pre):=by omega);have HO:=zaa ho;clear ho;(go_wp2_with fail);(go_roundw);case rel=>exact⟨m+1+1,by omega,by go_num,HB2.out,by rw[HS.out];exact gO xs m hlt HOK.out HO.out,fun m' hm' _=>by
                 (have e:m'=m+1:=by omega)
                 subst e;exact HP.out⟩
                case measure=>simp[intOf];omega
              · have HO:=zaa ho;clear ho;(go_wp2_with fail);(go_ret);exact⟨ei (by rw[HS.out,fI xs m hlt HOK.out HO.out]),HB2.out⟩
      · (have hbad:aX xs[k]=4:=by unfold aX;rw[hf];rfl);have HBAD:=zaa hbad;clear hbad hf;have fin:∀{w2:World},Below w.heap.size w w2->(Ending.returned (.int .i64 4)=Ending.returned (.int .i64 (ah xs))/\Below w.heap.size w w2):=
         fun hb=>⟨ei (by rw[HS.out,gy xs k hlt (by rw[HBAD.out];decide)];exact HBAD.out.symm),hb⟩
        have FIN:=zaa (fin HB1.out);clear fin;rcases hcase with hp|⟨hp,hc⟩|⟨hp,hc1,hc2,hc⟩
        · (have t1:(aq xs[k].pre !=0)=true:=by simp[hp]);clear hp;(go_wp2_with fail);(go_ret);exact FIN.out
        · (have t1:(aq xs[k].pre !=0)=false:=by simp[hp]);clear hp;rcases hc with hc|hc;all_goals
           (go_wp2_with fail);all_goals(go_ret;exact FIN.out)
        · (have t1:(aq xs[k].pre !=0)=false:=by simp[hp]);(have t2:¬ xs[k].cost<0:=by omega);(have t3:¬ 1048576<xs[k].cost:=by omega);clear hp;rcases hc with⟨hh,hc⟩|⟨hh,hc,hn⟩|⟨hh,hn⟩
          · (have t4:(xs[k].cost !=0)=true:=by simp[hc]);clear hc;(go_wp2_with fail);(go_ret);exact FIN.out
          · (have t4:(xs[k].cost !=0)=false:=by simp[hc]);have t5:0<hs.length:=hn;clear hc hn;(go_wp2_with fail);(go_ret);exact FIN.out
          · have t5:hs.length=0:=hn;clear hn;(go_wp2_with fail);(go_ret);exact FIN.out
    · (go_wp2_with fail);(go_ret);exact⟨ei (by rw[HS.out,lS xs k (by omega)]),hB⟩
end
end Go.Proofs.YtojojpjldkpmoaaGreatDoor
