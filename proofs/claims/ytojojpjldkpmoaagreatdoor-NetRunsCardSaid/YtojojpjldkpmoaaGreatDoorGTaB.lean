/-
  
-/
import Derived.Test.YtojojpjldkpmoaaGreatDoorGRibC
import Derived.WalkSpells
import Derived.Lib.SliceRun
import Derived.Test.YtojojpjldkpmoaaGreatDoorGWaF
set_option linter.unusedVariables false
set_option linter.unusedSimpArgs false
set_option maxHeartbeats 16000000
set_option maxRecDepth 100000
namespace Go.Proofs.YtojojpjldkpmoaaGreatDoor
section
open Go.RowKit Go.Sort
theorem BU(n l h:Int)(w:World):Calls Tryz.prog 36 #[.int .i64 n,.int .i64 l,.int .i64 h] w fun e w'=>e= .returned (.bool (decide (l<=n)&&decide (n<=h)))/\w'=w:=
 (aU n l h w).mono fun _ _ ⟨he,hw⟩=>⟨he,hw.symm⟩
theorem pD(a b:ae)(w:World):
  Calls Tryz.prog 71 #[.agg #[.int .i64 a.addr,.int .i64 a.bits],.agg #[.int .i64 b.addr,.int .i64 b.bits]] w fun e w'=>e= .returned (.bool (ak b a))/\Below w.heap.size w w':=by
 have hB:Below w.heap.size w ((w.alloc (.cells #[.int .i64 a.addr,.int .i64 a.bits] 32)).alloc (.cells #[.int .i64 b.addr,.int .i64 b.bits] 32)):=((zac _ _).alloc (zab _) _).alloc (by simp) _;have HB:=zaa hB;have ho:=aF b a;have HO:=zaa ho;clear hB ho;go_enter Tryz.func71,Tryz.ntmps71
 rcases zct a.addr b.addr with hx|hx|hx
 · (have t1:decide (b.addr<a.addr)=false:=by rw[decide_eq_false_iff_not];omega);(have t2:(a.addr==b.addr)=false:=by rw[beq_eq_false_iff_ne];omega);(have t3:¬ b.addr<a.addr:=by omega);(have hr:ak b a=false:=by rw[Bool.eq_false_iff,ne_eq,HO.out];omega);have HR:=zaa hr;clear hr;(go_wp2_with fail);(go_ret);exact⟨eb HR.out.symm,HB.out⟩
 · (have t1:decide (b.addr<a.addr)=false:=by rw[decide_eq_false_iff_not];omega);(have t2:(a.addr==b.addr)=true:=by rw[beq_iff_eq];exact hx);(have t3:¬ b.addr<a.addr:=by omega);(have hr:ak b a=decide (b.bits<a.bits):=by rw[Bool.eq_iff_iff,HO.out,decide_eq_true_iff];omega);have HR:=zaa hr;clear hr;clear hx;(go_wp2_with fail);(go_ret);exact⟨eb HR.out.symm,HB.out⟩
 · (have t1:decide (b.addr<a.addr)=true:=by rw[decide_eq_true_iff];omega);(have hr:ak b a=true:=by rw[HO.out];omega);have HR:=zaa hr;clear hr;(go_wp2_with fail);(go_ret);exact⟨eb HR.out.symm,HB.out⟩
theorem oj{r:af}(h:gZ r.hops=false):aX r=4:=by unfold aX;rw[h];simp
theorem rQ{r:af}(h:eh r=true)(h2:gZ r.hops=true):aX r=0:=by unfold aX;rw[h,h2];rfl
theorem nM(v:Value)(xs:List af)(w:World)(h:Sl aB w v xs):
  Calls Tryz.prog 126 #[v] w fun e w'=>e= .returned (.int .i64 (ah xs))/\Below w.heap.size w w':=by
 have hl:=h.len_le;obtain⟨A,c,rfl⟩:=h.form;have H:=zaa h;clear h;by_cases h6:200<xs.length
 · (have h6':(200:Int)<(xs.length:Int):=by omega);(go_enter Tryz.func126,Tryz.ntmps126);(go_wp2_with fail);(go_ret);exact⟨ei (by simp[ah,h6]),zac _ _⟩
 · (have h6':¬ (200:Int)<(xs.length:Int):=by omega);(go_enter Tryz.func126,Tryz.ntmps126);(go_wp2_with fail);(have hs0:ah xs=br aX ia xs (xs.length-0) 0:=by simp[ah,h6]);(go_loopw [2,3,4,5] (fun _ i _ _ wr=>∃k:Nat,k<=xs.length/\i= .int .i64 k/\Below w.heap.size w wr/\ah xs=br aX ia xs (xs.length-k) k) (fun _ i _ _ _=>xs.length-(intOf i).toNat));(case atStart=>exact⟨0,zap _,rfl,zac _ _,hs0⟩);case round=>
    obtain⟨wo,rfl⟩:∃wo:World,wo=wr:=⟨_,rfl⟩;obtain⟨k,hk,rfl,hB,hs⟩:=hrel;have HS:=zaa hs;clear hs hs0;by_cases hlt:k<xs.length
    · obtain⟨b,off,rfl,hb⟩:=H.out.at_ hlt;obtain⟨hv,f1,f2,f3,f4,f5,hsl,hwf⟩:=(H.out.below hB).route hlt;obtain⟨A2,c2,hvv⟩:=hsl.form;have hfc:=fU xs[k];obtain⟨hs,hhs⟩:∃hs,xs[k].hops=hs:=⟨_,rfl⟩;rw[hhs]at hsl hvv hfc;subst hvv;have HHS:=zaa hhs;(have hbw:b<wo.heap.size:=by have:=hB.size;omega);have hl0:=hsl.len_le;have HB:=zaa hB;have HSL:=zaa hsl;have HWF:=zaa hwf;have HFC:=zaa hfc;clear hB hsl hwf hhs hfc;(go_wp2_with fail);have hone:=AV (w:=wo.alloc (.cells #[.int .i64 xs[k].pre.addr,.int .i64 xs[k].pre.bits,.bool xs[k].here,.int .i64 xs[k].cost,.slice A2 hs.length c2] 130)) xs[k].pre ⟨HWF.out.1,HWF.out.2.1⟩;simp only[zbq]at hone;refine(dS _ _ _ hone).mono ?_;rw[lC];rintro e w1 ⟨rfl,hb1⟩;obtain⟨hA,hN,hM,hS⟩:=kq hb1;have hB1:=HB.out.trans (hA.mono HB.out.size);have HB1:=zaa hB1;have HSL1:=zaa (HSL.out.below hA);clear hone hA hB1 hb1 hM f1 f2 f3 f4 f5;rcases HFC.out with⟨hf,hp,hc1,hc2,hcase⟩|⟨hf,hcase⟩
      · (have t1:(aq xs[k].pre !=0)=false:=by simp[hp]);(have t2:decide ((0:Int)<=xs[k].cost)=true:=by rw[decide_eq_true_iff];omega);(have t3:decide (xs[k].cost<=(1048576:Int))=true:=by rw[decide_eq_true_iff];omega);have HF:=zaa hf;clear hp hf;rcases hcase with⟨hh,hc,hn⟩|⟨hh,hn⟩
        case' inl=>have t4:¬ (0:Int)<xs[k].cost:=by omega
        case' inl=>have t5:¬ 0<hs.length:=by omega
        case' inl=>clear hc
        case' inr=>have t5:decide (0<hs.length)=true:=by rw[decide_eq_true_iff];exact hn
        all_goals
         have HNN:=zaa hn;clear hn;(go_wp2_with (go_at_call 36;refine(aU _ _ _ _).mono ?_;rintro e w' ⟨rfl,rfl⟩));(go_loopw [5] (fun t wx=>∃j:Nat,j<=hs.length/\t= .int .i64 j/\gZ hs=cz hs (hs.length-j) j/\Below w1.heap.size w1 wx/\(∀i,wx.cell? ⟨wo.heap.size,i,none⟩= #[Value.int .i64 xs[k].pre.addr,.int .i64 xs[k].pre.bits,.bool xs[k].here,.int .i64 xs[k].cost,.slice A2 hs.length c2][i]?)) (fun t _=>hs.length-(intOf t).toNat));(case atStart=>exact⟨0,zap _,rfl,rfl,zac _ _,hN⟩);case round=>
          obtain⟨j,hj,rfl,hho,hbx,hNx⟩:=hrel;have HHO:=zaa hho;have HBX:=zaa (HB1.out.trans (hbx.mono HB1.out.size));have HBY:=zaa hbx;have HSLX:=zaa (HSL1.out.below hbx);have hSx:wo.heap.size+1<wr.heap.size:=zas hS hbx.size;clear hho hbx hN;by_cases hjl:j<hs.length
          · (try(exfalso;omega));all_goals
             obtain⟨b2,off2,rfl,hb2⟩:=HSLX.out.at_ hjl;obtain⟨g1,_⟩:=HSLX.out.int hjl;have fin:cz hs (hs.length-j) j=false->∀{w3},Below w.heap.size w w3->(Ending.returned (.int .i64 4)=Ending.returned (.int .i64 (ah xs))/\Below w.heap.size w w3):=
              fun hb _ hw3=>⟨ei (by
               have hbad:=oj (r:=xs[k]) (by rw[HHS.out,HHO.out];exact hb)
               rw[HS.out,gy xs k hlt (by rw[hbad];decide)];exact hbad.symm),hw3⟩
             have FIN:=zaa @fin;have p0:(0:Int)<=(j:Int):=zai _;(have p1:(j:Int)<(hs.length:Int):=by omega);clear fin;rcases(show hs[j]<0∨11<hs[j]∨(0<=hs[j]/\hs[j]<=11)by omega)with hx|hx|⟨hx1,hx2⟩
             · (have q1:decide ((0:Int)<=hs[j])=false:=by rw[decide_eq_false_iff_not];omega);(go_wp2_with fail);(go_quiet ((go_at_call 36;exact zbO (BU _ _ _ _))));(go_wp2_with fail);(go_ret);exact FIN.out (ll hs j hjl (.inl hx)) (ag HBX.out _)
             · (have q1:decide ((0:Int)<=hs[j])=true:=by rw[decide_eq_true_iff];omega);(have q2:decide (hs[j]<=(11:Int))=false:=by rw[decide_eq_false_iff_not];omega);(go_wp2_with fail);(go_quiet ((go_at_call 36;exact zbO (BU _ _ _ _))));(go_wp2_with fail);(go_ret);exact FIN.out (ll hs j hjl (.inr hx)) (ag HBX.out _)
             · (have q1:decide ((0:Int)<=hs[j])=true:=by rw[decide_eq_true_iff];omega);(have q2:decide (hs[j]<=(11:Int))=true:=by rw[decide_eq_true_iff];omega);(go_wp2_with fail);rcases zaG j with h0|h0
               · subst h0;simp only[zbH]at g1;(have q3:(0:Int)<(hs.length:Int):=by omega);(go_quiet ((go_at_call 36;exact zbO (BU _ _ _ _))));(go_wp2_with fail);(go_roundw);(case rel=>exact⟨1,by omega,by go_num,by rw[HHO.out];exact o7 hs hjl ⟨hx1,hx2⟩,ag HBY.out _,hNx⟩);case measure=>simp[intOf];omega
               · obtain⟨m,rfl⟩:∃m,j=m+1:=⟨j-1,by omega⟩;(have hm:m<hs.length:=by omega);(have r2:(m:Int)<(hs.length:Int):=by omega);have r0:(0:Int)<=(m:Int):=zai _;obtain⟨g2,_⟩:=HSLX.out.int hm;(have hd:decide ((0:Int)<(m:Int)+1)=true:=by rw[decide_eq_true_iff];omega);by_cases ho:hs[m+1]<=hs[m]
                 · (have q3:decide (hs[m+1]<=hs[m])=true:=by rw[decide_eq_true_iff];exact ho);have HO:=zaa ho;(have hw:IntKind.i64.wrap (m:Int)=(m:Int):=by rw[IntKind.wrap_i64];omega);clear ho;(go_quiet ((go_at_call 36;exact zbO (BU _ _ _ _))));clear hw;(go_wp2_with fail);(go_ret);exact FIN.out (o6 hs m hjl HO.out) (ag HBX.out _)
                 · (have q3:decide (hs[m+1]<=hs[m])=false:=by rw[decide_eq_false_iff_not];exact ho);have HO:=zaa ho;(have hw:IntKind.i64.wrap (m:Int)=(m:Int):=by rw[IntKind.wrap_i64];omega);clear ho;(go_quiet ((go_at_call 36;exact zbO (BU _ _ _ _))));clear hw;(go_wp2_with fail);(go_roundw);(case rel=>exact⟨m+1+1,by omega,by go_num,by rw[HHO.out];exact qR hs m hjl ⟨hx1,hx2⟩ (by have:=HO.out;omega),ag HBY.out _,hNx⟩);case measure=>simp[intOf];omega
          · have hok:aX xs[k]=0:=rQ HF.out (by rw[HHS.out,HHO.out];exact uh hs j (by omega) _);have HOK:=zaa hok;clear hok;rcases zaG k with h0|h0
            · subst h0;(go_wp2_with fail);(go_quiet (fail));(go_wp2_with fail);(go_roundw);(case rel=>exact⟨1,by omega,by go_num,ag HBX.out _,by rw[HS.out];exact gw xs hlt HOK.out⟩);case measure=>simp[intOf];omega
            · obtain⟨m,rfl⟩:∃m,k=m+1:=⟨k-1,by omega⟩;(have hm:m<xs.length:=by omega);obtain⟨_,g1,g2,z3,z4,z5,z6,z7⟩:=(H.out.below HBX.out).route hm;clear z3 z4 z5 z6 z7;(have q2:(m:Int)<(xs.length:Int):=by omega);have q0:(0:Int)<=(m:Int):=zai _;(have hw:IntKind.i64.wrap (m:Int)=(m:Int):=by rw[IntKind.wrap_i64];omega);obtain⟨ob,hob⟩:∃ob,ak xs[m].pre xs[m+1].pre=ob:=⟨_,rfl⟩;have HOB:=zaa hob;clear hob;(go_wp2_with fail);refine gu 11 (by kernel_rfl) (by kernel_rfl) ?_;intro wd hwd;(have hbd:Below w.heap.size w wd:=by rw[hwd];exact HBX.out.drew);have HBD:=zaa hbd;(have g1':wd.cell? ⟨b,off+m*5,none⟩=some (.int .i64 xs[m].pre.addr):=by rw[hwd,zaY];exact g1);(have g2':wd.cell? ⟨b,off+m*5+1,none⟩=some (.int .i64 xs[m].pre.bits):=by rw[hwd,zaY];exact g2);have hN':∀i,wd.cell? ⟨wo.heap.size,i,none⟩= #[Value.int .i64 xs[m+1].pre.addr,.int .i64 xs[m+1].pre.bits,.bool xs[m+1].here,.int .i64 xs[m+1].cost,.slice A2 hs.length c2][i]? :=by
               intro i;rw[hwd,zaY];exact hNx i
              clear hwd hbd g1 g2 hNx;simp only[zbz,zcw,zbD,List.drop_zero];(iterate 11 still_step);refine wpStill_nil ?_;(go_wp2_with fail);refine(pD xs[m+1].pre xs[m].pre _).mono ?_;rw[HOB.out];rintro e w2 ⟨rfl,hb2⟩;have HB2:=zaa (HBD.out.trans (hb2.mono HBD.out.size));clear hb2 hw;rcases ob with _|_
              · (go_wp2_with fail);(go_ret);exact⟨ei (by rw[HS.out,fI xs m hlt HOK.out HOB.out]),HB2.out⟩
              · (go_wp2_with fail);(go_roundw);(case rel=>exact⟨m+1+1,by omega,by go_num,HB2.out,by rw[HS.out];exact gO xs m hlt HOK.out HOB.out⟩);case measure=>simp[intOf];omega
      · (have hbad:aX xs[k]=4:=by unfold aX;rw[hf];rfl);have HBAD:=zaa hbad;clear hbad hf;have fin:∀{w2:World},Below w.heap.size w w2->(Ending.returned (.int .i64 4)=Ending.returned (.int .i64 (ah xs))/\Below w.heap.size w w2):=
         fun hb=>⟨ei (by rw[HS.out,gy xs k hlt (by rw[HBAD.out];decide)];exact HBAD.out.symm),hb⟩
        have FIN:=zaa (fin HB1.out);clear fin;rcases hcase with hp|⟨hp,hc⟩|⟨hp,hc1,hc2,hc⟩
        · (have t1:(aq xs[k].pre !=0)=true:=by simp[hp]);clear hp;(go_wp2_with fail);(go_ret);exact FIN.out
        · (have t1:(aq xs[k].pre !=0)=false:=by simp[hp]);clear hp;rcases hc with hc|hc
          · (have t2:decide ((0:Int)<=xs[k].cost)=false:=by rw[decide_eq_false_iff_not];omega);(go_wp2_with (go_at_call 36;refine(aU _ _ _ _).mono ?_;rintro e w' ⟨rfl,rfl⟩));(go_ret);exact FIN.out
          · (have t2:decide ((0:Int)<=xs[k].cost)=true:=by rw[decide_eq_true_iff];omega);(have t3:decide (xs[k].cost<=(1048576:Int))=false:=by rw[decide_eq_false_iff_not];omega);(go_wp2_with (go_at_call 36;refine(aU _ _ _ _).mono ?_;rintro e w' ⟨rfl,rfl⟩));(go_ret);exact FIN.out
        · (have t1:(aq xs[k].pre !=0)=false:=by simp[hp]);(have t2:decide ((0:Int)<=xs[k].cost)=true:=by rw[decide_eq_true_iff];omega);(have t3:decide (xs[k].cost<=(1048576:Int))=true:=by rw[decide_eq_true_iff];omega);clear hp;rcases hc with⟨hh,hc⟩|⟨hh,hc,hn⟩|⟨hh,hn⟩
          · (have t4:(0:Int)<xs[k].cost:=by omega);clear hc;(go_wp2_with (go_at_call 36;refine(aU _ _ _ _).mono ?_;rintro e w' ⟨rfl,rfl⟩));(go_ret);exact FIN.out
          · (have t4:¬ (0:Int)<xs[k].cost:=by omega);(have t5:decide (0<hs.length)=true:=by rw[decide_eq_true_iff];exact hn);clear hc hn;(go_wp2_with (go_at_call 36;refine(aU _ _ _ _).mono ?_;rintro e w' ⟨rfl,rfl⟩));(go_ret);exact FIN.out
          · (have t5:¬ 0<hs.length:=by omega);clear hn;(go_wp2_with (go_at_call 36;refine(aU _ _ _ _).mono ?_;rintro e w' ⟨rfl,rfl⟩));(go_ret);exact FIN.out
    · (go_wp2_with fail);(go_ret);exact⟨ei (by rw[HS.out,lS xs k (by omega)]),hB⟩
theorem py(v:Value)(xs:List Int)(w:World)(h:Sl aI w v xs)(hl:xs.length<=1000000):
  Calls Tryz.prog 112 #[v] w fun e w'=>∃v',e= .returned v'/\OwR aI 3 w.heap.size w' v' xs/\Below w.heap.size w w':=by
 have q1:=fun(wx:World) (a:Option Addr) (n c:Nat)=>Lib.run_eql_slice_nil (P:=Tryz.prog) wx 54 3 a n c 0 0 Tryz.underlying54;obtain⟨A,c,rfl⟩:=h.form;have H:=zaa h;clear h;rcases A with _|ad
 · have hx:xs=[]:=by
    rcases zaG xs.length with h0|h0
    · exact zaH h0
    · obtain⟨_,_,h,_⟩:=H.out.at_ h0;cases h
   subst hx;(go_enter Tryz.func112,Tryz.ntmps112);(go_wp2_with fail);(go_ret);exact⟨_,rfl,OwR.nil _ _ (zab _),zac _ _⟩
 · have hB0:Below w.heap.size w (w.alloc (.cells #[] 3)):=(zac _ _).alloc (zab _) _;have hown:OwR aI 3 w.heap.size (w.alloc (.cells #[] 3)) (.slice (some ⟨w.heap.size,0,none⟩) 0 0) []:=⟨[],rfl,fun i cs x h=>by simp at h,World.ownsRow_made w #[] 0 (zab _) (zap _) (by simp),by simp⟩;have H1:=zaa (H.out.below hB0);have HB0:=zaa hB0;have HO:=zaa hown;clear hB0 hown;(go_enter Tryz.func112,Tryz.ntmps112);(go_wp2_with (at_builtin;refine bD (base:=w.heap.size) rfl _ _ rfl fD HO.out H1.out rfl rfl (fun _ _ h=>h) (by simp;unfold maxLen;omega) (by simp;omega) ?_;intro v1 w1 ho1 hg1 hb1));(go_ret);exact⟨v1,rfl,ho1,HO.out.below_grown HB0.out hg1⟩
theorem xk:((List.range 256).all fun a=>(List.range 9).all fun n=>bits .andNot .i64 (a:Int) ((255:Int)/2^n)==(a:Int)-(a:Int)%((256/2^n:Nat):Int))=true:=by kernel_rfl
theorem uZ(a b:Int)(h1:0<=b)(h2:b<=8)(h3:0<=a)(h4:a<=255):bits .andNot .i64 a (255/2^b.toNat)=a-a%b7 b:=by
 obtain⟨n,rfl⟩:=zaZ h1;obtain⟨m,rfl⟩:=zaZ h3;have h:=xk;rw[zcm]at h;have h':=h m (zbT.2 (by omega));rw[zcm]at h';have h'':=h' n (zbT.2 (by omega));rw[zaX];unfold b7;rw[zaX];exact eq_of_beq h''
theorem qm(b:Int)(h1:0<=b)(h2:b<=8):1<=b7 b/\b7 b<=256:=by
 obtain⟨q,rfl⟩:=zaZ h1;unfold b7;rw[zaX];have:∀q,q<=8->(1:Int)<=((256/2^q:Nat):Int)/\((256/2^q:Nat):Int)<=256:=by decide
 exact this q (by omega)
def bW:af:=⟨⟨0,0⟩,false,0,[]⟩
def fv(addr:Int)(r:af):Bool:=addr-addr%b7 r.pre.bits==r.pre.addr
def gV(xs:List af)(k:Nat):Option Nat->Bool
 | none=>true
 | some j=>decide ((xs.getD j bW).pre.bits<(xs.getD k bW).pre.bits)
def cW(xs:List af)(addr:Int):Nat->Option Nat
 | 0=>none
 | k+1=>if fv addr (xs.getD k bW)&&gV xs k (cW xs addr k)then some k else cW xs addr k
theorem rB(xs:List af)(addr:Int):∀k,cW xs addr k=none->∀i,i<k->fv addr (xs.getD i bW)=false:=by
 intro k
 induction k with
 | zero=>intro _ i hi;omega
 | succ k ih=>
   intro h i hi;unfold cW at h;split at h
   · cases h
   · rename_i hc;have h0:=ih h;by_cases e:i=k
     · subst e;rw[h]at hc;simpa [gV]using hc
     · exact h0 i (by omega)
theorem ix(xs:List af)(addr:Int):∀k j,cW xs addr k=some j->j<k/\fv addr (xs.getD j bW)=true/\
  ∀i,i<k->fv addr (xs.getD i bW)=true->(xs.getD i bW).pre.bits<(xs.getD j bW).pre.bits∨((xs.getD i bW).pre.bits=(xs.getD j bW).pre.bits/\j<=i):=by
 intro k
 induction k with
 | zero=>intro j h;cases h
 | succ k ih=>
   intro j h;unfold cW at h;split at h
   · rename_i hc;injection h with h;subst h;rw[Bool.and_eq_true]at hc;refine⟨by omega,hc.1,fun i hi hm=> ?_⟩;by_cases e:i=k
     · subst e;right;exact⟨rfl,zab _⟩
     · rcases hb:cW xs addr k with _|b
       · have:=rB xs addr k hb i (by omega);rw[hm]at this;cases this
       · have h2:=hc.2;rw[hb]at h2;simp only[gV,decide_eq_true_eq]at h2;obtain⟨_,_,h3⟩:=ih b hb;rcases h3 i (by omega) hm with h4|⟨h4,_⟩<;>left<;>omega
   · rename_i hc;obtain⟨h1,h2,h3⟩:=ih j h;refine⟨by omega,h2,fun i hi hm=> ?_⟩;by_cases e:i=k
     · subst e;rw[h,hm]at hc;simp[gV]at hc;by_cases e2:(xs.getD i bW).pre.bits=(xs.getD j bW).pre.bits
       · right;exact⟨e2,by omega⟩
       · left;simp only[zay]at e2⊢;omega
     · exact h3 i (by omega) hm
theorem DE(xs:List af)(addr:Int)(k j:Nat)(hj:j<k)(hm:fv addr (xs.getD j bW)=true)
  (h:∀i,i<k->fv addr (xs.getD i bW)=true->(xs.getD i bW).pre.bits<(xs.getD j bW).pre.bits∨((xs.getD i bW).pre.bits=(xs.getD j bW).pre.bits/\j<=i)):cW xs addr k=some j:=by
 rcases hb:cW xs addr k with _|b
 · have:=rB xs addr k hb j hj;rw[hm]at this;cases this
 · obtain⟨h1,h2,h3⟩:=ix xs addr k b hb;rcases h b h1 h2 with a|⟨a,a'⟩<;>rcases h3 j hj hm with c|⟨c,c'⟩
   · omega
   · omega
   · omega
   · (have:j=b:=by omega);rw[this]
theorem DD(xs:List af)(addr:Int)(k:Nat)(h:∀i,i<k->fv addr (xs.getD i bW)=false):cW xs addr k=none:=by
 rcases hb:cW xs addr k with _|b
 · rfl
 · obtain⟨h1,h2,_⟩:=ix xs addr k b hb;rw[h b h1]at h2;cases h2
def bX(xs:List af)(addr:Int):af × Int:=
 if ah xs≠0 then(bW,ah xs)else if addr<0∨255<addr then(bW,2)else
 match cW xs addr xs.length with
 | none=>(bW,6)
 | some j=>(xs.getD j bW,0)
theorem tY{xs:List af}{addr:Int}(h:ah xs≠0):bX xs addr=(bW,ah xs):=by unfold bX;rw[if_pos h]
theorem oS{xs:List af}{addr:Int}(h:ah xs=0)(h2:addr<0∨255<addr):bX xs addr=(bW,2):=by unfold bX;rw[if_neg (by simp[h]),if_pos h2]
theorem qM{xs:List af}{addr:Int}(h:ah xs=0)(h2:0<=addr/\addr<=255)(h3:cW xs addr xs.length=none):bX xs addr=(bW,6):=by
 unfold bX;rw[if_neg (by simp[h]),if_neg (by omega),h3]
theorem qL{xs:List af}{addr:Int}(h:ah xs=0)(h2:0<=addr/\addr<=255){j:Nat}(h3:cW xs addr xs.length=some j)(hj:j<xs.length):bX xs addr=(xs[j],0):=by
 unfold bX;rw[if_neg (by simp[h]),if_neg (by omega),h3];simp[List.getD,hj]
theorem vL{α:Type}{bad:α->Int}{ord:α->α->Bool}(l:List α):∀n k,l.length<=n+k->br bad ord l n k=0->∀j,k<=j->(h:j<l.length)->bad l[j]=0/\∀m,(hm:m+1=j)->(h0:bad l[j]=0)->k<j->ord l[m] l[j]=true:=by
 intro n
 induction n with
 | zero=>intro k hk _ j hj h;omega
 | succ n ih=>
   intro k hk h0 j hj h;(have hkl:k<l.length:=by omega);unfold br at h0;rw[zad hkl]at h0;simp only at h0;by_cases hb:bad l[k]≠0
   · rw[if_pos hb]at h0;exact absurd h0 hb
   · rw[if_neg hb]at h0;(have hb':bad l[k]=0:=by simpa using hb);(have h7:∀(b:Bool) (z:Int),(if b=true then 7 else z)=0->b=false/\z=0:=fun b z h=>by cases b<;>simp at h⊢;exact h);obtain⟨ho,h1⟩:=h7 _ _ h0;by_cases e:k=j
     · subst e;exact⟨hb',fun m hm _ hlt=>by omega⟩
     · obtain⟨i1,i2⟩:=ih (k+1) (by omega) h1 j (by omega) h;refine⟨i1,fun m hm hz _=> ?_⟩;by_cases e2:k+1=j
       · subst e2;(have:m=k:=by omega);subst this;obtain⟨n',hn'⟩:∃n',n=n'+1:=⟨n-1,by omega⟩;rw[hn']at h1;unfold br at h1;rw[zad h]at h1;simp only at h1;rw[if_neg (by simpa using hz)]at h1;obtain⟨ho2,_⟩:=h7 _ _ h1;have e3:l[m]? =some l[m]:=zad hkl;rw[e3]at ho2;simpa using ho2
       · exact i2 m hm hz (by omega)
theorem fk{xs:List af}(h:ah xs=0):xs.length<=200/\∀j,(hj:j<xs.length)->aX xs[j]=0:=by
 unfold ah at h;split at h
 · cases h
 · exact⟨by omega,fun j hj=>(vL xs _ 0 (by omega) h j (by omega) hj).1⟩
theorem eH{p:ae}(h:aq p=0):0<=p.bits/\p.bits<=8/\0<=p.addr/\p.addr<=255:=by
 unfold aq at h;split at h
 · assumption
 · cases h
theorem Du{l:List Int}(h:gZ l=true):l.length<=12/\∀i,(hi:i<l.length)->(i:Int)<=l[i]/\l[i]<=11:=by
 have key:∀n k,l.length<=n+k->cz l n k=true->∀j,k<=j->(hj:j<l.length)->0<=l[j]/\l[j]<=11/\∀m,(hm:m+1=j)->l[m]<l[j]:=by
  intro n
  induction n with
  | zero=>intro k hk _ j hj h;omega
  | succ n ih=>
    intro k hk h0 j hj hjl;(have hkl:k<l.length:=by omega);unfold cz at h0;rw[zad hkl]at h0;simp only[Bool.and_eq_true,decide_eq_true_eq]at h0;obtain⟨⟨⟨a,b⟩,c⟩,d⟩:=h0;by_cases e:k=j
    · subst e;refine⟨a,b,fun m hm=> ?_⟩;subst hm;have e3:l[m]? =some l[m]:=zad (by omega);simpa [e3]using c
    · exact ih (k+1) (by omega) d j (by omega) hjl
 have k2:=key _ 0 (by omega) h;have k3:∀i,(hi:i<l.length)->(i:Int)<=l[i]:=by
  intro i
  induction i with
  | zero=>intro hi;exact(k2 0 (by omega) hi).1
  | succ i ih=>
    intro hi;have h1:=ih (by omega);have h2:=(k2 (i+1) (by omega) hi).2.2 i rfl;omega
 refine⟨?_,fun i hi=>⟨k3 i hi,(k2 i (by omega) hi).2.1⟩⟩;rcases zbF l.length 13 with h13|h13
 · omega
 · have h1:=k3 12 (by omega);have h2:=(k2 12 (by omega) (by omega)).2.1;omega
theorem dy{r:af}(h:aX r=0):aq r.pre=0/\r.hops.length<=12:=by
 unfold aX at h;split at h
 · rename_i hc;rw[Bool.and_eq_true]at hc;refine⟨?_,(Du hc.2).1⟩;have:=hc.1;unfold eh at this;simp only[Bool.and_eq_true,decide_eq_true_eq]at this;exact this.1.1.1
 · cases h
end
section
open Go.RowKit
def bA(a b:ae):Bool:=a.addr==b.addr&&a.bits==b.bits
def j7(x r:af):Bool:=bA x.pre r.pre&&(x.here==r.here&&(x.cost==r.cost&&x.hops==r.hops))
theorem aO(a b:ae):bA a b=true↔a=b:=by
 cases a;cases b;simp[bA]
theorem iG(a:ae):bA a a=true:=(aO a a).2 rfl
def oZ(a:List af)(r:af):Bool:=a.any fun x=>j7 x r
def mB(b:List af)(r:af):Bool:=b.any fun x=>bA x.pre r.pre
def dM(a b:List af):List af:=b.filter fun r=> !oZ a r
def cP(a b:List af):List ae:=(a.filter fun r=> !mB b r).map af.pre
def mH(a b:List af):List af × List ae × Int:=
 if ah a≠0 then([],[],ah a)else if ah b≠0 then([],[],ah b)else(dM a b,cP a b,0)
theorem Aa{a b:List af}(h:ah a≠0):mH a b=([],[],ah a):=by unfold mH;rw[if_pos h]
theorem z8{a b:List af}(h:ah a=0)(h2:ah b≠0):mH a b=([],[],ah b):=by unfold mH;rw[if_neg (by simp[h]),if_pos h2]
theorem yu{a b:List af}(h:ah a=0)(h2:ah b=0):mH a b=(dM a b,cP a b,0):=by unfold mH;rw[if_neg (by simp[h]),if_neg (by simp[h2])]
theorem ft{p q r:ae}(h:ak p q=true)(h':ak q r=true):ak p r=true:=by
 rw[aF]at*;omega
theorem Bx{p q:ae}(h:ak p q=true):bA p q=false:=by
 rw[Bool.eq_false_iff];intro e;rw[(aO p q).1 e,aF]at h;omega
theorem og{xs:List af}(h:ah xs=0){i j:Nat}(hij:i<j)(hj:j<xs.length):ak xs[i].pre xs[j].pre=true:=by
 have hseq:br aX ia xs (xs.length-0) 0=0:=by
  unfold ah at h;split at h
  · cases h
  · exact h
 have adj:∀m,(hm:m+1<xs.length)->ak xs[m].pre xs[m+1].pre=true:=by
  intro m hm;obtain⟨h1,h2⟩:=vL xs _ 0 (by omega) hseq (m+1) (by omega) hm;exact h2 m rfl h1 (by omega)
 have key:∀d i,(h:i+d+1<xs.length)->ak xs[i].pre xs[i+d+1].pre=true:=by
  intro d
  induction d with
  | zero=>intro i h;exact adj i h
  | succ d ih=>intro i h;exact ft (ih i (by omega)) (adj (i+d+1) (by omega))
 have:=key (j-i-1) i (by omega);have e:i+(j-i-1)+1=j:=by omega
 simpa only[e]using this
theorem Ef{a b:List af}{k:Nat}(h:k<b.length):((b.take (k+1)).filter fun r=> !oZ a r)=((b.take k).filter fun r=> !oZ a r)++(if oZ a b[k]then []else [b[k]]):=by
 rw[zar h,zbV];congr 1;rcases e:oZ a b[k]with _|_<;>simp[e]
theorem Dw{a b:List af}{k:Nat}(h:k<a.length):(((a.take (k+1)).filter fun r=> !mB b r).map af.pre)=(((a.take k).filter fun r=> !mB b r).map af.pre)++(if mB b a[k]then []else [a[k].pre]):=by
 rw[zar h,zbV,zbe];congr 1;rcases e:mB b a[k]with _|_<;>simp[e]
theorem pj{α:Type}(p:α->Bool)(l:List α)(k:Nat):((l.take k).filter p).length<=l.length:=by
 refine zax (zbC _ _) ?_;rw[zat];omega
end
section
open Go
instance:DecidableEq ae:=fun a b=>decidable_of_iff _ (aO a b)
def dz:List Int:=(List.range 12).map fun(k:Nat)=>(k:Int)
def iX(a b:List Int):List Int:=dz.filter fun k=>a.contains k||b.contains k
def fT(x r:af):af:=if(r.here||(!x.here&&decide (r.cost<x.cost)))=true then r else if(!x.here&&r.cost==x.cost)=true then{x with hops:=iX x.hops r.hops}else x
def fA:List af->af->List af
 | [],r=>[r]
 | x::l,r=>if ak x.pre r.pre=true then x::fA l r else if bA x.pre r.pre=true then fT x r::l else r::x::l
def aE(l:List af):Prop:=l.Pairwise fun a b=>ak a.pre b.pre=true
def atP(l:List af)(p:ae):Option af:=l.find? fun x=>bA x.pre p
def l7:Option af->af->af
 | none,r=>r
 | some x,r=>fT x r
theorem vN(a b:ae):bA a b=bA b a:=by
 rw[Bool.eq_iff_iff,aO,aO];exact⟨Eq.symm,Eq.symm⟩
theorem AY{a b:ae}(h:a≠b):bA a b=false:=by
 rw[Bool.eq_false_iff];exact fun e=>h ((aO a b).1 e)
theorem sf(p:ae):ak p p=false:=by
 rw[Bool.eq_false_iff];intro h;rw[aF]at h;omega
theorem lZ{p q:ae}(h:ak p q=false)(h2:bA p q=false):ak q p=true:=by
 rw[aF];have h1:¬ (p.addr<q.addr∨(p.addr=q.addr/\p.bits<q.bits)):=fun e=>by rw[(aF p q).2 e]at h;cases h
 have h3:¬ (p.addr=q.addr/\p.bits=q.bits):=fun e=>by
  rw[Bool.eq_false_iff]at h2;exact h2 (by unfold bA;simp[e.1,e.2])
 omega
theorem fC{p q:ae}(h:ak p q=true):p≠q:=fun e=>by rw[e,sf]at h;cases h
theorem nG{x r:af}(h:x.pre=r.pre):(fT x r).pre=r.pre:=by
 unfold fT;split
 · rfl
 · split
   · exact h
   · exact h
theorem BH{l:List af}{r y:af}(h:y∈fA l r):y.pre=r.pre∨y∈l:=by
 induction l with
 | nil=>simp[fA]at h;exact .inl (by rw[h])
 | cons x l ih=>
   unfold fA at h;split at h
   · rcases zaS.1 h with e|e
     · exact .inr (by simp[e])
     · rcases ih e with e|e
       · exact .inl e
       · exact .inr (by simp[e])
   · split at h
     · rename_i _ hs;rcases zaS.1 h with e|e
       · exact .inl (by rw[e,nG ((aO _ _).1 hs)])
       · exact .inr (by simp[e])
     · rcases zaS.1 h with e|e
       · exact .inl (by rw[e])
       · exact .inr e
theorem vF{l:List af}(h:aE l)(r:af):aE (fA l r):=by
 induction l with
 | nil=>simp[fA,aE]
 | cons x l ih=>
   obtain⟨h1,h2⟩:=zaP.1 h;unfold fA;split
   · rename_i hx;refine zaP.2 ⟨fun y hy=> ?_,ih h2⟩;rcases BH hy with e|e
     · rw[e];exact hx
     · exact h1 y e
   · rename_i hx;split
     · rename_i hs;have e:=(aO _ _).1 hs;refine zaP.2 ⟨fun y hy=> ?_,h2⟩;rw[nG e,<-e];exact h1 y hy
     · rename_i hs;have hrx:=lZ (by simpa using hx) (by simpa using hs);refine zaP.2 ⟨fun y hy=> ?_,h⟩;rcases zaS.1 hy with e|e
       · rw[e];exact hrx
       · exact ft hrx (h1 y e)
theorem d9{l:List af}{p:ae}(h:∀y∈l,y.pre≠p):atP l p=none:=by
 unfold atP;rw[zbQ];intro x hx e;exact h x hx ((aO _ _).1 e)
theorem bN(x:af)(l:List af)(p:ae):atP (x::l) p=if x.pre=p then some x else atP l p:=by
 unfold atP;rw[List.find?_cons];by_cases e:x.pre=p
 · rw[if_pos e,(aO _ _).2 e]
 · rw[if_neg e,AY e]
theorem ux{l:List af}(h:aE l)(r:af)(p:ae):atP (fA l r) p=if r.pre=p then some (l7 (atP l p) r)else atP l p:=by
 induction l with
 | nil=>unfold fA;rw[bN];rfl
 | cons x l ih=>
   obtain⟨h1,h2⟩:=zaP.1 h;unfold fA;split
   · rename_i hx;rw[bN,bN,ih h2];by_cases e:x.pre=p
     · rw[if_pos e,if_pos e,if_neg (fun e2=>fC hx (e.trans e2.symm))]
     · rw[if_neg e,if_neg e]
   · rename_i hx;split
     · rename_i hs;have e:=(aO _ _).1 hs;rw[bN,bN,nG e,e];by_cases e2:r.pre=p
       · rw[if_pos e2,if_pos e2,if_pos e2];rfl
       · rw[if_neg e2,if_neg e2,if_neg e2]
     · rename_i hs;have hrx:=lZ (by simpa using hx) (by simpa using hs);rw[bN r];by_cases e2:r.pre=p
       · rw[if_pos e2,if_pos e2,d9]
         · rfl
         · intro y hy e;rcases zaS.1 hy with e3|e3
           · rw[e3,<-e2]at e;exact fC hrx e.symm
           · rw[<-e2]at e;exact fC (ft hrx (h1 y e3)) e.symm
       · rw[if_neg e2,if_neg e2]
theorem nz{l:List af}{p:ae}{r:af}(h:atP l p=some r):r∈l/\r.pre=p:=by
 unfold atP at h;have h2:=List.find?_some h;exact⟨List.mem_of_find?_eq_some h,(aO _ _).1 h2⟩
theorem jO{l:List af}(h:aE l){r:af}(hr:r∈l):atP l r.pre=some r:=by
 induction l with
 | nil=>cases hr
 | cons x l ih=>
   obtain⟨h1,h2⟩:=zaP.1 h;rw[bN];rcases zaS.1 hr with e|e
   · rw[e,if_pos rfl]
   · rw[if_neg (fC (h1 r e)),ih h2 e]
theorem ki:∀{l m:List af},aE l->aE m->(∀p,atP l p=atP m p)->l=m
 | [],[],_,_,_=>rfl
 | [],y::m,_,hm,h=>by
   have:=h y.pre;rw[jO hm (by simp)]at this;cases this
 | x::l,[],hl,_,h=>by
   have:=h x.pre;rw[jO hl (by simp)]at this;cases this
 | x::l,y::m,hl,hm,h=>by
   obtain⟨h1,h2⟩:=zaP.1 hl;obtain⟨g1,g2⟩:=zaP.1 hm;(have hx:atP (y::m) x.pre=some x:=by rw[<-h];exact jO hl (by simp));(have hy:atP (x::l) y.pre=some y:=by rw[h];exact jO hm (by simp));have hxy:x=y:=by
    rcases zaS.1 (nz hx).1 with e|e
    · exact e
    · rcases zaS.1 (nz hy).1 with e2|e2
      · exact e2.symm
      · have:=ft (g1 x e) (h1 y e2);rw[sf]at this;cases this
   subst hxy;have:l=m:=ki h2 g2 (fun p=>by
    have hp:=h p;rw[bN,bN]at hp;by_cases e:x.pre=p
    · rw[d9,d9]
      · intro z hz e2;exact fC (g1 z hz) (e.trans e2.symm)
      · intro z hz e2;exact fC (h1 z hz) (e.trans e2.symm)
    · rw[if_neg e,if_neg e]at hp;exact hp)
   rw[this]
def dO(n:Nat):ByteArray:=bOf ([112,58]++Lib.decDigits n)
def ar(xs:List ab)(n:Nat):List ae:=match bR xs (dO n)with|some e=>(bG e.value.data.toList).1|none=>[]
def inP(l:List ae)(p:ae):Bool:=l.any fun q=>bA q p
theorem iM(l:List ae)(p:ae):inP l p=true↔p∈l:=by
 unfold inP;rw[zbp];constructor
 · rintro⟨q,h1,h2⟩;rw[<-(aO _ _).1 h2];exact h1
 · intro h;exact⟨p,h,iG p⟩
def bv(xs:List ab)(s n:Nat)(p:ae):Option af:=
 if n=s then some ⟨p,true,0,[]⟩else if 0<=(ax xs s n).cost then some ⟨p,false,(ax xs s n).cost,(ax xs s n).hops⟩else none
def g9(xs:List ab)(s n:Nat)(l:List af)(p:ae):List af:=match bv xs s n p with|none=>l|some r=>fA l r
def jb(xs:List ab)(s n:Nat)(l:List af)(ps:List ae):List af:=ps.foldl (g9 xs s n) l
def cH(xs:List ab)(s:Nat):Nat->List af
 | 0=>[]
 | n+1=>jb xs s n (cH xs s n) (ar xs n)
def mX(xs:List ab)(s:Nat)(p:ae):Nat->Option af
 | 0=>none
 | n+1=>if inP (ar xs n) p=true then(match bv xs s n p with|none=>mX xs s p n|some r=>some (l7 (mX xs s p n) r))else mX xs s p n
theorem kV{xs:List ab}{s n:Nat}{p:ae}{r:af}(h:bv xs s n p=some r):r.pre=p:=by
 unfold bv at h;split at h
 · injection h with h;rw[<-h]
 · split at h
   · injection h with h;rw[<-h]
   · cases h
theorem tl{xs:List ab}{s n:Nat}{l:List af}(h:aE l)(p:ae):aE (g9 xs s n l p):=by
 unfold g9;split
 · exact h
 · exact vF h _
theorem q8{xs:List ab}{s n:Nat}{l:List af}(h:aE l)(q p:ae):
  atP (g9 xs s n l q) p=if q=p then(match bv xs s n p with|none=>atP l p|some r=>some (l7 (atP l p) r))else atP l p:=by
 unfold g9;by_cases e:q=p
 · subst e;rw[if_pos rfl];cases hr:bv xs s n q with
   | none=>rfl
   | some r=>show atP (fA l r) q=_;rw[ux h,if_pos (kV hr)]
 · rw[if_neg e];cases hr:bv xs s n q with
   | none=>rfl
   | some r=>show atP (fA l r) p=_;rw[ux h,if_neg (by rw[kV hr];exact e)]
theorem od{xs:List ab}{s n:Nat}:∀(ps:List ae) (l:List af),aE l->ps.Pairwise (fun a b=>ak a b=true)->
  aE (jb xs s n l ps)/\∀p,atP (jb xs s n l ps) p=if inP ps p=true then(match bv xs s n p with|none=>atP l p|some r=>some (l7 (atP l p) r))else atP l p
 | [],l,hl,_=>⟨hl,fun p=>by rw[if_neg (by simp[inP])];rfl⟩
 | q::ps,l,hl,hp=>by
   obtain⟨h1,h2⟩:=zaP.1 hp;obtain⟨g1,g2⟩:=od ps (g9 xs s n l q) (tl hl q) h2;refine⟨g1,fun p=> ?_⟩;show atP (jb xs s n (g9 xs s n l q) ps) p=_;rw[g2 p];by_cases e:q=p
   · subst e;have hno:¬ inP ps q=true:=fun hc=>by
      rw[iM]at hc;exact fC (h1 q hc) rfl
     rw[if_neg hno,q8 hl,if_pos rfl,if_pos (by rw[iM];simp)]
   · have hin:inP (q::ps) p=inP ps p:=by
      rw[Bool.eq_iff_iff,iM,iM,zaS];exact⟨fun h=>h.resolve_left (fun x=>e x.symm),.inr⟩
     rw[hin,q8 hl,if_neg e]
theorem nN{xs:List ab}{s:Nat}(hp:∀n,(ar xs n).Pairwise (fun a b=>ak a b=true)):∀n,aE (cH xs s n)/\∀p,atP (cH xs s n) p=mX xs s p n
 | 0=>⟨List.Pairwise.nil,fun _=>rfl⟩
 | n+1=>by
   obtain⟨h1,h2⟩:=nN hp n;obtain⟨g1,g2⟩:=od (xs:=xs) (s:=s) (n:=n) _ _ h1 (hp n);refine⟨g1,fun p=> ?_⟩;show atP (jb xs s n (cH xs s n) (ar xs n)) p=_;rw[g2 p,h2 p];rfl
def okN(xs:List ab)(s:Nat)(p:ae)(n:Nat):Bool:=decide (n≠s)&&decide (0<=(ax xs s n).cost)&&inP (ar xs n) p
def av(xs:List ab)(s:Nat)(p:ae):Nat->Int
 | 0=> -1
 | n+1=>if okN xs s p n=true/\(av xs s p n<0∨(ax xs s n).cost<av xs s p n)then(ax xs s n).cost else av xs s p n
def atN(xs:List ab)(s:Nat)(p:ae)(c:Int)(h:Int)(n:Nat):Bool:=decide (n≠s)&&decide ((ax xs s n).cost=c)&&inP (ar xs n) p&&(ax xs s n).hops.contains h
def cf(xs:List ab)(s:Nat)(p:ae)(c:Int)(h:Int):Nat->Bool
 | 0=>false
 | n+1=>cf xs s p c h n||atN xs s p c h n
def dd(xs:List ab)(s:Nat)(p:ae)(c:Int):Nat->List Int
 | 0=>[]
 | h+1=>if cf xs s p c (h:Int) 12=true then dd xs s p c h++[(h:Int)]else dd xs s p c h
def cu(xs:List ab)(s:Nat)(p:ae):Option af:=
 if inP (ar xs s) p=true then some ⟨p,true,0,[]⟩else if av xs s p 12<0 then none else some ⟨p,false,av xs s p 12,dd xs s p (av xs s p 12) 12⟩
theorem ov{xs:List ab}{s:Nat}{p:ae}:∀n,-1<=av xs s p n/\∀m,m<n->okN xs s p m=true->0<=av xs s p n/\av xs s p n<=(ax xs s m).cost
 | 0=>⟨by unfold av;omega,fun m hm=>by omega⟩
 | n+1=>by
   obtain⟨h1,h2⟩:=ov (xs:=xs) (s:=s) (p:=p) n;unfold av;(have hok:okN xs s p n=true->0<=(ax xs s n).cost:=fun h=>by unfold okN at h;simp at h;exact h.1.2);split
   · rename_i hc;have h3:=hok hc.1;refine⟨by omega,fun m hm hk=> ?_⟩;by_cases e:m=n
     · subst e;omega
     · have:=h2 m (by omega) hk;omega
   · rename_i hc;refine⟨h1,fun m hm hk=> ?_⟩;by_cases e:m=n
     · subst e;have h3:=hok hk;have:¬ (av xs s p m<0∨(ax xs s m).cost<av xs s p m):=fun x=>hc ⟨hk,x⟩;omega
     · exact h2 m (by omega) hk
theorem lT{xs:List ab}{s:Nat}{p:ae}{c h:Int}(hc:0<=c):∀n,(∀m,m<n->okN xs s p m=true->(ax xs s m).cost≠c)->cf xs s p c h n=false
 | 0,_=>rfl
 | n+1,hm=>by
   unfold cf;rw[lT hc n (fun m hm1=>hm m (by omega)),Bool.false_or];rw[Bool.eq_false_iff];intro e;unfold atN at e;simp only[Bool.and_eq_true,decide_eq_true_eq]at e;obtain⟨⟨⟨e1,e2⟩,e3⟩,_⟩:=e;exact hm n (by omega) (by unfold okN;simp[e1,e3];omega) e2
theorem xj{xs:List ab}{s n:Nat}{p:ae}{h:Int}(hk:okN xs s p n=true):atN xs s p (ax xs s n).cost h n=(ax xs s n).hops.contains h:=by
 unfold okN at hk;simp only[Bool.and_eq_true,decide_eq_true_eq]at hk;unfold atN;simp[hk.1.1,hk.2]
theorem CC{xs:List ab}{s n:Nat}{p:ae}{c h:Int}(hc:0<=c)(hk:okN xs s p n=false∨(ax xs s n).cost≠c):atN xs s p c h n=false:=by
 rw[Bool.eq_false_iff];intro e;unfold atN at e;simp only[Bool.and_eq_true,decide_eq_true_eq]at e;obtain⟨⟨⟨e1,e2⟩,e3⟩,_⟩:=e;rcases hk with hk|hk
 · rw[Bool.eq_false_iff]at hk;exact hk (by unfold okN;simp[e1,e3];omega)
 · exact hk e2
def gJ(l:List Int):Prop:=dz.filter (fun k=>l.contains k)=l
theorem lF(P:Int->Bool):gJ (dz.filter P):=by
 unfold gJ;refine zcs (fun k hk=> ?_);rw[Bool.eq_iff_iff,zcq,zbu];exact⟨fun h=>h.2,fun h=>⟨hk,h⟩⟩
theorem ke(xs:List ab)(s q:Nat)(c:Int):∀k,fW xs s q c k=((List.range k).map fun(i:Nat)=>(i:Int)).filter fun i=>decide (gI (fY xs s i 12) q=c)
 | 0=>rfl
 | k+1=>by
   unfold fW;rw[List.range_succ,zbe,zbV,<-ke xs s q c k];by_cases e:gI (fY xs s (k:Int) 12) q=c
   · rw[if_pos e];simp[e]
   · rw[if_neg e];simp[e]
theorem iw(xs:List ab)(s n:Nat):gJ (ax xs s n).hops:=by
 unfold ax;split
 · show gJ ([]:List Int);unfold gJ;simp
 · show gJ (bO xs s n (fX xs s n) 12);unfold bO;split
   · unfold gJ;simp
   · rw[ke];exact lF _
theorem vi{xs:List ab}{s:Nat}{p:ae}(hs:inP (ar xs s) p=false):∀n,
  mX xs s p n=if av xs s p n<0 then none else some ⟨p,false,av xs s p n,dz.filter fun h=>cf xs s p (av xs s p n) h n⟩
 | 0=>rfl
 | n+1=>by
   have ih:=vi hs n;obtain⟨hb,hle⟩:=ov (xs:=xs) (s:=s) (p:=p) n;by_cases hk:okN xs s p n=true
   · have hk2:=hk;unfold okN at hk2;simp only[Bool.and_eq_true,decide_eq_true_eq]at hk2;obtain⟨⟨k1,k2⟩,k3⟩:=hk2;have hr:bv xs s n p=some ⟨p,false,(ax xs s n).cost,(ax xs s n).hops⟩:=by
      unfold bv;rw[if_neg k1,if_pos k2]
     have ha:mX xs s p (n+1)=some (l7 (mX xs s p n) ⟨p,false,(ax xs s n).cost,(ax xs s n).hops⟩):=by
      show(if _ then _ else _)=_;rw[if_pos k3,hr]
     rw[ha,ih];by_cases hc:av xs s p n<0
     · have hc2:av xs s p (n+1)=(ax xs s n).cost:=by
        show(if _ then _ else _)=_;rw[if_pos ⟨hk,.inl hc⟩]
       rw[if_pos hc,hc2,if_neg (by omega)];show some (⟨p,false,(ax xs s n).cost,(ax xs s n).hops⟩:af)=_;have hf:(dz.filter fun h=>cf xs s p (ax xs s n).cost h (n+1))=(ax xs s n).hops:=by
        refine Eq.trans (zcs fun h _=> ?_) (iw xs s n);show(cf xs s p (ax xs s n).cost h n||atN xs s p (ax xs s n).cost h n)=_;rw[lT k2 n (fun m hm hkm=>by have:=hle m hm hkm;omega),Bool.false_or,xj hk]
       rw[hf]
     · rw[if_neg hc];by_cases hlt:(ax xs s n).cost<av xs s p n
       · have hc2:av xs s p (n+1)=(ax xs s n).cost:=by
          show(if _ then _ else _)=_;rw[if_pos ⟨hk,.inr hlt⟩]
         rw[hc2,if_neg (by omega)];have hf:(dz.filter fun h=>cf xs s p (ax xs s n).cost h (n+1))=(ax xs s n).hops:=by
          refine Eq.trans (zcs fun h _=> ?_) (iw xs s n);show(cf xs s p (ax xs s n).cost h n||atN xs s p (ax xs s n).cost h n)=_;rw[lT k2 n (fun m hm hkm=>by have:=hle m hm hkm;omega),Bool.false_or,xj hk]
         rw[hf];show some (fT _ _)=_;unfold fT;rw[if_pos (by simp[hlt])]
       · have hc2:av xs s p (n+1)=av xs s p n:=by
          show(if _ then _ else _)=_;rw[if_neg];rintro⟨_,h|h⟩<;>contradiction
         rw[hc2,if_neg hc];show some (fT _ _)=_;unfold fT;rw[if_neg (by simp;omega)];by_cases he:(ax xs s n).cost=av xs s p n
         · rw[if_pos (by simp[he])];have hf:iX (dz.filter fun h=>cf xs s p (av xs s p n) h n) (ax xs s n).hops=dz.filter fun h=>cf xs s p (av xs s p n) h (n+1):=by
            unfold iX;refine zcs fun h hh=> ?_;show _=(cf xs s p (av xs s p n) h n||atN xs s p (av xs s p n) h n);rw[<-he,xj hk];congr 1;rw[Bool.eq_iff_iff,zcq,zbu];exact⟨fun x=>x.2,fun x=>⟨hh,x⟩⟩
           rw[hf]
         · rw[if_neg (by simp[he])];have hf:(dz.filter fun h=>cf xs s p (av xs s p n) h (n+1))=dz.filter fun h=>cf xs s p (av xs s p n) h n:=by
            refine zcs fun h _=> ?_;show(cf xs s p (av xs s p n) h n||atN xs s p (av xs s p n) h n)=_;rw[CC (by omega) (.inr he),Bool.or_false]
           rw[hf]
   · (have hk':okN xs s p n=false:=by simpa using hk);have hc2:av xs s p (n+1)=av xs s p n:=by
      show(if _ then _ else _)=_;rw[if_neg (fun h=>hk h.1)]
     have ha:mX xs s p (n+1)=mX xs s p n:=by
      show(if _ then _ else _)=_;split
      · rename_i hin;have:bv xs s n p=none:=by
         unfold bv;by_cases e:n=s
         · subst e;rw[hs]at hin;cases hin
         · rw[if_neg e,if_neg];intro h;exact hk (by unfold okN;simp[e,h,hin])
        rw[this]
      · rfl
     rw[ha,ih,hc2];split
     · rfl
     · rename_i hc;have hf:(dz.filter fun h=>cf xs s p (av xs s p n) h (n+1))=dz.filter fun h=>cf xs s p (av xs s p n) h n:=by
        refine zcs fun h _=> ?_;show(cf xs s p (av xs s p n) h n||atN xs s p (av xs s p n) h n)=_;rw[CC (by omega) (.inl hk'),Bool.or_false]
       rw[hf]
theorem vj{xs:List ab}{s:Nat}{p:ae}(hs:inP (ar xs s) p=true):∀n,s<n->mX xs s p n=some ⟨p,true,0,[]⟩
 | 0,h=>by omega
 | n+1,h=>by
   show(if _ then _ else _)=_;by_cases e:n=s
   · subst e;rw[if_pos hs];(have:bv xs n n p=some ⟨p,true,0,[]⟩:=by unfold bv;rw[if_pos rfl]);rw[this];show some (l7 _ _)=_;congr 1;cases mX xs n p n with
     | none=>rfl
     | some x=>show fT _ _=_;unfold fT;rw[if_pos (by simp)]
   · have ih:=vj hs n (by omega);rw[ih];split
     · by_cases hw:0<=(ax xs s n).cost
       · (have:bv xs s n p=some ⟨p,false,(ax xs s n).cost,(ax xs s n).hops⟩:=by unfold bv;rw[if_neg e,if_pos hw]);rw[this];rfl
       · (have:bv xs s n p=none:=by unfold bv;rw[if_neg e,if_neg hw]);rw[this]
     · rfl
theorem gB{xs:List ab}{s:Nat}{p:ae}{c:Int}:∀k,dd xs s p c k=((List.range k).map fun(i:Nat)=>(i:Int)).filter fun h=>cf xs s p c h 12
 | 0=>rfl
 | k+1=>by
   unfold dd;rw[List.range_succ,zbe,zbV,<-gB k];cases e:cf xs s p c (k:Int) 12<;>simp[e]
theorem DK{xs:List ab}{s:Nat}(hs:s<12)(p:ae):mX xs s p 12=cu xs s p:=by
 unfold cu;by_cases h:inP (ar xs s) p=true
 · rw[if_pos h,vj h 12 hs]
 · rw[if_neg h,vi (by simpa using h) 12,gB];rfl
def dE(xs:List ab)(s:Nat)(p:ae):List af:=if p.addr%b7 p.bits≠0 then []else(cu xs s p).toList
def bY(xs:List ab)(s a:Nat):Nat->List af
 | 0=>[]
 | b+1=>bY xs s a b++dE xs s ⟨a,b⟩
def dI(xs:List ab)(s:Nat):Nat->List af
 | 0=>[]
 | a+1=>dI xs s a++bY xs s a 9
theorem lU{xs:List ab}{s:Nat}{p:ae}{r:af}(h:r∈dE xs s p):r.pre=p:=by
 unfold dE at h;split at h
 · cases h
 · unfold cu at h;split at h
   · simp at h;rw[h]
   · split at h
     · simp at h
     · simp at h;rw[h]
theorem fK{xs:List ab}{s a:Nat}{r:af}:∀b,r∈bY xs s a b->r.pre.addr=a/\0<=r.pre.bits/\r.pre.bits<b
 | 0,h=>by cases h
 | b+1,h=>by
   rcases zbd.1 h with h|h
   · have:=fK b h;omega
   · rw[lU h];exact⟨rfl,by show(0:Int)<=b;omega,by show(b:Int)<_;omega⟩
theorem ou{xs:List ab}{s:Nat}{r:af}:∀a,r∈dI xs s a->0<=r.pre.addr/\r.pre.addr<a/\0<=r.pre.bits/\r.pre.bits<9
 | 0,h=>by cases h
 | a+1,h=>by
   rcases zbd.1 h with h|h
   · have:=ou a h;omega
   · have:=fK 9 h;omega
theorem rX{xs:List ab}{s:Nat}{p:ae}:aE (dE xs s p):=by
 unfold dE;split
 · exact List.Pairwise.nil
 · cases cu xs s p with
   | none=>exact List.Pairwise.nil
   | some r=>exact List.pairwise_singleton _ _
theorem jk{xs:List ab}{s a:Nat}:∀b,aE (bY xs s a b)
 | 0=>List.Pairwise.nil
 | b+1=>List.pairwise_append.2 ⟨jk b,rX,fun x hx y hy=>by
    have h1:=fK b hx
    rw[lU hy,aF];exact .inr ⟨h1.1,h1.2.2⟩⟩
theorem j9{xs:List ab}{s:Nat}:∀a,aE (dI xs s a)
 | 0=>List.Pairwise.nil
 | a+1=>List.pairwise_append.2 ⟨j9 a,jk 9,fun x hx y hy=>by
    have h1:=ou a hx;have h2:=fK 9 hy
    rw[aF];left;omega⟩
theorem pF(l m:List af)(p:ae):atP (l++m) p=(atP l p).or (atP m p):=by unfold atP;exact List.find?_append
theorem Bi{xs:List ab}{s:Nat}(p:ae):atP (dE xs s p) p=if p.addr%b7 p.bits≠0 then none else cu xs s p:=by
 unfold dE;split
 · rfl
 · cases h:cu xs s p with
   | none=>rfl
   | some r=>
     have:r.pre=p:=by
      unfold cu at h;split at h
      · injection h with h;rw[<-h]
      · split at h
        · cases h
        · injection h with h;rw[<-h]
     show atP [r] p=_;rw[bN,if_pos this]
theorem oy{xs:List ab}{s a:Nat}{p:ae}(ha:p.addr=a):∀b,atP (bY xs s a b) p=if 0<=p.bits/\p.bits<b then atP (dE xs s p) p else none
 | 0=>by rw[if_neg (by omega)];rfl
 | b+1=>by
   show atP (bY xs s a b++dE xs s ⟨a,b⟩) p=_;rw[pF,oy ha b];by_cases e:p.bits=b
   · rw[if_neg (by omega),if_pos (by omega)];(have:(⟨a,b⟩:ae)=p:=by cases p;simp at ha e;rw[ha,e]);rw[this];simp
   · have hno:atP (dE xs s ⟨a,b⟩) p=none:=d9 (fun y hy e2=>e (by rw[<-e2,lU hy]));rw[hno,Option.or_none];by_cases h:0<=p.bits/\p.bits<b
     · rw[if_pos h,if_pos (by omega)]
     · rw[if_neg h,if_neg (by omega)]
theorem qt{xs:List ab}{s:Nat}{p:ae}:∀a,atP (dI xs s a) p=if 0<=p.addr/\p.addr<a/\0<=p.bits/\p.bits<9 then atP (dE xs s p) p else none
 | 0=>by rw[if_neg (by omega)];rfl
 | a+1=>by
   show atP (dI xs s a++bY xs s a 9) p=_;rw[pF,qt a];by_cases e:p.addr=a
   · rw[if_neg (by omega),oy e 9];by_cases h:0<=p.bits/\p.bits<9
     · rw[if_pos (by omega),if_pos (by omega)];simp
     · rw[if_neg (by omega),if_neg (by omega)];rfl
   · have hno:atP (bY xs s a 9) p=none:=d9 (fun y hy e2=>e (by rw[<-e2];exact(fK 9 hy).1));rw[hno,Option.or_none];by_cases h:0<=p.addr/\p.addr<a/\0<=p.bits/\p.bits<9
     · rw[if_pos h,if_pos (by omega)]
     · rw[if_neg h,if_neg (by omega)]
theorem zf(s:List UInt8):ai (bG s).1=0:=by
 unfold bG;cases bL 47 (bK s)with
 | none=>rfl
 | some l=>
   show ai (if ai (l.map fl)=0 then _ else _:List ae × Int).1=0;split
   · assumption
   · rfl
theorem cC(xs:List ab)(n:Nat):ai (ar xs n)=0:=by
 unfold ar;split
 · exact zf _
 · rfl
theorem bi{l:List ae}(h:ai l=0):l.length<=6/\(∀p∈l,aq p=0)/\l.Pairwise (fun a b=>ak a b=true):=by
 unfold ai at h;split at h
 · cases h
 · rename_i h6;have hs:=vL l _ 0 (by omega) h;have adj:∀m,(hm:m+1<l.length)->ak l[m] l[m+1]=true:=fun m hm=>(hs (m+1) (by omega) hm).2 m rfl (hs (m+1) (by omega) hm).1 (by omega);refine⟨by omega,fun p hp=> ?_,?_⟩
   · obtain⟨i,hi,rfl⟩:=zau hp;exact(hs i (by omega) hi).1
   · rw[zaR];have key:∀d i,(h:i+d+1<l.length)->ak l[i] l[i+d+1]=true:=by
      intro d
      induction d with
      | zero=>intro i h;exact adj i h
      | succ d ih=>intro i h;exact ft (ih i (by omega)) (adj (i+d+1) h)
     intro i j hi hj hij;have:=key (j-i-1) i (by omega);(have he:i+(j-i-1)+1=j:=by omega);simp only[he]at this;exact this
theorem C0{xs:List ab}{s:Nat}(hs:s<12):cH xs s 12=dI xs s 256:=by
 obtain⟨h1,h2⟩:=nN (xs:=xs) (s:=s) (fun n=>(bi (cC xs n)).2.2) 12;refine ki h1 (j9 256) (fun p=> ?_);rw[h2 p,qt 256,DK hs p,Bi p];have hno:¬ aq p=0->cu xs s p=none:=by
  intro hb;have hin:∀n,inP (ar xs n) p=false:=fun n=>by
   rw[Bool.eq_false_iff];intro e;exact hb ((bi (cC xs n)).2.1 p ((iM _ _).1 e))
  have hc:∀n,av xs s p n= -1:=by
   intro n
   induction n with
   | zero=>rfl
   | succ n ih=>
     show(if _ then _ else _)=_;rw[if_neg,ih];rintro⟨h,_⟩;unfold okN at h;rw[hin n]at h;simp at h
  unfold cu;rw[hin s,hc 12];rfl
 by_cases hb:aq p=0
 · have hb2:=hb;unfold aq at hb2;split at hb2
   · rename_i hr;split at hb2
     · rename_i hm;rw[if_pos (by omega),if_neg (by simpa using hm)]
     · cases hb2
   · cases hb2
 · rw[hno hb];split
   · split<;>rfl
   · rfl
end
end Go.Proofs.YtojojpjldkpmoaaGreatDoor
