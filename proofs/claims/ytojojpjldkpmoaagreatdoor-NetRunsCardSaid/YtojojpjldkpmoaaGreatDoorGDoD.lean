/-
  
-/
import Derived.Test.YtojojpjldkpmoaaGreatDoorGDoB
set_option linter.unusedVariables false
set_option linter.unusedSimpArgs false
set_option maxHeartbeats 16000000
set_option maxRecDepth 100000
namespace Go.Proofs.YtojojpjldkpmoaaGreatDoor
section
open Go Go.RowKit
def CM(b:UInt8)(s:List UInt8)(e:Ending):Prop:=∃x y ok,e= .returned (.tuple #[.int .i64 x,.int .i64 y,.bool ok])/\(ig b s=if ok=true then some (x,y)else none)/\inR x/\inR y
theorem jN(s:List UInt8):inR (ez 100000 s):=by have:=Bz 100000 (by omega) s;unfold inR;omega
theorem sU(s:ByteArray)(b:UInt8)(w:World)(hs:s.size<4294967281)(hE:Env w):
  Calls Tryz.prog 180 #[.string s,.string ⟨#[b]⟩,.int .i64 100000] w fun e w'=>CM b s.data.toList e/\Below w.heap.size w w':=
 (CV s b 100000 w hs (by unfold inR;omega) hE).mono fun e w' ⟨he,hb⟩=>⟨⟨_,_,_,he,by
  unfold ig
  simp only[Bool.and_eq_true,decide_eq_true_eq],jN _,jN _⟩,hb⟩
theorem ws(s:ByteArray)(b:UInt8)(w:World)(hl:s.size<=4294967281):
  Calls Tryz.prog 161 #[.string s,.int .u8 b.toNat] w fun e w'=>CM b s.data.toList e/\w=w':=by
 have hsz:=aC s;go_enter Tryz.func161,Tryz.ntmps161
 go_wp2_with fail
 have HSZ:=zaa hsz;clear hsz;go_loop [7] (fun i=>∃k:Nat,k<=s.size/\i= .int .i64 k/\b∉s.data.toList.take k) (fun i=>s.size-(intOf i).toNat)
 case atStart=>exact⟨0,zap _,rfl,by simp⟩
 case round=>
  obtain⟨k,hk,rfl,hno⟩:=hrel;have HNO:=zaa hno;clear hno;by_cases hlt:k<s.size
  · (have hl':k<s.data.toList.length:=by rw[HSZ.out];exact hlt);have hx:∀h:k<s.data.toList.length,s.data.toList[k]'h=s[k]:=fun _=>rfl;have HX:=zaa hx;clear hx;by_cases hb:s[k]=b
    · have hcut:cQ b s.data.toList=(s.data.toList.take k,s.data.toList.drop (k+1),true):=by
       have h1:s.data.toList=s.data.toList.take k++b::s.data.toList.drop (k+1):=by
        rw[<-hb,<-HX.out hl',List.getElem_cons_drop,zcp]
       conv=>lhs;rw[h1]
       exact lB _ HNO.out
      have n1:=fun w=>qG (s.extract 0 k) w (by rw[Lib.size_eq,Lib.extract_from_zero,zat,HSZ.out];omega);have n2:=fun w=>qG (s.extract (k+1) s.size) w (by rw[Lib.size_eq,Lib.extract_to_end,zaM,HSZ.out];omega);rw[Lib.extract_from_zero,xY]at n1;rw[Lib.extract_to_end,xY]at n2;have N1:=zaa n1;have N2:=zaa n2;have HC:=zaa hcut;(have hbe:((s[k].toNat:Int)==(b.toNat:Int))=true:=by rw[hb];simp);clear n1 n2 hcut hb;go_wp2_with (first
       | (go_at_call 188;have U':=U;refine(N2.out _).mono ?_;rintro e w' ⟨rfl,rfl⟩)
       | (go_at_call 188;refine(N1.out _).mono ?_;rintro e w' ⟨rfl,rfl⟩;have U:=trivial))
      · have h1:=‹0<=ez 100000 (List.take k s.data.toList)›;(go_ret3);refine⟨⟨_,_,_,rfl,?_,jN _,jN _⟩,rfl⟩;unfold ig;rw[HC.out];simp[h1]
      · have h1:=‹ez 100000 (List.take k s.data.toList)<0›;(go_ret3);refine⟨⟨_,_,_,rfl,?_,jN _,jN _⟩,rfl⟩;unfold ig;rw[HC.out];simp;omega
    · have hbe:((s[k].toNat:Int)==(b.toNat:Int))=false:=by
       rw[beq_eq_false_iff_ne];intro e;exact hb (UInt8.toNat_inj.1 (by omega))
      have HB:=zaa hb;have HL:=zaa hl';clear hb;(go_wp2_with fail);(go_round);case rel=>
       refine⟨k+1,by omega,by go_num,?_⟩;rw[zar HL.out,HX.out HL.out];intro h;rcases zbd.1 h with h|h
       · exact HNO.out h
       · rw[zcn]at h;exact HB.out h.symm
      case measure=>simp[intOf];omega
  · have hte:s.data.toList.take k=s.data.toList:=zaO (by rw[HSZ.out];omega);rw[hte]at HNO;have hcut:=sD HNO.out;have HC:=zaa hcut;clear hte hcut;(go_wp2_with fail);(go_ret3);exact⟨⟨0,0,false,rfl,by unfold ig;rw[HC.out];simp,by unfold inR;omega,by unfold inR;omega⟩,rfl⟩
theorem uy(s:ByteArray)(a b:Nat):bOf ((s.data.toList.drop a).take (b-a))=s.extract a b:=by
 rw[<-Lib.extract_data,lH]
theorem lA(s:ByteArray)(w:World)(hl:s.size<=4294967281):
  Calls Tryz.prog 160 #[.string s] w fun e w'=>(∃v,e= .returned v/\Sl bs w' v ((bK s.data.toList).map bOf))/\Below w.heap.size w w':=by
 have hsz:=aC s;have HSZ:=zaa hsz;rcases zaG s.size with h0|h0
 · have HP:=zaa (show bK s.data.toList=[]by unfold bK;rw[if_pos ((k9 s).1 h0)]);clear hsz;(go_enter Tryz.func160,Tryz.ntmps160);(go_wp2_with fail);(go_loop [4,3,5] (fun f o i=>f= .int .i64 0/\o= .slice none 0 0/\i= .int .i64 0) (fun _ _ i=>(intOf i).toNat));(case atStart=>exact⟨rfl,rfl,rfl⟩);case round=>
    obtain⟨rfl,rfl,rfl⟩:=hrel;(go_wp2_with fail);(go_ret);exact⟨⟨_,rfl,by rw[HP.out];exact Sl.nil _ _⟩,zac _ _⟩
 · (have hne:s.data.toList≠[]:=fun e=>by have:=(k9 s).2 e;omega);have HP:=zaa (show bK s.data.toList=cq 44 s.data.toList by unfold bK;rw[if_neg hne]);have hpl:=dU s.data.toList;rw[HP.out,HSZ.out]at hpl;have HPL:=zaa hpl;(have h0i:(0:Int)<(s.size:Int):=by omega);(have hli:(s.size:Int)<=4294967281:=by omega);clear hsz hne hpl;(go_enter Tryz.func160,Tryz.ntmps160);(go_wp2_with fail);go_loopw [3,4,5] (fun o f i wr=>∃(k a:Nat) (xs:List (List UInt8)),k<=s.size+1/\i= .int .i64 k/\f= .int .i64 a/\OwR bs 9 w.heap.size wr o (xs.map bOf)/\Below w.heap.size w wr/\xs.length<=k/\
    ((k=s.size+1/\cq 44 s.data.toList=xs)∨(k<=s.size/\a<=k/\cq 44 s.data.toList=xs++cq 44 (s.data.toList.drop a)/\(44:UInt8)∉(s.data.toList.drop a).take (k-a)))) (fun _ _ i _=>s.size+1-(intOf i).toNat)
   (case atStart=>exact⟨0,0,[],zap _,rfl,rfl,OwR.nil _ _ (zab _),zac _ _,zab _,.inr ⟨zap _,zab _,rfl,by simp⟩⟩);case round=>
    obtain⟨k,a,xs,hk,rfl,rfl,ho,hB,hxl,hcase⟩:=hrel;have HO:=zaa ho;have HB:=zaa hB;clear ho hB;rcases hcase with⟨rfl,hs⟩|⟨hk',hak,hs,hno⟩
    · have HS:=zaa hs;clear hs;(go_wp2_with fail);(go_ret);exact⟨⟨_,rfl,by rw[HP.out,HS.out];exact HO.out.sl (by decide)⟩,HB.out⟩
    · have HS:=zaa hs;have HNO:=zaa hno;clear hs hno hk;(have hki:(k:Int)<=(s.size:Int):=by omega);(have haki:(a:Int)<=(k:Int):=by omega);by_cases hlt:k<s.size
      · (have hl':k<s.data.toList.length:=by rw[HSZ.out];exact hlt);have hx:∀h:k<s.data.toList.length,s.data.toList[k]'h=s[k]:=fun _=>rfl;have HX:=zaa hx;(have hki':((k:Int)==(s.size:Int))=false:=by rw[beq_eq_false_iff_ne];omega);have hdk:(s.data.toList.drop a)[k-a]? =some s[k]:=by
         rw[zbI,show a+(k-a)=k by omega,zad hl',hx]
        have HDK:=zaa hdk;clear hx hdk;by_cases hb:s[k]=44
        · (have hbe:((s[k].toNat:Int)==44)=true:=by rw[hb];rfl);have hda:s.data.toList.drop a=(s.data.toList.drop a).take (k-a)++44::s.data.toList.drop (k+1):=by
           conv=>lhs;rw[<-zcp (k-a) (s.data.toList.drop a)]
           rw[List.drop_drop,show a+(k-a)=k by omega,<-List.getElem_cons_drop hl',HX.out,hb]
          have hsp:cq 44 (s.data.toList.drop a)=(s.data.toList.drop a).take (k-a)::cq 44 (s.data.toList.drop (k+1)):=by
           conv=>lhs;rw[hda]
           exact jF _ HNO.out
          have HSP:=zaa hsp;clear hb hda hsp;(have hxl2:(xs.map bOf).length+1<=1000000000000:=by rw[zaI];omega);have hwf:(s.extract a k).size<=maxLen:=by
           rw[Lib.size_eq,Lib.extract_data,zat,zaM,HSZ.out];unfold maxLen;omega
          have hone:=aN (r:=bs) (w:=wr) (B:=wr.heap.size) (cs:=[.string (s.extract a k)]) (x:=s.extract a k) (E:=9) rfl ⟨rfl,hwf⟩;have HONE:=zaa hone;have HOA:=zaa (au HO.out (.cells #[.string (s.extract a k)] 9));have HBA:=zaa (HB.out.alloc HB.out.size (.cells #[.string (s.extract a k)] 9));have HN1:=zaa hxl2;clear hone hwf hxl2;(go_wp2_with (at_builtin;refine aR (base:=w.heap.size) fN rfl (.tmp 27) (.tmp 32) rfl HOA.out HONE.out (fun _ _ h=>h) rfl rfl HN1.out (by decide) ?_;intro v2 w2 ho2 hg2;have B2:=zaa (HOA.out.below_grown HBA.out hg2.grown)));(go_roundw);case rel=>
           refine⟨k+1,k+1,xs++[(s.data.toList.drop a).take (k-a)],by omega,by go_num,by go_num,by rw[zbe,List.map_singleton,uy];exact ho2,B2.out,by simp;omega,.inr ⟨by omega,zab _,?_,by simp⟩⟩;rw[HS.out,HSP.out];simp
          case measure=>simp[intOf];omega
        · have hbe:((s[k].toNat:Int)==44)=false:=by
           rw[beq_eq_false_iff_ne];intro e;exact hb (UInt8.toNat_inj.1 (by have:(44:UInt8).toNat=44:=rfl;omega))
          have HBN:=zaa hb;clear hb;(go_wp2_with fail);(go_roundw);case rel=>
           refine⟨k+1,a,xs,by omega,by go_num,rfl,HO.out,HB.out,by omega,.inr ⟨by omega,by omega,HS.out,?_⟩⟩;rw[show k+1-a=(k-a)+1 by omega,List.take_add_one,HDK.out];intro h;rcases zbd.1 h with h|h
           · exact HNO.out h
           · simp at h;exact HBN.out h.symm
          case measure=>simp[intOf];omega
      · (have hke:k=s.size:=by omega);(have hbe:((k:Int)==(s.size:Int))=true:=by rw[hke];simp);have htk:(s.data.toList.drop a).take (k-a)=s.data.toList.drop a:=zaO (by rw[zaM,HSZ.out];omega);have hsp:cq 44 (s.data.toList.drop a)=[(s.data.toList.drop a).take (k-a)]:=by
         rw[htk]at HNO;rw[htk];exact jE HNO.out
        have HSP:=zaa hsp;have HKE:=zaa hke;clear hke htk hsp;(have hxl2:(xs.map bOf).length+1<=1000000000000:=by rw[zaI];omega);have hwf:(s.extract a k).size<=maxLen:=by
         rw[Lib.size_eq,Lib.extract_data,zat,zaM,HSZ.out];unfold maxLen;omega
        have hone:=aN (r:=bs) (w:=wr) (B:=wr.heap.size) (cs:=[.string (s.extract a k)]) (x:=s.extract a k) (E:=9) rfl ⟨rfl,hwf⟩;have HONE:=zaa hone;have HOA:=zaa (au HO.out (.cells #[.string (s.extract a k)] 9));have HBA:=zaa (HB.out.alloc HB.out.size (.cells #[.string (s.extract a k)] 9));have HN1:=zaa hxl2;clear hone hwf hxl2;(go_wp2_with (at_builtin;refine aR (base:=w.heap.size) fN rfl (.tmp 27) (.tmp 32) rfl HOA.out HONE.out (fun _ _ h=>h) rfl rfl HN1.out (by decide) ?_;intro v2 w2 ho2 hg2;have B2:=zaa (HOA.out.below_grown HBA.out hg2.grown)));(go_roundw);case rel=>
         refine⟨k+1,k+1,xs++[(s.data.toList.drop a).take (k-a)],by omega,by go_num,by go_num,by rw[zbe,List.map_singleton,uy];exact ho2,B2.out,by simp;omega,.inl ⟨by rw[HKE.out],?_⟩⟩;rw[HS.out,HSP.out]
        case measure=>simp[intOf];omega
def fl(x:Int × Int):ae:=⟨x.1,x.2⟩
def ci(x:Int × Int):cY:=⟨x.1,x.2⟩
def D5(s:List UInt8)(w:World)(e:Ending)(w':World):Prop:=∃v,e= .returned (.tuple #[v,.int .i64 (bG s).2])/\Sl aA w' v (bG s).1/\Below w.heap.size w w'
def SlF{α:Type}(r:Rep α)(b:Nat)(w:World)(v:Value)(xs:List α):Prop:=SlR r w (fun k=>k<w.heap.size/\b<=k) v xs
theorem SlF.sl{α:Type}{r:Rep α}{b:Nat}{w:World}{v:Value}{xs:List α}(h:SlF r b w v xs):Sl r w v xs:=SlR.keep h (fun _ _=>rfl) (fun _ hk=>hk.1)
theorem SlF.nil{α:Type}(r:Rep α)(b:Nat)(w:World):SlF r b w (.slice none 0 0) []:=⟨none,0,rfl,zab _,zap _,fun i x h=>by simp at h⟩
theorem SlF.below{α:Type}{r:Rep α}{b:Nat}{w w':World}{v:Value}{xs:List α}(h:SlF r b w v xs)(hb:Below w.heap.size w w'):SlF r b w' v xs:=SlR.keep h (fun k hk=>hb.block k hk.1) (fun k hk=>⟨zas hk.1 hb.size,hk.2⟩)
theorem SlF.mono{α:Type}{r:Rep α}{b b':Nat}{w:World}{v:Value}{xs:List α}(h:SlF r b w v xs)(hb:b'<=b):SlF r b' w v xs:=SlR.keep h (fun _ _=>rfl) (fun _ hk=>⟨hk.1,zax hb hk.2⟩)
theorem OwR.slG{α:Type}{r:Rep α}{E base:Nat}{w:World}{v:Value}{xs:List α}(h:OwR r E base w v xs)(hs:0<r.size)(hf:∀S S' cs x,r.holds w S cs x->r.holds w S' cs x):SlF r base w v xs:=by
 obtain⟨A,c,rfl,h1,h2,h3⟩:=h.sl hs;refine⟨A,c,rfl,h1,h2,fun i x hx=> ?_⟩;obtain⟨b,off,cs,rfl,hS,hb,hh,hc⟩:=h3 i x hx;exact⟨b,off,cs,rfl,⟨hb,(h.base_le b rfl).1⟩,hb,hf _ _ _ _ hh,hc⟩
def sJ(s:List UInt8)(w:World)(e:Ending)(w':World):Prop:=∃v,e= .returned (.tuple #[v,.int .i64 (bG s).2])/\SlF aA w.heap.size w' v (bG s).1/\Below w.heap.size w w'
theorem jH{s:List UInt8}{w w':World}{v:Value}{l:List ae}{n:Int}(h:bG s=(l,n))(hs:SlF aA w.heap.size w' v l)(hb:Below w.heap.size w w'):sJ s w (.returned (.tuple #[v,.int .i64 n])) w':=⟨v,by rw[h],by rw[h];exact hs,hb⟩
theorem C8{s:List UInt8}{w:World}{e:Ending}{w':World}(h:sJ s w e w'):D5 s w e w':=by
 obtain⟨v,h1,h2,h3⟩:=h;exact⟨v,h1,h2.sl,h3⟩
theorem xO{s:List UInt8}(h:bL 47 (bK s)=none):bG s=([],4):=by unfold bG;rw[h]
theorem Bb{s:List UInt8}{l:List (Int × Int)}(h:bL 47 (bK s)=some l)(hc:ai (l.map fl)≠0):bG s=([],ai (l.map fl)):=by unfold bG;rw[h];exact if_neg hc
theorem xP{s:List UInt8}{l:List (Int × Int)}(h:bL 47 (bK s)=some l)(hc:ai (l.map fl)=0):bG s=(l.map fl,0):=by unfold bG;rw[h];exact if_pos hc
theorem fm{b:UInt8}{l:List (List UInt8)}{k:Nat}{acc:List (Int × Int)}{p:List UInt8}{x:Int × Int}(h:bL b (l.take k)=some acc)(hp:l[k]? =some p)(hx:ig b p=some x):bL b (l.take (k+1))=some (acc++[x]):=by
 rw[List.take_add_one,hp];show bL b (l.take k++[p])=_;rw[my,h];simp only[hx]
theorem rY(s:ByteArray)(w:World)(hl:s.size<4294967281)(hE:Env w):
  Calls Tryz.prog 149 #[.string s] w fun e w'=>sJ s.data.toList w e w':=by
 have HSZ:=zaa (aC s);have hpl:=dU s.data.toList;rw[HSZ.out]at hpl;have HPL:=zaa hpl;have HE:=zaa hE;clear hE hpl;go_enter Tryz.func149,Tryz.ntmps149
 obtain⟨PS,hPS⟩:∃PS,PS=bK s.data.toList:=⟨_,rfl⟩;have HPS:=zaa hPS;have hpn:PS.length<=s.size+1:=by rw[hPS];exact HPL.out.1
 clear hPS;go_wp2_with (go_at_call 179;refine(qx s _ hl HE.out).mono ?_;rintro e w1 ⟨⟨v,rfl,hv⟩,hb1⟩;rw[<-HPS.out]at hv;have HB1:=zaa hb1;have HE1:=zaa (HE.out.below hb1);clear hb1;obtain⟨A,c,rfl⟩:=hv.form;have HV:=zaa hv;clear hv)
 go_loopw [4,14] (fun o i wr=>∃(k:Nat) (acc:List (Int × Int)),k<=PS.length/\i= .int .i64 k/\OwR aA 32 w1.heap.size wr o (acc.map fl)/\Below w1.heap.size w1 wr/\bL 47 (PS.take k)=some acc) (fun _ i _=>PS.length-(intOf i).toNat)
 case atStart=>exact⟨0,[],zap _,rfl,OwR.nil _ _ (zab _),zac _ _,rfl⟩
 case round=>
  obtain⟨k,acc,hk,rfl,ho,hB,hp⟩:=hrel;have HO:=zaa ho;have HB:=zaa hB;have HP:=zaa hp;have hal:=eI 47 hp;rw[zat]at hal;clear ho hB hp;by_cases hlt:k<PS.length
  · (have hltm:k<(PS.map bOf).length:=by rw[zaI];exact hlt);obtain⟨bk,off,rfl,hbk⟩:=HV.out.at_ hltm;have hcell:=(HV.out.below HB.out).strA hltm;rw[zbW]at hcell;have hsz:=HPL.out.2 PS[k] (by rw[<-HPS.out];exact zaw hlt);(have hsm:(bOf PS[k]).size<4294967281:=by rw[bf];omega);have htwo:=fun w hE=>sU (bOf PS[k]) 47 w hsm hE;rw[cG]at htwo;have HT:=zaa htwo;have HK:=zaa (zad hlt);have HN:=zaa (show(acc.map fl).length+1<=1000000000000 by rw[zaI];omega);(have hlti:(k:Int)<(PS.length:Int):=by omega);clear htwo hsz hsm hal;go_wp2_with (first
     | (at_builtin;refine aR (base:=w1.heap.size) cK rfl (.tmp 26) (.tmp 30) rfl ((HO.out.keep hb3).keep ((zac _ _).alloc (zab _) _)) (aN (r:=aA) (cs:=[.int .i64 x,.int .i64 y]) (x:=fl (x,y)) rfl ⟨rfl,hx,hy⟩) (fun _ _ h=>h) rfl rfl HN.out (by decide) ?_;intro v2 w4 ho2 hg2)
     | (go_at_call 180;refine(HT.out _ (HE1.out.below HB.out)).mono ?_;rintro e w3 ⟨⟨x,y,ok,rfl,hpd,hx,hy⟩,hb3⟩;have HPD:=zaa hpd;clear hpd))
    · (have hok:ok=false:=by have h:=‹(!ok)=true›;simpa using h);have hpd:=HPD.out;rw[hok]at hpd;have B3:=HB.out.trans (hb3.mono HB.out.size);(go_ret2);have hnone:=dV 47 HK.out hpd;rw[HPS.out]at hnone;exact jH (xO hnone) (SlF.nil _ _ _) (HB1.out.trans (B3.mono HB1.out.size))
    · (have hok:ok=true:=by have h:=‹(!ok)=false›;simpa using h);have B3:=HB.out.trans (hb3.mono HB.out.size);have B4:=(au (HO.out.keep hb3) (.cells #[.int .i64 x,.int .i64 y] 32)).below_grown (B3.alloc B3.size (.cells #[.int .i64 x,.int .i64 y] 32)) hg2.grown;have hpd:=HPD.out;rw[hok]at hpd;(go_roundw);(case rel=>exact⟨k+1,acc++[(x,y)],by omega,by go_num,by rw[zbe];exact ho2,B4,fm HP.out HK.out hpd⟩);case measure=>simp[intOf];omega
  · (have hke:k=PS.length:=by omega);subst hke;rw[zaN]at HP;rw[HPS.out]at HP;(have hnlt:¬ (PS.length:Int)<(PS.length:Int):=by omega);(have hal':acc.length<=4294967290:=by omega);have hbad:=fun h=>Bb (s:=s.data.toList) HP.out h;have hgood:=fun h=>xP (s:=s.data.toList) HP.out h;generalize acc.map fl=L at HO hbad hgood;have HCK:=zaa (fun w v h=>d7 v L w h);have HBAD:=zaa hbad;have HGOOD:=zaa hgood;have hsl:=(HO.out.slG (by decide) (fun _ _ _ _ h=>h)).mono HB1.out.size;obtain⟨A2,c2,rfl⟩:=hsl.sl.form;have HSL:=zaa hsl;clear hsl hal hk hlt hbad hgood;by_cases hc:ai L=0
    · have HR:=zaa (HGOOD.out hc);rw[hc]at HCK;clear hc;(go_wp2_with (go_at_call 53;refine(HCK.out _ _ HSL.out.sl).mono ?_;rintro e w3 ⟨rfl,hb3⟩));(go_ret2);exact jH HR.out (HSL.out.below hb3) (HB1.out.trans ((HB.out.trans (hb3.mono HB.out.size)).mono HB1.out.size))
    · have HR:=zaa (HBAD.out hc);(have hcb:(ai L==0)=false:=by rw[beq_eq_false_iff_ne];exact hc);clear hc;(go_wp2_with (go_at_call 53;refine(HCK.out _ _ HSL.out.sl).mono ?_;rintro e w3 ⟨rfl,hb3⟩));(go_ret2);exact jH HR.out (SlF.nil _ _ _) (HB1.out.trans ((HB.out.trans (hb3.mono HB.out.size)).mono HB1.out.size))
theorem gS(s:ByteArray)(b:UInt8)(c:Int)(hc:c=b.toNat)(w:World)(hs:s.size<4294967281)(_:Env w):
  Calls Tryz.prog 161 #[.string s,.int .u8 c] w fun e w'=>CM b s.data.toList e/\Below w.heap.size w w':=by
 subst hc;exact(ws s b w (by omega)).mono fun e w' ⟨he,hw⟩=>⟨he,by subst hw;exact zac _ _⟩
theorem vZ(s:ByteArray)(w:World)(hl:s.size<4294967281)(hE:Env w):
  Calls Tryz.prog 125 #[.string s] w fun e w'=>sJ s.data.toList w e w':=by
 have HSZ:=zaa (aC s);have hpl:=dU s.data.toList;rw[HSZ.out]at hpl;have HPL:=zaa hpl;have HE:=zaa hE;clear hE hpl;go_enter Tryz.func125,Tryz.ntmps125
 obtain⟨PS,hPS⟩:∃PS,PS=bK s.data.toList:=⟨_,rfl⟩;have HPS:=zaa hPS;have hpn:PS.length<=s.size+1:=by rw[hPS];exact HPL.out.1
 clear hPS;go_wp2_with (go_at_call 160;refine(lA s _ (by omega)).mono ?_;rintro e w1 ⟨⟨v,rfl,hv⟩,hb1⟩;rw[<-HPS.out]at hv;have HB1:=zaa hb1;have HE1:=zaa (HE.out.below hb1);clear hb1;obtain⟨A,c,rfl⟩:=hv.form;have HV:=zaa hv;clear hv)
 go_loopw [4,6] (fun o i wr=>∃(k:Nat) (acc:List (Int × Int)),k<=PS.length/\i= .int .i64 k/\OwR aA 32 w1.heap.size wr o (acc.map fl)/\Below w1.heap.size w1 wr/\bL 47 (PS.take k)=some acc) (fun _ i _=>PS.length-(intOf i).toNat)
 case atStart=>exact⟨0,[],zap _,rfl,OwR.nil _ _ (zab _),zac _ _,rfl⟩
 case round=>
  obtain⟨k,acc,hk,rfl,ho,hB,hp⟩:=hrel;have HO:=zaa ho;have HB:=zaa hB;have HP:=zaa hp;have hal:=eI 47 hp;rw[zat]at hal;clear ho hB hp;by_cases hlt:k<PS.length
  · (have hltm:k<(PS.map bOf).length:=by rw[zaI];exact hlt);obtain⟨bk,off,rfl,hbk⟩:=HV.out.at_ hltm;have hcell:=(HV.out.below HB.out).strA hltm;rw[zbW]at hcell;have hsz:=HPL.out.2 PS[k] (by rw[<-HPS.out];exact zaw hlt);(have hsm:(bOf PS[k]).size<4294967281:=by rw[bf];omega);have htwo:=fun w hE=>gS (bOf PS[k]) 47 47 rfl w hsm hE;rw[cG]at htwo;have HT:=zaa htwo;have HK:=zaa (zad hlt);have HN:=zaa (show(acc.map fl).length+1<=1000000000000 by rw[zaI];omega);(have hlti:(k:Int)<(PS.length:Int):=by omega);clear htwo hsz hsm hal;go_wp2_with (first
     | (at_builtin;refine aR (base:=w1.heap.size) cK rfl (.tmp 30) (.tmp 34) rfl ((HO.out.keep hb3).keep ((zac _ _).alloc (zab _) _)) (aN (r:=aA) (cs:=[.int .i64 x,.int .i64 y]) (x:=fl (x,y)) rfl ⟨rfl,hx,hy⟩) (fun _ _ h=>h) rfl rfl HN.out (by decide) ?_;intro v2 w4 ho2 hg2)
     | (go_at_call 161;refine(HT.out _ (HE1.out.below HB.out)).mono ?_;rintro e w3 ⟨⟨x,y,ok,rfl,hpd,hx,hy⟩,hb3⟩;have HPD:=zaa hpd;clear hpd))
    · (have hok:ok=false:=by have h:=‹(!ok)=true›;simpa using h);have hpd:=HPD.out;rw[hok]at hpd;have B3:=HB.out.trans (hb3.mono HB.out.size);(go_ret2);have hnone:=dV 47 HK.out hpd;rw[HPS.out]at hnone;exact jH (xO hnone) (SlF.nil _ _ _) (HB1.out.trans (B3.mono HB1.out.size))
    · (have hok:ok=true:=by have h:=‹(!ok)=false›;simpa using h);have B3:=HB.out.trans (hb3.mono HB.out.size);have B4:=(au (HO.out.keep hb3) (.cells #[.int .i64 x,.int .i64 y] 32)).below_grown (B3.alloc B3.size (.cells #[.int .i64 x,.int .i64 y] 32)) hg2.grown;have hpd:=HPD.out;rw[hok]at hpd;(go_roundw);(case rel=>exact⟨k+1,acc++[(x,y)],by omega,by go_num,by rw[zbe];exact ho2,B4,fm HP.out HK.out hpd⟩);case measure=>simp[intOf];omega
  · (have hke:k=PS.length:=by omega);subst hke;rw[zaN]at HP;rw[HPS.out]at HP;(have hnlt:¬ (PS.length:Int)<(PS.length:Int):=by omega);(have hal':acc.length<=4294967290:=by omega);have hbad:=fun h=>Bb (s:=s.data.toList) HP.out h;have hgood:=fun h=>xP (s:=s.data.toList) HP.out h;generalize acc.map fl=L at HO hbad hgood;have HCK:=zaa (fun w v h=>dS v L w h);have HBAD:=zaa hbad;have HGOOD:=zaa hgood;have hsl:=(HO.out.slG (by decide) (fun _ _ _ _ h=>h)).mono HB1.out.size;obtain⟨A2,c2,rfl⟩:=hsl.sl.form;have HSL:=zaa hsl;clear hsl hal hk hlt hbad hgood;by_cases hc:ai L=0
    · have HR:=zaa (HGOOD.out hc);rw[hc]at HCK;clear hc;(go_wp2_with (go_at_call 39;refine(HCK.out _ _ HSL.out.sl).mono ?_;rintro e w3 ⟨rfl,hb3⟩));(go_ret2);exact jH HR.out (HSL.out.below hb3) (HB1.out.trans ((HB.out.trans (hb3.mono HB.out.size)).mono HB1.out.size))
    · have HR:=zaa (HBAD.out hc);(have hcb:(ai L==0)=false:=by rw[beq_eq_false_iff_ne];exact hc);clear hc;(go_wp2_with (go_at_call 39;refine(HCK.out _ _ HSL.out.sl).mono ?_;rintro e w3 ⟨rfl,hb3⟩));(go_ret2);exact jH HR.out (SlF.nil _ _ _) (HB1.out.trans ((HB.out.trans (hb3.mono HB.out.size)).mono HB1.out.size))
theorem tK(s:ByteArray)(w:World)(hl:s.size<4294967281)(hE:Env w):
 Calls Tryz.prog 125 #[.string s] w fun e w'=>D5 s.data.toList w e w':=(vZ s w hl hE).mono fun _ _ h=>C8 h
end
end Go.Proofs.YtojojpjldkpmoaaGreatDoor
