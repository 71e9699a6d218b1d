/-
  
-/
import Derived.Test.YtojojpjldkpmoaaGreatDoorGSrt
import Derived.Test.YtojojpjldkpmoaaGreatDoorGOwn
import Derived.StillTailTactics
import Derived.Lib.Bytealg
import Derived.Lib.Small
import Derived.Laws.Externs
import Derived.Laws.StructEq
set_option linter.unusedVariables false
set_option linter.unusedSimpArgs false
set_option maxHeartbeats 16000000
set_option maxRecDepth 100000
namespace Go.Proofs.YtojojpjldkpmoaaGreatDoor
section
open Go.RowKit
theorem BR(c:UInt8)(w:World):Calls Tryz.prog 103 #[.int .u8 c.toNat] w fun e w'=>e= .returned (.bool (!jZ c))/\w=w':=by
 go_enter Tryz.func103,Tryz.ntmps103
 go_wp2
 all_goals(go_ret;refine⟨eb ?_,rfl⟩;unfold jZ;rw[Bool.eq_iff_iff];simp;omega)
theorem wI(xs:List UInt8)(b off c:Nat)(w:World)(hc:∀k,(h:k<xs.length)->w.cell? ⟨b,off+k,none⟩=some (.int .u8 xs[k].toNat))(hl:xs.length<=9223372036854775806):
  Calls Tryz.prog 143 #[.slice (some ⟨b,off,none⟩) xs.length c,.func (.func 103) #[] #[]] w fun e w'=>
   (∃n:Int,e= .returned (.int .i64 n)/\(decide (0<=n)= !xs.all jZ))/\w=w':=by
 go_enter Tryz.func143,Tryz.ntmps143
 go_wp2_with fail
 go_loop [5,8] (fun _ i=>∃k:Nat,k<=xs.length/\i= .int .i64 k/\∀j,(h:j<xs.length)->j<k->jZ xs[j]=true) (fun _ i=>xs.length-(intOf i).toNat)
 case atStart=>exact⟨0,zap _,rfl,fun j _ h=>absurd h (by omega)⟩
 case round=>
  obtain⟨k,hk,rfl,hall⟩:=hrel;have HA:=zaa hall;clear hall;by_cases hlt:k<xs.length
  · have hcell:=hc k hlt;have HC:=zaa hc;clear hc;go_wp2_with (go_at_call 103;refine(BR _ _).mono ?_;rintro e w' ⟨rfl,rfl⟩)
    · (go_ret);(have hno:jZ xs[k]=false:=by simpa using‹(!jZ xs[k])=true›);refine⟨⟨(k:Int),rfl,?_⟩,rfl⟩;have:xs.all jZ=false:=List.all_eq_false.2 ⟨xs[k],zaw hlt,by simp[hno]⟩;simp[this]
    · (have hyes:jZ xs[k]=true:=by simpa using‹(!jZ xs[k])=false›);(go_round);case rel=>
       refine⟨k+1,by omega,by go_num,fun j hj hjk=> ?_⟩;by_cases e:j=k
       · subst e;exact hyes
       · exact HA.out j hj (by omega)
      case measure=>simp[intOf];omega
  · (go_wp2);(go_ret);refine⟨⟨-1,rfl,?_⟩,rfl⟩;have:xs.all jZ=true:=by
     rw[zcm];intro x hx;obtain⟨j,hj,rfl⟩:=zau hx;exact HA.out j hj (by omega)
    simp[this]
theorem wX(xs:List UInt8)(b off c:Nat)(w:World)(hc:∀k,(h:k<xs.length)->w.cell? ⟨b,off+k,none⟩=some (.int .u8 xs[k].toNat))(hl:xs.length<=9223372036854775806):
  Calls Tryz.prog 102 #[.slice (some ⟨b,off,none⟩) xs.length c,.func (.func 103) #[] #[]] w fun e w'=>
   e= .returned (.bool (!xs.all jZ))/\w=w':=by
 have HC:=zaa hc;clear hc;go_enter Tryz.func102,Tryz.ntmps102
 go_wp2_with (go_at_call 143;refine(wI xs b off c _ HC.out hl).mono ?_;rintro e w' ⟨⟨n,rfl,hn⟩,rfl⟩)
 go_ret
 exact⟨rfl,rfl⟩
theorem yd(s:ByteArray)(w:World):
  Calls Tryz.prog 64 #[.string s] w fun e w'=>e= .returned (.bool (eu s))/\Below w.heap.size w w':=by
 rcases zaG s.size with h0|h0
 · (have h1:s.toList.isEmpty=true:=by rw[jU];simp[h0]);have H0:=zaa h0;clear h0;(go_enter Tryz.func64,Tryz.ntmps64);(go_wp2_with fail);(go_ret);exact⟨eb (by simp[eu,H0.out]),zac _ _⟩
 · (have h1:s.toList.isEmpty=false:=by rw[jU];exact decide_eq_false (by omega));by_cases h8:(8:Int)<(s.size:Int)
   · (go_enter Tryz.func64,Tryz.ntmps64);(go_wp2_with fail);(go_ret);exact⟨eb (by simp[eu];omega),zac _ _⟩
   · obtain⟨cap,w1,hconv,hB,hz,hcell,_,_⟩:=wW (P:=Tryz.prog) w 9 106 5 s Tryz.underlying9 Tryz.underlying106 Tryz.underlying5;have HC:=zaa hcell;clear hcell;have HB:=zaa hB;clear hB;(go_enter Tryz.func64,Tryz.ntmps64);(go_wp2_with fail);have hsz:=aC s;have he:=wX s.data.toList w.heap.size 0 cap w1 HC.out (by rw[hsz];omega);rw[hsz]at he;refine he.mono ?_;rintro e w' ⟨rfl,rfl⟩;clear hsz he;(go_wp2_with fail);(go_ret);exact⟨eb (by simp[eu];omega),HB.out⟩
theorem aU(n l h:Int)(w:World):Calls Tryz.prog 36 #[.int .i64 n,.int .i64 l,.int .i64 h] w fun e w'=>e= .returned (.bool (decide (l<=n)&&decide (n<=h)))/\w=w':=by
 go_enter Tryz.func36,Tryz.ntmps36
 go_wp2
 all_goals(go_ret;refine⟨eb ?_,rfl⟩;rw[Bool.eq_iff_iff];simp;try omega)
theorem wD(c:UInt8):(jZ c=true/\97<=(c.toNat:Int)/\(c.toNat:Int)<=122)∨(jZ c=true/\48<=(c.toNat:Int)/\(c.toNat:Int)<=57)∨(jZ c=true/\(c.toNat:Int)=58)∨
  (jZ c=false/\((c.toNat:Int)<97∨122<(c.toNat:Int))/\((c.toNat:Int)<48∨57<(c.toNat:Int))/\((c.toNat:Int)<58∨58<(c.toNat:Int))):=by
 unfold jZ;by_cases h1:97<=c.toNat/\c.toNat<=122
 · left;simp[h1];omega
 · by_cases h2:48<=c.toNat/\c.toNat<=57
   · right;left;simp[h2];omega
   · by_cases h3:c.toNat=58
     · right;right;left;simp[h3]
     · right;right;right;refine⟨?_,by omega,by omega,by omega⟩;rw[Bool.eq_false_iff];simp;omega
theorem Ew{p:UInt8->Bool}{l:List UInt8}(h:∀j,(h:j<l.length)->p l[j]=true):l.all p=true:=by
 rw[zcm];intro x hx;obtain⟨j,hj,rfl⟩:=zau hx;exact h j hj
theorem wy{p:UInt8->Bool}{l:List UInt8}{j:Nat}(hj:j<l.length)(h:p l[j]=false):l.all p=false:=
 List.all_eq_false.2 ⟨l[j],zaw hj,by simp[h]⟩
theorem oV(s:ByteArray)(w:World)(hl:s.size<=9223372036854775807):
  Calls Tryz.prog 83 #[.string s] w fun e w'=>e= .returned (.bool (eu s))/\w=w':=by
 go_enter Tryz.func83,Tryz.ntmps83
 go_wp2_with fail
 go_loop [3] (fun i=>∃k:Nat,k<=s.size/\i= .int .i64 k/\∀j,(h:j<s.data.toList.length)->j<k->jZ s.data.toList[j]=true) (fun i=>s.size-(intOf i).toNat)
 case atStart=>exact⟨0,zap _,rfl,fun j _ h=>absurd h (by omega)⟩
 case round=>
  obtain⟨k,hk,rfl,hall⟩:=hrel;have HA:=zaa hall;clear hall;by_cases hlt:k<s.size
  · have hu:s[k].toNat<256:=s[k].toNat_lt;(have hl':k<s.data.toList.length:=by simpa using hlt);have hx:s.data.toList[k]=s[k]:=rfl;have HX:=zaa hx;clear hx;rcases wD s[k]with⟨hc,h1,h2⟩|⟨hc,h1,h2⟩|⟨hc,h1⟩|⟨hc,h1,h2,h3⟩
    case' inr.inr.inl=>have h2:((s[k].toNat:Int) !=58)=false:=by simp[h1]
    case' inr.inr.inr=>have h4:((s[k].toNat:Int) !=58)=true:=by rw[bne_iff_ne];omega
    all_goals
     have HK:=zaa hc;clear hc;go_wp2_with (go_at_call 36;refine(aU _ _ _ _).mono ?_;rintro e w' ⟨rfl,rfl⟩)
    all_goals first
     | (go_ret
        exact⟨eb (by simp[eu,wy hl' HK.out]),rfl⟩)
     | (go_round
        case rel=>
         refine⟨k+1,by omega,by go_num,fun j hj hjk=> ?_⟩;by_cases e:j=k
         · subst e;exact HK.out
         · exact HA.out j hj (by omega)
        case measure=>simp[intOf];omega)
     | (exfalso
        have hq:=‹_∨_›;simp at hq
        omega)
     | (exfalso;simp at*;omega)
  · (go_wp2_with (go_at_call 36;refine(aU _ _ _ _).mono ?_;rintro e w' ⟨rfl,rfl⟩));(go_ret);refine⟨eb ?_,rfl⟩;have ha:s.data.toList.all jZ=true:=Ew fun j hj=>HA.out j hj (by simp at hj;omega);unfold eu;rw[ha,Bool.and_true,Bool.eq_iff_iff];simp;omega
theorem zX(e:ab)(w:World):Calls Tryz.prog 101 #[e.val] w fun r w'=>r= .returned (.bool (bj e))/\Below w.heap.size w w':=by
 unfold ab.val;go_enter Tryz.func101,Tryz.ntmps101
 go_wp2_with fail
 refine(yd _ _).mono ?_;rintro r w1 ⟨rfl,hb1⟩;obtain⟨hA,hN,hF,hS⟩:=aT hb1;have HA:=zaa hA;clear hA hb1 hF;go_wp2_with fail
 all_goals(go_ret;refine⟨eb ?_,HA.out⟩;unfold bj;rw[Bool.eq_iff_iff];simp[*];try omega)
theorem fy(v:Value)(xs:List ab)(w:World)(h:Sl aW w v xs):
  Calls Tryz.prog 63 #[v] w fun e w'=>e= .returned (.int .i64 (aj xs))/\Below w.heap.size w w':=by
 have h0:=h;obtain⟨A,c,rfl,hlc,hcm,_⟩:=h0;have hl:xs.length<=9223372036854775807:=by unfold maxLen at hcm;omega
 have H:=zaa h;clear h hlc hcm;by_cases h60:60<xs.length
 · (have h60':(60:Int)<(xs.length:Int):=by omega);(go_enter Tryz.func63,Tryz.ntmps63);(go_wp2_with fail);(go_ret);exact⟨ei (by simp[aj,h60]),zac _ _⟩
 · (have h60':¬ (60:Int)<(xs.length:Int):=by omega);(go_enter Tryz.func63,Tryz.ntmps63);(go_wp2_with fail);(have hs0:aj xs=chk xs (xs.length-0) 0:=by simp[aj,h60]);(go_loopw [2,3,4,10,11,12] (fun _ _ _ i _ _ wr=>∃k:Nat,k<=xs.length/\i= .int .i64 k/\Below w.heap.size w wr/\aj xs=chk xs (xs.length-k) k) (fun _ _ _ i _ _ _=>xs.length-(intOf i).toNat));(case atStart=>exact⟨0,zap _,rfl,zac _ _,hs0⟩);case round=>
    obtain⟨k,hk,rfl,hB,hs⟩:=hrel;have HS:=zaa hs;clear hs hs0;by_cases hlt:k<xs.length
    · obtain⟨b,off,rfl,hb⟩:=H.out.at_ hlt;obtain⟨f1,f2,f3,f4,_⟩:=(H.out.below hB).ent hlt;have hz:=hB.size;(go_wp2_with fail);refine(zX xs[k] _).mono ?_;rintro r w1 ⟨rfl,hb1⟩;obtain⟨hA,hN,hF,hS⟩:=aT hb1;have hB1:=hB.trans (hA.mono hz);have HB1:=zaa hB1;clear hA hb1 hF f1 f2 f3 f4;go_wp2_with fail
      · (go_ret);(have hno:bj xs[k]=false:=by simpa using‹(!bj xs[k])=true›);exact⟨ei (by rw[HS.out,yA xs k hlt hno]),HB1.out⟩
      · (have hyes:bj xs[k]=true:=by simpa using‹(!bj xs[k])=false›);rcases zaG k with h0|h0
        · subst h0;(go_quiet (fail));(go_wp2);(go_roundw);(case rel=>exact⟨1,by omega,by go_num,ag HB1.out _,by rw[HS.out];exact rt xs hlt hyes⟩);case measure=>simp[intOf];omega
        · obtain⟨m,rfl⟩:∃m,k=m+1:=⟨k-1,by omega⟩;(have hd:decide ((0:Int)<(m:Int)+1)=true:=by rw[decide_eq_true_iff];omega);(have hm:m<xs.length:=by omega);(have q2:(m:Int)<(xs.length:Int):=by omega);obtain⟨f1,_,_,_,_⟩:=(H.out.below HB1.out).ent hm;(go_quiet (fail));go_wp2
          · (go_ret);(have ho:ltB xs[m].key xs[m+1].key=false:=by simpa using‹(!ltB xs[m].key xs[m+1].key)=true›);exact⟨ei (by rw[HS.out,rq xs m hlt hyes ho]),ag HB1.out _⟩
          · (have ho:ltB xs[m].key xs[m+1].key=true:=by simpa using‹(!ltB xs[m].key xs[m+1].key)=false›);(go_roundw);(case rel=>exact⟨m+1+1,by omega,by go_num,ag HB1.out _,by rw[HS.out];exact uM xs m hlt hyes ho⟩);case measure=>simp[intOf];omega
    · (go_wp2);(go_ret);exact⟨ei (by rw[HS.out,yz xs k (by omega)]),hB⟩
theorem gn(v:Value)(xs:List ab)(w:World)(h:Sl aW w v xs):
  Calls Tryz.prog 75 #[v] w fun e w'=>e= .returned (.int .i64 (aj xs))/\Below w.heap.size w w':=by
 have h0:=h;obtain⟨A,c,rfl,hlc,hcm,_⟩:=h0;have hl:xs.length<=9223372036854775807:=by unfold maxLen at hcm;omega
 have H:=zaa h;clear h hlc hcm;by_cases h60:60<xs.length
 · (have h60':(60:Int)<(xs.length:Int):=by omega);(go_enter Tryz.func75,Tryz.ntmps75);(go_wp2_with fail);(go_ret);exact⟨ei (by simp[aj,h60]),zac _ _⟩
 · (have h60':¬ (60:Int)<(xs.length:Int):=by omega);(go_enter Tryz.func75,Tryz.ntmps75);(go_wp2_with fail);(have hs0:aj xs=chk xs (xs.length-0) 0:=by simp[aj,h60]);(go_loopw [2,3,4] (fun _ i _ wr=>∃k:Nat,k<=xs.length/\i= .int .i64 k/\Below w.heap.size w wr/\aj xs=chk xs (xs.length-k) k) (fun _ i _ _=>xs.length-(intOf i).toNat));(case atStart=>exact⟨0,zap _,rfl,zac _ _,hs0⟩);case round=>
    obtain⟨k,hk,rfl,hB,hs⟩:=hrel;have HS:=zaa hs;clear hs hs0;by_cases hlt:k<xs.length
    · obtain⟨b,off,rfl,hb⟩:=H.out.at_ hlt;obtain⟨f1,f2,f3,f4,wf1,wf2,wf3,wf4⟩:=(H.out.below hB).ent hlt;have hz:=hB.size;have hB1:=hB.alloc hz (.cells #[.string xs[k].key,.int .i64 xs[k].version,.int .i64 xs[k].origin,.string xs[k].value] 44);have HB1:=zaa hB1;(have hbw:b<wr.heap.size:=by omega);clear hB1;clear wf2 wf3 wf4;have HW:=zaa wf1;clear wf1;go_wp2_with (first
       | (go_at_call 83;refine(oV _ _ (by have:=HW.out;unfold maxLen at this;omega)).mono ?_;rintro e w' ⟨rfl,rfl⟩)
       | (go_at_call 36;refine(aU _ _ _ _).mono ?_;rintro e w' ⟨rfl,rfl⟩))
      all_goals first
       | (go_ret
          exact⟨ei (by rw[HS.out,yA xs k hlt (by unfold bj;rw[Bool.eq_false_iff];simp[*];try omega)]),HB1.out⟩)
       | skip
      (have hyes:bj xs[k]=true:=by unfold bj;simp[*];omega);rcases zaG k with h0|h0
      · subst h0;(go_quiet (fail));(go_wp2);(go_roundw);(case rel=>exact⟨1,by omega,by go_num,ag HB1.out _,by rw[HS.out];exact rt xs hlt hyes⟩);case measure=>simp[intOf];omega
      · obtain⟨m,rfl⟩:∃m,k=m+1:=⟨k-1,by omega⟩;(have hd:decide ((0:Int)<(m:Int)+1)=true:=by rw[decide_eq_true_iff];omega);(have hm:m<xs.length:=by omega);(have q2:(m:Int)<(xs.length:Int):=by omega);obtain⟨g1,_,_,_,_⟩:=(H.out.below hB).ent hm;(go_quiet (fail));go_wp2
        · (go_ret);(have ho:ltB xs[m].key xs[m+1].key=false:=by simpa using‹(!ltB xs[m].key xs[m+1].key)=true›);exact⟨ei (by rw[HS.out,rq xs m hlt hyes ho]),ag HB1.out _⟩
        · (have ho:ltB xs[m].key xs[m+1].key=true:=by simpa using‹(!ltB xs[m].key xs[m+1].key)=false›);(go_roundw);(case rel=>exact⟨m+1+1,by omega,by go_num,ag HB1.out _,by rw[HS.out];exact uM xs m hlt hyes ho⟩);case measure=>simp[intOf];omega
    · (go_wp2);(go_ret);exact⟨ei (by rw[HS.out,yz xs k (by omega)]),hB⟩
def pu(x y:Int):Int:=if x<y then-1 else if y<x then 1 else 0
def j2(x y:ByteArray):Int:=if ltB x y=true then-1 else if ltB y x=true then 1 else 0
def orI(l:List Int):Int:=(l.find? (fun x=>x !=0)).getD 0
def Ag(a b:ab):Int:=orI [pu a.version b.version,pu a.origin b.origin,j2 a.value b.value]
def aH(a b:ab):Bool:=
 if a.version≠b.version then decide (b.version<a.version)else if a.origin≠b.origin then decide (b.origin<a.origin)else ltB b.value a.value
theorem pw(a b:ab):Ag a b=if aH a b=true then 1 else if aH b a=true then-1 else 0:=by
 unfold Ag aH orI pu j2;by_cases h1:a.version=b.version
 · by_cases h2:a.origin=b.origin
   · simp[h1,h2];rcases e1:ltB a.value b.value with _|_
     · rcases e2:ltB b.value a.value with _|_<;>simp
     · have e2:=qK e1;simp[e2]
   · rcases zct a.origin b.origin with h|h|h
     · simp[h1,h,show ¬ b.origin<a.origin by omega,h2,Ne.symm h2]
     · exact absurd h h2
     · simp[h1,h,show ¬ a.origin<b.origin by omega,h2,Ne.symm h2]
 · rcases zct a.version b.version with h|h|h
   · simp[h,show ¬ b.version<a.version by omega,h1,Ne.symm h1]
   · exact absurd h h1
   · simp[h,show ¬ a.version<b.version by omega,h1,Ne.symm h1]
theorem i7:∀a b:List UInt8,Lib.compareBytes a b=if Op.bytesLess a b=true then-1 else if Op.bytesLess b a=true then 1 else 0
 | [],[]=>by simp[Lib.compareBytes,Op.bytesLess]
 | [],_::_=>by simp[Lib.compareBytes,Op.bytesLess]
 | _::_,[]=>by simp[Lib.compareBytes,Op.bytesLess]
 | a::ra,b::rb=>by
   simp only[Lib.compareBytes,Op.bytesLess,i7 ra rb];by_cases h1:a<b
   · simp[h1]
   · by_cases h2:b<a
     · (have:¬ a=b:=fun e=>by subst e;exact h1 h2);simp[h1,h2,this]
     · have e:a=b:=by
        apply UInt8.toNat_inj.1;rw[UInt8.lt_iff_toNat_lt]at h1 h2;omega
       subst e;simp[h1]
theorem zG(x:Int)(w:World):Calls Tryz.prog 173 #[.int .i64 x] w fun e w'=>e= .returned (.bool false)/\w'=w:=by
 go_enter Tryz.func173,Tryz.ntmps173
 go_wp2
 go_ret
 exact⟨rfl,rfl⟩
theorem pt(x y:Int)(w:World):Calls Tryz.prog 142 #[.int .i64 x,.int .i64 y] w fun e w'=>e= .returned (.int .i64 (pu x y))/\w'=w:=by
 go_enter Tryz.func142,Tryz.ntmps142
 go_wp2_with (go_at_call 173;refine(zG _ _).mono ?_;rintro e w' ⟨rfl,rfl⟩)
 all_goals(go_ret;refine⟨ei ?_,rfl⟩;unfold pu;(repeat' split)<;>first|rfl|(exfalso;omega))
theorem DA(a b:ByteArray)(w:World):(callFunc 174 #[.string a,.string b]).run Tryz.prog w= .ok (.value (.int .i64 (Lib.compareBytes a.data.toList b.data.toList))) w:=by
 rw[run_callFunc_extern Tryz.func174 (by kernel_rfl) (by kernel_rfl) (by kernel_rfl) (e:=Extern.BytealgCompare.compare) (by kernel_rfl),Lib.run_compareString];rfl
theorem uK(a b:ByteArray)(w:World):Calls Tryz.prog 144 #[.string a,.string b] w fun e w'=>e= .returned (.int .i64 (j2 a b))/\w'=w:=by
 have h:=DA a b;go_enter Tryz.func144,Tryz.ntmps144
 go_wp2_with fail
 go_ret
 exact⟨ei (i7 _ _),rfl⟩
theorem pq(a b:ByteArray)(w:World):Calls Tryz.prog 106 #[.string a,.string b] w fun e w'=>e= .returned (.int .i64 (j2 a b))/\w'=w:=by
 go_enter Tryz.func106,Tryz.ntmps106
 go_wp2_with (go_at_call 144;refine(uK _ _ _).mono ?_;rintro e w' ⟨rfl,rfl⟩)
 go_ret
 exact⟨rfl,rfl⟩
theorem q7{l:List Int}{k:Nat}(hall:∀j,(h:j<l.length)->j<k->l[j]=0):orI l=orI (l.drop k):=by
 induction k generalizing l with
 | zero=>rfl
 | succ k ih=>
   cases l with
   | nil=>rfl
   | cons a r=>
     have h0:a=0:=hall 0 (by simp) (by omega);rw[zbD,<-ih (l:=r) (fun j hj hjk=>by have:=hall (j+1) (by simpa using hj) (by omega);simpa using this)];simp[orI,h0]
theorem Eh(v:Value)(xs:List Int)(w:World)(h:Sl aI w v xs):
  Calls Tryz.prog 141 #[v] w fun e w'=>e= .returned (.int .i64 (orI xs))/\w'=w:=by
 have hl:=h.len_le;obtain⟨A,c,rfl⟩:=h.form;have H:=zaa h;clear h;go_enter Tryz.func141,Tryz.ntmps141
 go_wp2_with fail
 go_loop [5,8] (fun _ i=>∃k:Nat,k<=xs.length/\i= .int .i64 k/\∀j,(h:j<xs.length)->j<k->xs[j]=0) (fun _ i=>xs.length-(intOf i).toNat)
 case atStart=>exact⟨0,zap _,rfl,fun j _ h=>absurd h (by omega)⟩
 case round=>
  obtain⟨k,hk,rfl,hall⟩:=hrel;have HA:=zaa hall;clear hall;by_cases hlt:k<xs.length
  · obtain⟨b,off,rfl,hb⟩:=H.out.at_ hlt;obtain⟨f1,_⟩:=H.out.int hlt;by_cases hz:xs[k]=0
    · (have t1:(xs[k] !=0)=false:=by simp[hz]);have HZ:=zaa hz;clear hz;(go_wp2_with fail);(go_round);case rel=>
       refine⟨k+1,by omega,by go_num,fun j hj hjk=> ?_⟩;by_cases e:j=k
       · subst e;exact HZ.out
       · exact HA.out j hj (by omega)
      case measure=>simp[intOf];omega
    · (have t1:(xs[k] !=0)=true:=by simp[hz]);(go_wp2_with fail);(go_ret);refine⟨ei ?_,rfl⟩;rw[q7 HA.out,List.drop_eq_getElem_cons hlt];unfold orI;rw[List.find?_cons_of_pos (by simp[hz])];rfl
  · (go_wp2_with fail);(go_ret);refine⟨ei ?_,rfl⟩;rw[q7 HA.out,zbA (by omega)];rfl
theorem Au(a b:ab)(w:World):Calls Tryz.prog 81 #[a.val,b.val] w fun e w'=>e= .returned (.bool (aH a b))/\Below w.heap.size w w':=by
 unfold ab.val;have hB:Below w.heap.size w ((w.alloc (.cells #[.string a.key,.int .i64 a.version,.int .i64 a.origin,.string a.value] 44)).alloc (.cells #[.string b.key,.int .i64 b.version,.int .i64 b.origin,.string b.value] 44)):=
  ((zac _ _).alloc (zab _) _).alloc (by simp) _
 have HB:=zaa hB;clear hB;go_enter Tryz.func81,Tryz.ntmps81
 go_wp2
 · (go_ret);exact⟨eb (by unfold aH;rw[if_pos (by simpa using‹(a.version !=b.version)=true›)]),HB.out⟩
 · (go_ret);exact⟨eb (by unfold aH;rw[if_neg (by simpa using‹(a.version !=b.version)=false›),if_pos (by simpa using‹(a.origin !=b.origin)=true›)]),HB.out⟩
 · (go_ret);exact⟨eb (by unfold aH;rw[if_neg (by simpa using‹(a.version !=b.version)=false›),if_neg (by simpa using‹(a.origin !=b.origin)=false›)]),HB.out⟩
theorem kq{wr w1:World}{cs ds:Array Value}{t u:TypeId}(h:Below ((wr.alloc (.cells cs t)).alloc (.cells ds u)).heap.size ((wr.alloc (.cells cs t)).alloc (.cells ds u)) w1):
  Below wr.heap.size wr w1/\(∀i,w1.cell? ⟨wr.heap.size,i,none⟩=cs[i]?)/\(∀i,w1.cell? ⟨wr.heap.size+1,i,none⟩=ds[i]?)/\wr.heap.size+1<w1.heap.size:=by
 obtain⟨h1,h2,_,h4⟩:=aT h;rw[zbq]at h1 h2 h4;obtain⟨g1,g2,_,_⟩:=aT (wr:=wr) (w1:=w1) (cs:=cs) (t:=t) (by rw[zbq];exact h1);exact⟨g1,g2,h2,h4⟩
theorem gu{P:Program}{id:Nat}{Q:Exit->Act->World->Prop}{a:Act}{w:World}{l:List Oper}(n:Nat)(hm:P.follows .mixedOrders=true)(hB:Region.lexTailB .any l.toArray n=true)
  (h:∀wd,wd=w.drew->wpStill P l.toArray wd (fun a'=>wpList P l.toArray Q (l.drop n) a' wd) (l.take n) a):(Code.region id l.toArray true).wp P Q a w:=
 wp_region_still_tail n hm hB (h _ rfl)
theorem uJ(a b:ab)(w:World)(ha:a.wf)(hb:b.wf):Calls Tryz.prog 100 #[a.val,b.val] w fun e w'=>e= .returned (.int .i64 (Ag a b))/\Below w.heap.size w w':=by
 unfold ab.val;go_enter Tryz.func100,Tryz.ntmps100
 go_wp2_with fail
 refine gu 15 (by kernel_rfl) (by kernel_rfl) ?_;intro wd hwd;have c1:∀i,wd.cell? ⟨w.heap.size,i,none⟩= #[Value.string a.key,Value.int .i64 a.version,Value.int .i64 a.origin,Value.string a.value][i]? :=by
  intro i;rw[hwd,zaY,World.cell?_alloc_lt _ _ _ (by simp),zah _ _ _ _ rfl]
 have c2:∀i,wd.cell? ⟨w.heap.size+1,i,none⟩= #[Value.string b.key,Value.int .i64 b.version,Value.int .i64 b.origin,Value.string b.value][i]? :=by
  intro i;rw[hwd,zaY,zah _ _ _ _ (by simp)]
 have hB:Below w.heap.size w wd:=by
  rw[hwd];exact(((zac _ _).alloc (zab _) _).alloc (by simp) _).drew
 have HB:=zaa hB;clear hwd hB;simp only[zbz,zcw,zbD,List.drop_zero];iterate 4 still_step
 still_call (pt _ _ _)
 iterate 4 still_step
 still_call (pt _ _ _)
 iterate 4 still_step
 still_call (pq _ _ _)
 refine wpStill_nil ?_;go_wp2_with fail
 have hl:OwR aI 3 w.heap.size (wd.alloc (.cells (([pu a.version b.version,pu a.origin b.origin,j2 a.value b.value]).map (Value.int .i64)).toArray 3)) (.slice (some ⟨wd.heap.size,0,none⟩) 3 3) [pu a.version b.version,pu a.origin b.origin,j2 a.value b.value]:=
  OwR.lit1 rfl (fun x hx S=>⟨rfl,by
   simp at hx;(have h1:∀x y,inR (pu x y):=by intro x y;unfold pu inR;(repeat' split)<;>omega);(have h2:∀x y,inR (j2 x y):=by intro x y;unfold j2 inR;(repeat' split)<;>omega);rcases hx with rfl|rfl|rfl
   · exact h1 _ _
   · exact h1 _ _
   · exact h2 _ _⟩) HB.out.size (by simp;decide)
 refine(Eh _ _ _ (hl.sl (by decide))).mono ?_;rintro e w1 ⟨rfl,rfl⟩;clear hl;go_wp2_with fail
 go_ret
 exact⟨rfl,HB.out.alloc HB.out.size _⟩
def AZ(x y:ab):Bool:=x.key.toList==y.key.toList&&(x.version==y.version&&(x.origin==y.origin&&x.value.toList==y.value.toList))
theorem vO(x:ab):AZ x x=true:=by simp[AZ]
theorem toList_inj{a b:ByteArray}(h:a.toList=b.toList):a=b:=by
 rw[zbw,zbw]at h;exact ByteArray.ext (Array.toList_inj.1 h)
theorem Do(x y:ab)(w:World):
  (binOp .neq 44 (.agg #[.string x.key,.int .i64 x.version,.int .i64 x.origin,.string x.value]) (.agg #[.string y.key,.int .i64 y.version,.int .i64 y.origin,.string y.value])).run Tryz.prog w= .ok (.bool (!AZ x y)) w:=by
 have hS:Tryz.prog.underlying 44=some (.struct (Tryz.prog.fieldsOf 44)):=by kernel_rfl
 have hp:Tryz.prog.stoodInHeld 44=false:=by kernel_rfl
 have u3:=Tryz.underlying3;have a3:=Tryz.isAgg3;have z3:=Tryz.sizeOf3;have u9:=Tryz.underlying9;have a9:=Tryz.isAgg9;have z9:=Tryz.sizeOf9;rw[run_neq_struct,show(10000:Nat)=9999+1 from rfl,run_equalIn_agg w 9999 44 _ _ hS hp];simp only[Program.fieldsOf,Tryz.underlying44];go_simp
 unfold AZ;by_cases h1:x.key.toList=y.key.toList<;>by_cases h2:x.version=y.version<;>by_cases h3:x.origin=y.origin<;>by_cases h4:x.value.toList=y.value.toList<;>simp[h1,h2,h3,h4]
theorem zM(op:BinOp)(a b:Operand)(x y:Array Value)(w:World):(eqGuard op 44 a b (.agg x) (.agg y)).run Tryz.prog w= .ok () w:=
 run_eqGuard_agg w op _ a b x y (by kernel_rfl)
theorem uL(a b:ByteArray):j2 a b<0↔ltB a b=true:=by
 unfold j2;rcases e:ltB a b with _|_
 · simp only[Bool.false_eq_true,if_false,iff_false];split<;>omega
 · simp
theorem Ai(a b:ByteArray):j2 a b=0↔a=b:=by
 unfold j2;constructor
 · intro h;rcases e:ltB a b with _|_
   · rcases e2:ltB b a with _|_
     · exact l9 e e2
     · simp[e,e2]at h
   · simp[e]at h
 · rintro rfl;simp[cV]
theorem q9(e:ab)(k:ByteArray)(w:World):Calls Tryz.prog 105 #[e.val,.string k] w fun r w'=>r= .returned (.int .i64 (j2 e.key k))/\Below w.heap.size w w':=by
 unfold ab.val;have hB:Below w.heap.size w (w.alloc (.cells #[.string e.key,.int .i64 e.version,.int .i64 e.origin,.string e.value] 44)):=(zac _ _).alloc (zab _) _;have HB:=zaa hB;clear hB;go_enter Tryz.func105,Tryz.ntmps105
 go_wp2_with (go_at_call 106;refine(pq _ _ _).mono ?_;rintro e w' ⟨rfl,rfl⟩)
 go_ret
 exact⟨rfl,HB.out⟩
theorem uO(v:Value)(xs:List ab)(k:ByteArray)(w:World)(h:Sl aW w v xs)(hord:xs.Pairwise ltE)(hl:xs.length<=4611686018427387903):
  Calls Tryz.prog 104 #[v,.string k,.func (.func 105) #[] #[]] w fun e w'=>e= .returned (.tuple #[.int .i64 (lbE xs k:Nat),.bool (dm xs k)])/\Below w.heap.size w w':=by
 obtain⟨A,c,rfl⟩:=h.form;have H:=zaa h;have HO:=zaa hord;clear h hord;go_enter Tryz.func104,Tryz.ntmps104
 go_wp2_with fail
 go_loopw [9,10,11] (fun i j _ wr=>∃lo hi:Nat,i= .int .i64 lo/\j= .int .i64 hi/\lo<=hi/\hi<=xs.length/\Below w.heap.size w wr/\(∀t,(h:t<xs.length)->t<lo->ltB xs[t].key k=true)/\(∀t,(h:t<xs.length)->hi<=t->ltB xs[t].key k=false)) (fun i j _ _=>(intOf j).toNat-(intOf i).toNat)
 case atStart=>exact⟨0,xs.length,rfl,rfl,zap _,zab _,zac _ _,fun t _ ht=>absurd ht (zce _),fun t h1 h2=>by omega⟩
 case round=>
  obtain⟨lo,hi,rfl,rfl,hlh,hin,hB,hI1,hI2⟩:=hrel;have I1:=zaa hI1;have I2:=zaa hI2;clear hI1 hI2;by_cases hlt:lo<hi
  · (have hm:(lo+hi)/2<xs.length:=by omega);obtain⟨b,off,rfl,hb⟩:=H.out.at_ hm;obtain⟨f1,f2,f3,f4,_⟩:=(H.out.below hB).ent hm;obtain⟨y,hy⟩:∃y,xs[(lo+hi)/2]=y:=⟨_,rfl⟩;rw[hy]at f1 f2 f3 f4;have Y:=zaa hy;have HB:=zaa hB;clear hy hB;(go_wp2_with fail);refine(q9 y k _).mono ?_;rintro r w1 ⟨rfl,hb1⟩;have HB1:=zaa (HB.out.trans (hb1.mono HB.out.size));clear hb1 f1 f2 f3 f4;by_cases hc:j2 y.key k<0
    · have hlt':=(uL _ _).1 hc;have HL:=zaa hlt';clear hlt';(go_wp2_with fail);(go_roundw);case rel=>
       refine⟨(lo+hi)/2+1,hi,by first|go_num|(rw[show((lo:Int)+(hi:Int))/2+1=(((lo+hi)/2+1:Nat):Int)by omega]),rfl,by omega,hin,HB1.out,fun t ht htl=> ?_,I2.out⟩;exact BK HO.out (by omega) hm (by rw[Y.out];exact HL.out)
      case measure=>simp[intOf];omega
    · (have hge:ltB y.key k=false:=by rw[Bool.eq_false_iff];intro e;exact hc ((uL _ _).2 e));have HL:=zaa hge;clear hge;(go_wp2_with fail);(go_roundw);case rel=>
       refine⟨lo,(lo+hi)/2,rfl,by first|go_num|(rw[show((lo:Int)+(hi:Int))/2=(((lo+hi)/2:Nat):Int)by omega]),by omega,by omega,HB1.out,I1.out,fun t ht htl=> ?_⟩;rw[Bool.eq_false_iff];intro e;have:=BK HO.out htl ht e;rw[Y.out,HL.out]at this;cases this
      case measure=>simp[intOf];omega
  · (obtain rfl:lo=hi:=by omega);have hlb:lbE xs k=lo:=BN xs k lo hin I1.out (fun h=>I2.out lo h (zab _));have HLB:=zaa hlb;have HB:=zaa hB;clear hlb hB;by_cases hn:lo<xs.length
    · obtain⟨b,off,rfl,hb⟩:=H.out.at_ hn;obtain⟨f1,f2,f3,f4,_⟩:=(H.out.below HB.out).ent hn;have hhas:=cF HO.out k;rw[HLB.out]at hhas;obtain⟨y,hy⟩:∃y,xs[lo]=y:=⟨_,rfl⟩;rw[hy]at f1 f2 f3 f4;(have hh:dm xs k=true↔j2 y.key k=0:=by rw[hhas,Ai,<-hy];exact⟨fun⟨_,h⟩=>h,fun h=>⟨hn,h⟩⟩);have HH:=zaa hh;clear hhas hy hh;(go_wp2_with fail);refine(q9 y k _).mono ?_;rintro r w1 ⟨rfl,hb1⟩;have HB1:=zaa (HB.out.trans (hb1.mono HB.out.size));clear hb1 f1 f2 f3 f4;(go_wp2_with fail);(go_ret2);refine⟨?_,HB1.out⟩;(have:dm xs k=(j2 y.key k==0):=by rw[Bool.eq_iff_iff,HH.out,beq_iff_eq]);rw[HLB.out,this];rfl
    · (go_wp2_with fail);(go_ret2);refine⟨?_,HB.out⟩;have:dm xs k=false:=by
       rw[Bool.eq_false_iff];intro e;obtain⟨h1,_⟩:=(cF HO.out k).1 e;rw[HLB.out]at h1;exact hn h1
      rw[this,HLB.out];rfl
theorem pi(v:Value)(xs:List ab)(k:ByteArray)(w:World)(h:Sl aW w v xs)(hord:xs.Pairwise ltE)(hl:xs.length<=4611686018427387903):
  Calls Tryz.prog 65 #[v,.string k] w fun e w'=>e= .returned (.tuple #[.int .i64 (lbE xs k:Nat),.bool (dm xs k)])/\Below w.heap.size w w':=by
 have H:=zaa (uO v xs k w h hord hl);clear h hord;go_enter Tryz.func65,Tryz.ntmps65
 go_wp2_with fail
 refine H.out.mono ?_;rintro r w1 ⟨rfl,hb1⟩;have HB1:=zaa hb1;clear hb1;go_wp2_with fail
 go_ret2
 exact⟨rfl,HB1.out⟩
theorem b4{w w1:World}(h:Below w.heap.size w w1)(a b c d:Value):
  Below w.heap.size w ((((w1.setCell ⟨w.heap.size,0,none⟩ a).setCell ⟨w.heap.size,1,none⟩ b).setCell ⟨w.heap.size,2,none⟩ c).setCell ⟨w.heap.size,3,none⟩ d):=
 (((h.setCell (zab _) _).setCell (zab _) _).setCell (zab _) _).setCell (zab _) _
def kI:ab:=⟨⟨#[]⟩,0,0,⟨#[]⟩⟩
def iO(xs:List ab)(k:ByteArray):ab × Int:=
 if aj xs=0 then(match bR xs k with|some e=>(e,0)|none=>(kI,6))else(kI,aj xs)
theorem BZ{xs:List ab}{k:ByteArray}(h:aj xs≠0):iO xs k=(kI,aj xs):=by unfold iO;rw[if_neg h]
theorem zT{xs:List ab}{k:ByteArray}(h:aj xs=0)(h2:dm xs k=false):iO xs k=(kI,6):=by unfold iO;rw[if_pos h,gG h2]
theorem zS{xs:List ab}{k:ByteArray}(h:aj xs=0)(h2:dm xs k=true):∃hl:lbE xs k<xs.length,iO xs k=(xs[lbE xs k],0):=by
 obtain⟨hl,hk⟩:=(cF (dX h).ord k).1 h2;exact⟨hl,by unfold iO;rw[if_pos h,dZ (dX h).ord k hl hk]⟩
theorem Dy(v:Value)(xs:List ab)(k:ByteArray)(w:World)(h:Sl aW w v xs):
  Calls Tryz.prog 93 #[v,.string k] w fun e w'=>e= .returned (.tuple #[(iO xs k).1.val,.int .i64 (iO xs k).2])/\Below w.heap.size w w':=by
 have hB0:Below w.heap.size w (w.alloc (.cells #[.string ⟨#[]⟩,.int .i64 0,.int .i64 0,.string ⟨#[]⟩] 44)):=(zac _ _).alloc (zab _) _;have H0:=zaa (h.below hB0);obtain⟨A,c,rfl⟩:=h.form;have H:=zaa h;clear h hB0;go_enter Tryz.func93,Tryz.ntmps93
 go_wp2_with fail
 refine(fy _ xs _ H0.out).mono ?_;rintro r w1 ⟨rfl,hb1⟩;obtain⟨hA,hN,hM,hS⟩:=aT hb1;have HA:=zaa hA;have H1:=zaa (H.out.below hA);clear hA hb1 H0;by_cases hc:aj xs=0
 · (have t1:(aj xs !=0)=false:=by simp[hc]);have hok:=dX hc;have HOK:=zaa hok;have HC:=zaa hc;have hl60:=hok.len;clear hok hc;(go_wp2_with fail);refine(pi _ xs k _ H1.out HOK.out.ord (by omega)).mono ?_;rintro r w2 ⟨rfl,hb2⟩;have hN2:∀i,w2.cell? ⟨w.heap.size,i,none⟩= #[Value.string ⟨#[]⟩,.int .i64 0,.int .i64 0,.string ⟨#[]⟩][i]? :=fun i=>(bAt hb2 hS i).trans (hN i);have hM2:∀i,w2.frozen? ⟨w.heap.size,i,none⟩=false:=fun i=>(bFz hb2 hS i).trans (hM i);have hS2:w.heap.size<w2.heap.size:=zas hS hb2.size;have HA2:=zaa (HA.out.trans (hb2.mono HA.out.size));have H2:=zaa (H.out.below HA2.out);clear hb2 hN hM;rcases hh:dm xs k with _|_
   · have HH:=zaa (zT HC.out hh);clear hh;(go_wp2_with fail);refine bodyPost_ret (v:= .tuple #[kI.val,.int .i64 6]) (by simp[results,Tryz.results93,go_sem,kI,ab.val, *]) rfl ⟨by rw[HH.out],?_⟩;exact b4 HA2.out _ _ _ _
   · obtain⟨hl,hg⟩:=zS HC.out hh;obtain⟨i,hi⟩:∃i,lbE xs k=i:=⟨_,rfl⟩;have HI:=zaa hi;(have hl':i<xs.length:=by omega);(have hg':iO xs k=(xs[i],0):=by rw[hg];simp only[hi]);have HG:=zaa hg';obtain⟨b,off,rfl,hb⟩:=H.out.at_ hl;obtain⟨f1,f2,f3,f4,_⟩:=H2.out.ent hl';clear hh hg hg' hl;rw[hi];clear hi;(go_wp2_with fail);refine bodyPost_ret (v:= .tuple #[xs[i].val,.int .i64 0]) (by simp[results,Tryz.results93,go_sem,ab.val, *]) rfl ⟨by rw[HG.out],?_⟩;exact b4 HA2.out _ _ _ _
 · (have t1:(aj xs !=0)=true:=by simp[hc]);have HG:=zaa (BZ (k:=k) hc);clear hc;(go_wp2_with fail);refine bodyPost_ret (v:= .tuple #[kI.val,.int .i64 (aj xs)]) (by simp[results,Tryz.results93,go_sem,kI,ab.val, *]) rfl ⟨by rw[HG.out],?_⟩;exact b4 HA.out _ _ _ _
theorem zg{xs:List ab}{k:ByteArray}{p:Nat}(hp:p<xs.length)(h:∀j,(h:j<xs.length)->j<p->xs[j].key≠k)(he:xs[p].key=k):bU xs k=p:=by
 unfold bU;have:(xs.findIdx? fun e=>decide (e.key=k))=some p:=by
  rw[zbv];exact⟨hp,decide_eq_true he,fun j hj=>by have:=h j (by omega) hj;simpa using this⟩
 rw[this]
theorem we{xs:List ab}{k:ByteArray}(h:∀j,(h:j<xs.length)->xs[j].key≠k):bU xs k= -1:=by
 refine gR ?_;unfold dm;rw[zch];intro e he;obtain⟨j,hj,rfl⟩:=zau he;simpa using h j hj
theorem lX(v:Value)(xs:List ab)(k:ByteArray)(w:World)(h:Sl aW w v xs):
  Calls Tryz.prog 74 #[v,.string k] w fun e w'=>e= .returned (.int .i64 (bU xs k))/\w=w':=by
 have hl:=h.len_le;obtain⟨A,c,rfl⟩:=h.form;have H:=zaa h;clear h;go_enter Tryz.func74,Tryz.ntmps74
 go_wp2_with fail
 go_loop [5] (fun i=>∃p:Nat,p<=xs.length/\i= .int .i64 p/\∀j,(h:j<xs.length)->j<p->xs[j].key≠k) (fun i=>xs.length-(intOf i).toNat)
 case atStart=>exact⟨0,zap _,rfl,fun j _ h=>absurd h (by omega)⟩
 case round=>
  obtain⟨p,hp,rfl,hall⟩:=hrel;have HA:=zaa hall;clear hall;by_cases hlt:p<xs.length
  · obtain⟨b,off,rfl,hb⟩:=H.out.at_ hlt;obtain⟨f1,_,_,_,_⟩:=H.out.ent hlt;go_wp2_with fail
    · (go_ret);have he:xs[p].key=k:=by
       have:=‹(xs[p].key.toList==k.toList)=true›;exact toList_inj (eq_of_beq this)
      exact⟨ei (zg hlt HA.out he).symm,rfl⟩
    · (go_round);case rel=>
       refine⟨p+1,by omega,by go_num,fun j hj hjp=> ?_⟩;by_cases e:j=p
       · subst e;intro he;have:=‹(xs[j].key.toList==k.toList)=false›;rw[he]at this;simp at this
       · exact HA.out j hj (by omega)
      case measure=>simp[intOf];omega
  · (go_wp2_with fail);(go_ret);exact⟨ei (we fun j hj=>HA.out j hj (by omega)).symm,rfl⟩
end
end Go.Proofs.YtojojpjldkpmoaaGreatDoor
