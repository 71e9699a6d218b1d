/-
  
-/
import Derived.Test.YtojojpjldkpmoaaGreatDoorGDoB
import Derived.Test.YtojojpjldkpmoaaGreatDoorGStE
import Derived.Laws.BitsAllLaws
import Derived.Laws.BitsLemmas
import Derived.Deep.RegionHeld3
set_option linter.unusedVariables false
set_option linter.unusedSimpArgs false
set_option maxHeartbeats 16000000
set_option maxRecDepth 100000
namespace Go.Proofs.YtojojpjldkpmoaaGreatDoor
section
open Go.RowKit Go.Deep
def EU(base:Nat)(w:World)(v:Value)(ys:List UInt8)(e:Ending)(w':World):Prop:=
 ∃v',e= .returned v'/\OwR aG 5 base w' v' ys/\al w v w' v'
theorem nr(a:Nat)(ha:a<9223372036854775808):(BitVec.ofInt 64 (a:Int)).toNat=a:=by
 rw[BitVec.ofInt_natCast,BitVec.toNat_ofNat];exact Nat.mod_eq_of_lt (by omega)
theorem ug(a b:Nat)(ha:a<9223372036854775808)(hb:b<9223372036854775808):bits .and .i64 (a:Int) (b:Int)=((a&&&b:Nat):Int):=by
 have hx:a&&&b<2^63:=Nat.and_lt_two_pow _ (by omega);show IntKind.i64.wrap ((BitVec.ofInt 64 (a:Int)&&&BitVec.ofInt 64 (b:Int)).toNat:Int)=_;rw[BitVec.toNat_and,nr a ha,nr b hb,IntKind.wrap_i64];omega
theorem jS(a b:Nat)(ha:a<9223372036854775808)(hb:b<9223372036854775808):bits .or .i64 (a:Int) (b:Int)=((a|||b:Nat):Int):=by
 have hx:a|||b<2^63:=Nat.or_lt_two_pow (by omega) (by omega);show IntKind.i64.wrap ((BitVec.ofInt 64 (a:Int)|||BitVec.ofInt 64 (b:Int)).toNat:Int)=_;rw[BitVec.toNat_or,nr a ha,nr b hb,IntKind.wrap_i64];omega
theorem l6(x y k:Nat)(hx:x<2^k):(y*2^k)|||x=y*2^k+x:=by
 rw[Nat.mul_comm,Nat.two_pow_add_eq_or_of_lt hx]
theorem ER(m:Nat)(hm:m<9223372036854775808):bits .or .i64 (bits .and .i64 (m:Int) 127) 128=((128+m%128:Nat):Int):=by
 have h1:bits .and .i64 (m:Int) 127=((m%128:Nat):Int):=by
  rw[show(127:Int)=((127:Nat):Int)from rfl,ug m 127 hm (by omega),show 127=2^7-1 from rfl,Nat.and_two_pow_sub_one_eq_mod]
 rw[h1,show(128:Int)=((128:Nat):Int)from rfl,jS _ 128 (by omega) (by omega)];have:=l6 (m%128) 1 7 (by omega);rw[Nat.or_comm];rw[show(1*2^7:Nat)=128 from rfl]at this;rw[this]
theorem oM(v:Value)(xs:List UInt8)(n:Nat)(w:World)(base:Nat)(h:OwR aG 5 base w v xs)(hn:n<=9223372036854775807)(hb:xs.length<=1000000000):
  Calls Tryz.prog 95 #[v,.int .i64 n] w (EU base w v (xs++sev n)):=by
 have hsl:=kS n 8 (by omega);have H:=zaa h;have HS:=zaa hsl;clear h hsl;go_enter Tryz.func95,Tryz.ntmps95
 go_wp2_with fail
 go_loopw [0,1] (fun s0 s1 wr=>∃(m:Nat) (done:List UInt8),s1= .int .i64 m/\m<=n/\sev n=done++sev m/\OwR aG 5 base wr s0 (xs++done)/\al w v wr s0) (fun _ s1 _=>(intOf s1).toNat)
 case atStart=>exact⟨n,[],rfl,zab _,rfl,by rw[zbM];exact H.out,al.refl _ _⟩
 case round=>
  obtain⟨m,done,rfl,hmn,hsv,hown,hgr⟩:=hrel;have hlen:(xs++done).length+1<=140737488355328:=by
   have:=HS.out;rw[hsv,zaq]at this;rw[zaq];omega
  have HLEN:=zaa hlen;clear hlen;have HSV:=zaa hsv;have HOW:=zaa hown;have HGR:=zaa hgr;have hbw:=hgr.grown.size;clear hsv hown hgr;by_cases hm:(127:Int)<(m:Int)
  · have hl7:=ER m (by omega);(have hwr:IntKind.u8.wrap ((128+m%128:Nat):Int)=((128+m%128:Nat):Int):=by rw[IntKind.wrap_u8];omega);have hsv2:=m8 (n:=m) (by omega);have HSV2:=zaa hsv2;clear hsv2;have hone:=k8 (w:=wr) (E:=5) (x:=((128+m%128:Nat):Int)) (by omega) (by omega);have hal:=HOW.out.keep ((zac wr.heap.size wr).alloc (zab _) (.cells #[.int .u8 ((128+m%128:Nat):Int)] 5));have HONE:=zaa hone;have HAL:=zaa hal;clear hone hal;(go_wp2_with (at_builtin;refine dx (base:=base) rfl _ _ rfl HAL.out HONE.out rfl rfl HLEN.out ?_;intro v1 w1 ho1 hg1));have hbal:Below wr.heap.size wr (wr.alloc (.cells #[.int .u8 ((128+m%128:Nat):Int)] 5)):=(zac wr.heap.size wr).alloc (zab _) _;(go_roundw);case rel=>
     exact⟨m/128,done++[b8 (128+m%128:Nat)],by go_num,by omega,by rw[HSV.out,HSV2.out];simp,by rw[<-zbm];exact ho1,(HGR.out.trans (al.of_below hbal _)).trans hg1⟩
    case measure=>simp[intOf];omega
  · have hone:=k8 (w:=wr) (E:=5) (x:=(m:Int)) (by omega) (by omega);have hal:=HOW.out.keep ((zac wr.heap.size wr).alloc (zab _) (.cells #[.int .u8 (m:Int)] 5));have HONE:=zaa hone;have HAL:=zaa hal;have hsm:=hU (n:=m) (by omega);have HSM:=zaa hsm;clear hone hal hsm;(go_wp2_with (at_builtin;refine dx (base:=base) rfl _ _ rfl HAL.out HONE.out rfl rfl HLEN.out ?_;intro v1 w1 ho1 hg1));have hbal:Below wr.heap.size wr (wr.alloc (.cells #[.int .u8 (m:Int)] 5)):=(zac wr.heap.size wr).alloc (zab _) _;(go_ret);exact⟨v1,rfl,by rw[HSV.out,HSM.out,<-zbm];exact ho1,(HGR.out.trans (al.of_below hbal _)).trans hg1⟩
def ta(xs:List UInt8):Int:=(eG xs).2*65536+(eG xs).1
theorem Eb(x y:Int)(hx:0<=x)(hx':x<65536)(hy:0<=y)(hy':y<65536):bits .or .i64 (y*65536) x=y*65536+x:=by
 obtain⟨a,rfl⟩:=zaZ hx;obtain⟨b,rfl⟩:=zaZ hy;have e:((b:Int)*65536)=((b*2^16:Nat):Int):=by omega
 rw[e,jS _ a (by omega) (by omega),l6 a b 16 (by omega)];omega
theorem xL(v:Value)(xs:List UInt8)(w:World)(h:Sl aG w v xs):
  Calls Tryz.prog 96 #[v] w fun e w'=>e= .returned (.int .i64 (ta xs))/\w=w':=by
 have hl:=h.len_le;obtain⟨A,c,rfl⟩:=h.form;have H:=zaa h;clear h;go_enter Tryz.func96,Tryz.ntmps96
 go_wp2_with fail
 go_loop [3,4,6,9] (fun s3 s4 _ s9=>∃k:Nat,k<=xs.length/\s9= .int .i64 k/\s3= .int .i64 (eG (xs.take k)).1/\s4= .int .i64 (eG (xs.take k)).2) (fun _ _ _ s9=>xs.length-(intOf s9).toNat)
 case atStart=>exact⟨0,zap _,rfl,rfl,rfl⟩
 case round=>
  obtain⟨k,hk,rfl,rfl,rfl⟩:=hrel;have hb:=m7 (xs.take k);obtain⟨p,hp⟩:∃p,eG (xs.take k)=p:=⟨_,rfl⟩;rw[hp]at hb;obtain⟨b1,b2,b3,b4⟩:=hb;by_cases hlt:k<xs.length
  · obtain⟨b,off,rfl,hb⟩:=H.out.at_ hlt;obtain⟨cs,⟨rfl,_⟩,hc⟩:=H.out.cell hlt;have f1:w.cell? ⟨b,off+k,none⟩=some (.int .u8 xs[k].toNat):=by
     have:=hc 0 _ rfl;simpa [aG,dw]using this
    have hu:xs[k].toNat<256:=xs[k].toNat_lt;have hsn:eG (xs.take (k+1))=((p.1+xs[k].toNat)%65521,(p.2+(p.1+xs[k].toNat)%65521)%65521):=by
     rw[zar hlt,lP,hp]
    have HSN:=zaa hsn;rw[hp];clear hc hsn hp;(go_wp2_with fail);(go_round);(case rel=>exact⟨k+1,by omega,by go_num,by rw[HSN.out],by rw[HSN.out]⟩);case measure=>simp[intOf];omega
  · have hfin:ta xs=p.2*65536+p.1:=by
     unfold ta;rw[<-hp,zaO (by omega)]
    have HF:=zaa hfin;have hor:=Eb p.1 p.2 b1 (by omega) b3 (by omega);have HOR:=zaa hor;rw[hp];clear hfin hor hp;(go_wp2_with fail);(go_ret);refine⟨ei ?_,rfl⟩;rw[HF.out];exact HOR.out
def pk(xs:List ab):List UInt8:=if aj xs=0 then j1 xs else []
def nA(xs:List ab)(w:World)(e:Ending)(w':World):Prop:=
 ∃v',e= .returned (.tuple #[v',.int .i64 (aj xs)])/\OwR aG 5 w.heap.size w' v' (pk xs)/\Below w.heap.size w w'
def gU(xs:List ab)(k:Nat):List UInt8:=116::b8 xs.length::((xs.take k).map mm).flatten
theorem kD(xs:List ab)(k:Nat)(h:k<xs.length):gU xs (k+1)=gU xs k++mm xs[k]:=by
 unfold gU;rw[zar h,zbe,zck];simp
theorem ml(xs:List ab)(k:Nat)(h:xs.length<=k):gU xs k=lv xs:=by
 unfold gU lv;rw[zaO h]
theorem mi{xs:List ab}(hok:∀e∈xs,bj e=true)(k:Nat)(hk:k<=xs.length):(gU xs k).length<=2+138*k:=by
 induction k with
 | zero=>simp[gU]
 | succ k ih=>
   rw[kD xs k (by omega),zaq];have:=Cd (hok xs[k] (zaw _));have:=ih (by omega);omega
theorem d5{e:ab}(h:bj e=true):1<=e.key.size/\e.key.size<=8/\1<=e.version/\e.version<=1099511627776/\0<=e.origin/\e.origin<=11/\e.value.size<=120:=by
 unfold bj eu at h;simp only[Bool.and_eq_true,decide_eq_true_eq]at h;obtain⟨⟨⟨⟨⟨⟨⟨h1,h2⟩,h3⟩,h4⟩,h5⟩,h6⟩,h7⟩,h8⟩:=h;exact⟨h1,h2,h4,h5,h6,h7,h8⟩
theorem al.cell{w w':World}{v v':Value}(h:al w v w' v'){b:Nat}(hb:b<w.heap.size)(hne:v.ownBlock≠some b)(o:Nat):w'.cell? ⟨b,o,none⟩=w.cell? ⟨b,o,none⟩:=
 zav (w:=w) (a:=⟨b,o,none⟩) (h.grown.block b hb (fun e=>hne e.symm))
theorem OwR.alloc1{α:Type}{r:Rep α}{E base:Nat}{w:World}{v:Value}{xs:List α}(h:OwR r E base w v xs)(o:Obj):OwR r E base (w.alloc o) v xs:=h.keep ((zac w.heap.size w).alloc (zab _) o)
theorem OwR.drew1{α:Type}{r:Rep α}{E base:Nat}{w:World}{v:Value}{xs:List α}(h:OwR r E base w v xs):OwR r E base w.drew v xs:=h.keep ((zac w.heap.size w).drew)
theorem al.alloc(w:World)(v:Value)(o:Obj):al w v (w.alloc o) v:=al.of_below ((zac w.heap.size w).alloc (zab _) o) v
theorem al.drew(w:World)(v:Value):al w v w.drew v:=al.of_below ((zac w.heap.size w).drew) v
theorem al.keeps{w w':World}{v v':Value}{B:Nat}{cs:Array Value}(hg:al w v w' v')(hB:B<w.heap.size)(hne:v.ownBlock≠some B)(hc:∀i,w.cell? ⟨B,i,none⟩=cs[i]?):
  (∀i,w'.cell? ⟨B,i,none⟩=cs[i]?)/\v'.ownBlock≠some B/\B<w'.heap.size:=by
 refine⟨fun i=>(hg.cell hB hne i).trans (hc i),fun e=> ?_,zas hB hg.grown.size⟩;rcases hg.own _ e with e|e
 · exact hne e
 · omega
theorem wQ(v:Value)(xs:List ab)(w:World)(h:Sl aW w v xs):Calls Tryz.prog 60 #[v] w (nA xs w):=by
 have hlen:=h.len_le;obtain⟨A,c,rfl⟩:=h.form;have H:=zaa h;clear h;go_enter Tryz.func60,Tryz.ntmps60
 go_wp2_with fail
 refine(fy _ xs _ H.out).mono ?_;rintro r w1 ⟨rfl,hb1⟩;have HB1:=zaa hb1;have hz1:=hb1.size;clear hb1;by_cases hc:aj xs=0
 · (have t1:(aj xs !=0)=false:=by simp[hc]);have hok:=dX hc;have HOK:=zaa hok;have HC:=zaa hc;have hl60:=hok.len;have hlb:OwR aG 5 w.heap.size (w1.alloc (.cells #[.int .u8 116,.int .u8 (xs.length:Int)] 5)) (.slice (some ⟨w1.heap.size,0,none⟩) 2 2) (gU xs 0):=by
    have:=OwR.lit1 (r:=aG) (E:=5) (base:=w.heap.size) (w:=w1) (f:=fP) (xs:=[116,b8 xs.length]) rfl (fun x _ S=>⟨rfl,trivial⟩) hz1 (by simp;decide);have e:([116,b8 xs.length].map fP).toArray= #[.int .u8 116,.int .u8 (xs.length:Int)]:=by
     simp only[zbc,zbB];rw[uY (by omega) (by omega)];rfl
    rw[e]at this;exact this
   have HLB:=zaa hlb;have hbb:Below w.heap.size w (w1.alloc (.cells #[.int .u8 116,.int .u8 (xs.length:Int)] 5)):=HB1.out.alloc hz1 _;have HBB:=zaa hbb;clear hok hc hlb hbb;(go_wp2_with fail);(go_loopw [5,7,20] (fun s5 _ s20 wr=>∃k:Nat,k<=xs.length/\s20= .int .i64 k/\Below w.heap.size w wr/\OwR aG 5 w.heap.size wr s5 (gU xs k)) (fun _ _ s20 _=>xs.length-(intOf s20).toNat));(case atStart=>exact⟨0,zap _,rfl,HBB.out,HLB.out⟩);case round=>
    obtain⟨k,hk,rfl,hB,hown⟩:=hrel;have HB:=zaa hB;have HOWN:=zaa hown;have hlk:=mi HOK.out.ok k hk;by_cases hlt:k<xs.length
    · obtain⟨b,off,rfl,hb⟩:=H.out.at_ hlt;obtain⟨f1,f2,f3,f4,_⟩:=(H.out.below hB).ent hlt;have hez:=hB.size;have hyo:=d5 (HOK.out.ok xs[k] (zaw hlt));have hsucc:=kD xs k hlt;obtain⟨y,hy⟩:∃y,xs[k]=y:=⟨_,rfl⟩;rw[hy]at f1 f2 f3 f4 hyo hsucc;obtain⟨y1,y2,y3,y4,y5,y6,y7⟩:=hyo;have HSUC:=zaa hsucc;(have hlk':(gU xs k).length<=10000:=by omega);obtain⟨L,hL⟩:∃L,gU xs k=L:=⟨_,rfl⟩;rw[hL]at hlk' hown hsucc;have HL:=zaa hL;(have hne0:u5.ownBlock≠some wr.heap.size:=fun e=>by have:=(hown.base_le _ e).2;omega);have hbW:Below wr.heap.size wr (wr.alloc (.cells #[.string y.key,.int .i64 y.version,.int .i64 y.origin,.string y.value] 44)):=(zac _ _).alloc (zab _) _;clear hy hB hlk hsucc hL;(go_wp2_with fail);have hoA:OwR aG 5 w.heap.size ((wr.alloc (.cells #[.string y.key,.int .i64 y.version,.int .i64 y.origin,.string y.value] 44)).alloc (.cells #[.int .u8 (y.key.size:Int)] 5)).drew u5 L:=
       hown.keep ((hbW.alloc (by simp) _).drew)
      have hone:SlR aG ((wr.alloc (.cells #[.string y.key,.int .i64 y.version,.int .i64 y.origin,.string y.value] 44)).alloc (.cells #[.int .u8 (y.key.size:Int)] 5)).drew (fun k=>k<wr.heap.size+1+1) (.slice (some ⟨wr.heap.size+1,0,none⟩) 1 1) [b8 y.key.size]:=by
       have:=k8 (w:=wr.alloc (.cells #[.string y.key,.int .i64 y.version,.int .i64 y.origin,.string y.value] 44)) (E:=5) (x:=(y.key.size:Int)) (by omega) (by omega);rw[zbq]at this;exact this
      have hk1:∀v' w',al ((wr.alloc (.cells #[.string y.key,.int .i64 y.version,.int .i64 y.origin,.string y.value] 44)).alloc (.cells #[.int .u8 (y.key.size:Int)] 5)).drew u5 w' v'->
        (∀i,w'.cell? ⟨wr.heap.size,i,none⟩= #[Value.string y.key,.int .i64 y.version,.int .i64 y.origin,.string y.value][i]?)/\v'.ownBlock≠some wr.heap.size/\wr.heap.size<w'.heap.size:=by
       intro v' w' hg;(have hz:wr.heap.size+1<w'.heap.size:=by have:=hg.grown.size;simp at this;omega);refine⟨fun i=> ?_,fun e=> ?_,by omega⟩
       · rw[hg.cell (by simp;omega) hne0 i,zaY,World.cell?_alloc_lt _ _ _ (by simp),zah _ _ _ _ rfl]
       · rcases hg.own _ e with e|e
         · exact hne0 e
         · simp at e;omega
      have HK1:=zaa hk1;(have hn1:L.length+[b8 y.key.size].length<=140737488355328:=by simp;omega);(have hn2:(L++[b8 y.key.size]).length+y.key.size<=140737488355328:=by simp;omega);have HN1:=zaa hn1;have HN2:=zaa hn2;have HOA:=zaa hoA;have HONE:=zaa hone;have HNE0:=zaa hne0;clear hoA hone hown hk1 hn1 hn2 hne0;(have hw1:IntKind.u8.wrap (y.key.size:Int)=(y.key.size:Int):=by rw[IntKind.wrap_u8];omega);go_region_held3 (fun w'=>w'.cell? ⟨wr.heap.size,0,none⟩=some (.string y.key)) (first|go_keep|exact c1 0|exact c2 0)
       (first
        | (refine iD (base:=w.heap.size) (by rfl) (.tmp 24) (.tmp 29) (by rfl) HOA.out HONE.out (by rfl) (by rfl) HN1.out ?_;intro v1 w2 ho1 hg1;obtain⟨c1,n1,z1⟩:=HK1.out v1 w2 hg1)
        | (refine AS (base:=w.heap.size) (by rfl) (.tmp 30) (.tmp 32) (by rfl) ho1 (by rfl) (by rfl) HN2.out ?_;intro v2 w3 ho2 hg2;obtain⟨c2,n2,z2⟩:=HK1.out v2 w3 (hg1.trans hg2)))
      clear c1 n1 z1 hw1;have T1:=zaa (hg1.trans hg2);have hver:((y.version.toNat:Nat):Int)=y.version:=Int.toNat_of_nonneg (by omega);have hsl:=kS y.version.toNat 6 (by omega);have hl2:((L++[b8 y.key.size])++y.key.data.toList).length<=10100:=by
       have e1:y.key.data.toList.length=y.key.size:=aC _;simp only[zaq,zaD,zaW,e1];omega
      obtain⟨L2,hL2⟩:∃L2,(L++[b8 y.key.size])++y.key.data.toList=L2:=⟨_,rfl⟩;rw[hL2]at hl2 ho2;have HL2:=zaa hL2;have hnum:=oM v2 L2 y.version.toNat w3.drew w.heap.size ho2.drew1 (by omega) (by omega);rw[hver]at hnum;have HNUM:=zaa hnum;(have hn4:(L2++sev y.version.toNat).length+[b8 y.origin,b8 y.value.size].length<=140737488355328:=by simp only[zaq,zaD,zaW];omega);(have hn5:((L2++sev y.version.toNat)++[b8 y.origin,b8 y.value.size]).length+y.value.size<=140737488355328:=by simp only[zaq,zaD,zaW];omega);have HN4:=zaa hn4;have HN5:=zaa hn5;have htwo:∀w4:World,SlR aG (w4.alloc (.cells #[.int .u8 y.origin,.int .u8 (y.value.size:Int)] 5)) (fun k=>k<w4.heap.size+1) (.slice (some ⟨w4.heap.size,0,none⟩) 2 2) [b8 y.origin,b8 y.value.size]:=fun w4=>
       kj (w:=w4) (E:=5) [y.origin,(y.value.size:Int)] (by intro x hx;simp at hx;rcases hx with rfl|rfl<;>omega) (by simp;decide)
      have HTWO:=zaa htwo;have hnum2:=oM v2 L2 y.version.toNat (w3.alloc (.cells #[.int .u8 y.origin,.int .u8 (y.value.size:Int)] 5)).drew w.heap.size (ho2.alloc1 _).drew1 (by omega) (by omega);rw[hver]at hnum2;have HNUM2:=zaa hnum2;(have hnv2:v2.ownBlock≠some w3.heap.size:=fun e=>by have:=(ho2.base_le _ e).2;omega);have htwo2:∀v' w',al (w3.alloc (.cells #[.int .u8 y.origin,.int .u8 (y.value.size:Int)] 5)).drew v2 w' v'->SlR aG w' (fun k=>k<w'.heap.size) (.slice (some ⟨w3.heap.size,0,none⟩) 2 2) [b8 y.origin,b8 y.value.size]:=by
       intro v' w' hg;have h0:SlR aG (w3.alloc (.cells #[.int .u8 y.origin,.int .u8 (y.value.size:Int)] 5)).drew (fun k=>k=w3.heap.size) (.slice (some ⟨w3.heap.size,0,none⟩) 2 2) [b8 y.origin,b8 y.value.size]:=by
        obtain⟨A0,c0,e0,l0,m0,g0⟩:=htwo w3;refine⟨A0,c0,e0,l0,m0,fun i x hx=> ?_⟩;obtain⟨b0,off0,cs0,hA0,_,hb0,hh0,hc0⟩:=g0 i x hx;injection e0 with e1 e2 e3;rw[<-e1]at hA0;injection hA0 with hA0;injection hA0 with k1 k2;exact⟨b0,off0,cs0,by rw[<-e1,<-k1,<-k2],k1.symm,hb0,hh0,hc0⟩
       have hz:=hg.grown.size;simp at hz;exact SlR.keep h0 (fun k hk=>hg.grown.block k (by subst hk;simp) (by subst hk;exact fun e=>hnv2 e.symm)) (fun k hk=>by subst hk;omega)
      have HTWO2:=zaa htwo2;have hGA:∀v' w',al (w3.alloc (.cells #[.int .u8 y.origin,.int .u8 (y.value.size:Int)] 5)).drew v2 w' v'->al w3.drew v2 w' v':=fun v' w' h=>(al.alloc w3.drew v2 _).trans h;have HGA:=zaa hGA;clear hnum2 hnv2 htwo2 hGA;have HK:∀v' w',al w3.drew v2 w' v'->(∀i,w'.cell? ⟨wr.heap.size,i,none⟩= #[Value.string y.key,.int .i64 y.version,.int .i64 y.origin,.string y.value][i]?)/\v'.ownBlock≠some wr.heap.size/\wr.heap.size<w'.heap.size:=
       fun v' w' hg=>hg.keeps z2 n2 c2
      have HK:=zaa HK;clear hver hsl hl2 hL2 hnum hn4 hn5 htwo ho1 hg1 hg2 ho2;(go_wp2_with fail);(have hw2:IntKind.u8.wrap y.origin=y.origin:=by rw[IntKind.wrap_u8];omega);(have hw3:IntKind.u8.wrap (y.value.size:Int)=(y.value.size:Int):=by rw[IntKind.wrap_u8];omega);go_region_held3 (fun w'=>w'.cell? ⟨wr.heap.size,1,none⟩=some (.int .i64 y.version)/\w'.cell? ⟨wr.heap.size,2,none⟩=some (.int .i64 y.origin)/\w'.cell? ⟨wr.heap.size,3,none⟩=some (.string y.value)) (first|go_keep|exact⟨c4 1,c4 2,c4 3⟩|exact⟨c5 1,c5 2,c5 3⟩)
       (first
        | (go_at_call 95;refine HNUM.out.mono ?_;rintro e w4 ⟨v4,rfl,ho4,hg4⟩;obtain⟨c4,n4,z4⟩:=HK.out v4 w4 hg4)
        | (go_at_call 95;refine HNUM2.out.mono ?_;rintro e w4 ⟨v4,rfl,ho4b,hg4b⟩;obtain⟨c4,n4,z4⟩:=HK.out v4 w4 (HGA.out v4 w4 hg4b))
        | (refine iD (base:=w.heap.size) (by rfl) (.tmp 37) (.tmp 45) (by rfl) (ho4.alloc1 _) (HTWO.out w4) (by rfl) (by rfl) HN4.out ?_;intro v5 w5 ho5 hg5;have G5:=zaa ((hg4.trans (al.alloc _ _ _)).trans hg5);obtain⟨c5,n5,z5⟩:=HK.out v5 w5 G5.out)
        | (refine iD (base:=w.heap.size) (by rfl) (.tmp 37) (.tmp 45) (by rfl) ho4b (HTWO2.out v4 w4 hg4b) (by rfl) (by rfl) HN4.out ?_;intro v5 w5 ho5 hg5;have G5:=zaa ((HGA.out v4 w4 hg4b).trans hg5);obtain⟨c5,n5,z5⟩:=HK.out v5 w5 G5.out))
      all_goals
       clear hw2 hw3;(go_wp2_with (at_builtin;refine kh (base:=w.heap.size) rfl (.tmp 47) (.tmp 49) rfl ho5 rfl rfl HN5.out ?_;intro v6 w6 ho6 hg6));have hall:=((T1.out.trans (al.drew _ _)).trans G5.out).trans hg6;have hb6:Below w.heap.size wr w6:=(((hbW.alloc (by simp) _).drew).mono hez).trans (hall.below (by simp;omega) (fun k hk=>(HOWN.out.base_le k hk).1));(go_roundw);case rel=>
        refine⟨k+1,by omega,by go_num,HB.out.trans hb6,?_⟩;rw[HSUC.out,HL.out];have e:(((L2++sev y.version.toNat)++[b8 y.origin,b8 y.value.size])++y.value.data.toList)=L++mm y:=by
         rw[<-HL2.out];unfold mm;simp
        rw[<-e];exact ho6
       case measure=>simp[intOf];omega
    · have hend:=ml xs k (by omega);rw[hend]at hown hlk;(have hlk':(lv xs).length<=10000:=by omega);obtain⟨B,hB2⟩:∃B,lv xs=B:=⟨_,rfl⟩;have hsl:=m7 B;(have hes:pk xs=B++et B:=by unfold pk j1;rw[if_pos HC.out,hB2]);rw[hB2]at hown hlk';have hsum:=xL u5 B wr (hown.sl (by decide));obtain⟨N,hN⟩:∃N,ta B=N:=⟨_,rfl⟩;have hN':N=(eG B).2*65536+(eG B).1:=hN.symm;rw[hN]at hsum;have HSUM:=zaa hsum;have HES:=zaa hes;have HOWB:=zaa hown;obtain⟨X,hX⟩:∃X,eG B=X:=⟨_,rfl⟩;rw[hX]at hN' hsl;(have e1:IntKind.u8.wrap (N/16777216)=X.2/256:=by rw[IntKind.wrap_u8];omega);(have e2:IntKind.u8.wrap (N/65536)=X.2%256:=by rw[IntKind.wrap_u8];omega);(have e3:IntKind.u8.wrap (N/256)=X.1/256:=by rw[IntKind.wrap_u8];omega);(have e4:IntKind.u8.wrap N=X.1%256:=by rw[IntKind.wrap_u8];omega);have hfour:SlR aG (wr.alloc (.cells #[.int .u8 (X.2/256),.int .u8 (X.2%256),.int .u8 (X.1/256),.int .u8 (X.1%256)] 5)) (fun k=>k<wr.heap.size+1) (.slice (some ⟨wr.heap.size,0,none⟩) 4 4) (et B):=by
       have:=kj (w:=wr) (E:=5) [X.2/256,X.2%256,X.1/256,X.1%256] (by intro x hx;simp at hx;rcases hx with rfl|rfl|rfl|rfl<;>omega) (by simp;decide);unfold et;rw[hX];exact this
      (have hn6:B.length+(et B).length<=140737488355328:=by simp[et];omega);have HFOUR:=zaa hfour;have HN6:=zaa hn6;have hez:=hB.size;have HEZ:=zaa hez;clear hend hlk hB2 hsl hes hown hsum hN hN' hX hfour hn6 hlk' hB;(go_wp2_with fail);refine HSUM.out.mono ?_;rintro e w' ⟨rfl,rfl⟩;(go_wp2_with (at_builtin;refine dx (base:=w.heap.size) rfl (.tmp 54) (.tmp 66) rfl (HOWB.out.alloc1 _) HFOUR.out rfl rfl HN6.out ?_;intro v1 w2 ho1 hg1));(go_ret2);exact⟨v1,by rw[HC.out];rfl,by rw[HES.out];exact ho1,HB.out.trans (((al.alloc wr u5 _).trans hg1).below HEZ.out (fun k hk=>(HOWB.out.base_le k hk).1))⟩
 · (have t1:(aj xs !=0)=true:=by simp[hc]);(have hen:pk xs=[]:=by unfold pk;rw[if_neg hc]);have HE:=zaa hen;clear hc hen;(go_wp2_with fail);(go_ret2);exact⟨.slice none 0 0,rfl,by rw[HE.out];exact OwR.nil _ _ HB1.out.size,HB1.out⟩
end
end Go.Proofs.YtojojpjldkpmoaaGreatDoor
