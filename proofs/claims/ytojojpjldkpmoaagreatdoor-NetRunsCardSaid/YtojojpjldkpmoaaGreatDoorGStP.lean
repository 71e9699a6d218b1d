/-
  
-/
import Derived.Test.YtojojpjldkpmoaaGreatDoorGSrt
import Derived.Test.YtojojpjldkpmoaaGreatDoorGStG
import Derived.Test.YtojojpjldkpmoaaGreatDoorGIns2
import Derived.Test.YtojojpjldkpmoaaGreatDoorGStE
set_option linter.unusedVariables false
set_option linter.unusedSimpArgs false
set_option maxHeartbeats 16000000
set_option maxRecDepth 100000
namespace Go.Proofs.YtojojpjldkpmoaaGreatDoor
section
open Go.RowKit
def fi(l:List ab)(x:ab)(i:Nat):List ab:=
 if i<=lbE l x.key then l.take i else l.take (lbE l x.key)++x::(l.take i).drop (lbE l x.key+if dm l x.key then 1 else 0)
def f9(l:List ab)(x:ab)(i:Nat):Bool:=decide (lbE l x.key<i)
theorem yM(l:List ab)(x:ab):fi l x 0=[]:=by simp[fi]
theorem AF(l:List ab)(x:ab):(if f9 l x l.length then fi l x l.length else fi l x l.length++[x])=cZ l x:=by
 unfold f9 fi cZ;have hle:=kx l x.key;by_cases h:lbE l x.key<l.length
 · rw[if_pos (by simpa using h),if_neg (by omega),zaN]
 · (have e:lbE l x.key=l.length:=by omega);rw[if_neg (by simpa using h),if_pos (by omega),e,zaN,zbA (by omega)]
theorem AE{l:List ab}(x:ab){i:Nat}(hi:i<l.length)(h:i<lbE l x.key):fi l x (i+1)=fi l x i++[l[i]]:=by
 unfold fi;rw[if_pos (by omega),if_pos (by omega),zar hi]
theorem EC{l:List ab}(x:ab){i:Nat}(hi:i<l.length)(h:i<lbE l x.key):f9 l x i=false/\f9 l x (i+1)=false/\ltB l[i].key x.key=true/\l[i].key≠x.key:=by
 have h1:=kw l x.key i hi h;refine⟨by simp[f9];omega,by simp[f9];omega,h1,fun e=> ?_⟩;rw[e,cV]at h1;cases h1
theorem EQ{l:List ab}(x:ab){i:Nat}(hi:i<l.length)(h:i=lbE l x.key):f9 l x i=false/\f9 l x (i+1)=true/\ltB l[i].key x.key=false:=by
 subst h;exact⟨by simp[f9],by simp[f9],sm l x.key hi⟩
theorem sQ{l:List ab}(hl:l.Pairwise ltE)(x:ab){i:Nat}(hi:i<l.length)(h:i=lbE l x.key)(he:l[i].key=x.key):fi l x (i+1)=fi l x i++[x]:=by
 subst h;have hh:dm l x.key=true:=(cF hl _).2 ⟨hi,he⟩;unfold fi;rw[if_neg (by omega),if_pos (zab _),if_pos hh,zbA (by rw[zat];omega)]
theorem vw{l:List ab}(hl:l.Pairwise ltE)(x:ab){i:Nat}(hi:i<l.length)(h:i=lbE l x.key)(he:l[i].key≠x.key):fi l x (i+1)=fi l x i++[x]++[l[i]]:=by
 subst h;have hh:¬ dm l x.key=true:=fun e=>by obtain⟨_,h2⟩:=(cF hl _).1 e;exact he h2
 unfold fi;rw[if_neg (by omega),if_pos (zab _),if_neg hh,zbH,zar hi,List.drop_append_of_le_length (by rw[zat];omega),zbA (by rw[zat];omega)];simp
theorem D7{l:List ab}(hl:l.Pairwise ltE)(x:ab){i:Nat}(hi:i<l.length)(h:lbE l x.key<i):f9 l x i=true/\f9 l x (i+1)=true/\l[i].key≠x.key:=by
 refine⟨by simp[f9];omega,by simp[f9];omega,fun e=> ?_⟩;have:=ns hl x.key hi e;omega
theorem yN{l:List ab}(x:ab){i:Nat}(hi:i<l.length)(h:lbE l x.key<i):fi l x (i+1)=fi l x i++[l[i]]:=by
 unfold fi;rw[if_neg (show ¬ i+1<=lbE l x.key by omega),if_neg (show ¬ i<=lbE l x.key by omega),zar hi,List.drop_append_of_le_length (by rw[zat];split<;>omega)];simp
def dj(xs:List ab)(node:Int)(key value:ByteArray):List ab × Int:=
 if aj xs≠0 then([],aj xs)else
 if node<0∨11<node then([],2)else
 if eu key=false then([],4)else
 if 120<value.size then([],1)else
 match bR xs key with
 | none=>if 60<=xs.length then([],1)else(cZ xs ⟨key,1,node,value⟩,0)
 | some e=>if e.version=1099511627776 then([],2)else(cZ xs ⟨key,e.version+1,node,value⟩,0)
theorem xT{xs:List ab}{node:Int}{key value:ByteArray}(h:aj xs≠0):dj xs node key value=([],aj xs):=by unfold dj;rw[if_pos h]
theorem oB{xs:List ab}{node:Int}{key value:ByteArray}(h:aj xs=0)(h2:node<0∨11<node):dj xs node key value=([],2):=by
 unfold dj;rw[if_neg (by simp[h]),if_pos h2]
theorem r7{xs:List ab}{node:Int}{key value:ByteArray}(h:aj xs=0)(h2:0<=node/\node<=11)(h3:eu key=false):dj xs node key value=([],4):=by
 unfold dj;rw[if_neg (by simp[h]),if_neg (by omega),if_pos h3]
theorem oA{xs:List ab}{node:Int}{key value:ByteArray}(h:aj xs=0)(h2:0<=node/\node<=11)(h3:eu key=true)(h4:120<value.size):dj xs node key value=([],1):=by
 unfold dj;rw[if_neg (by simp[h]),if_neg (by omega),if_neg (by simp[h3]),if_pos h4]
theorem oD{xs:List ab}{node:Int}{key value:ByteArray}(h:aj xs=0)(h2:0<=node/\node<=11)(h3:eu key=true)(h4:value.size<=120)(h5:dm xs key=false)(h6:60<=xs.length):dj xs node key value=([],1):=by
 unfold dj;rw[if_neg (by simp[h]),if_neg (by omega),if_neg (by simp[h3]),if_neg (by omega),gG h5];simp only;rw[if_pos h6]
theorem r6{xs:List ab}{node:Int}{key value:ByteArray}(h:aj xs=0)(h2:0<=node/\node<=11)(h3:eu key=true)(h4:value.size<=120)(h5:dm xs key=false)(h6:xs.length<60):dj xs node key value=(cZ xs ⟨key,1,node,value⟩,0):=by
 unfold dj;rw[if_neg (by simp[h]),if_neg (by omega),if_neg (by simp[h3]),if_neg (by omega),gG h5];simp only;rw[if_neg (by omega)]
theorem oC{xs:List ab}{node:Int}{key value:ByteArray}(h:aj xs=0)(h2:0<=node/\node<=11)(h3:eu key=true)(h4:value.size<=120){e:ab}(h5:bR xs key=some e)(h6:e.version=1099511627776):dj xs node key value=([],2):=by
 unfold dj;rw[if_neg (by simp[h]),if_neg (by omega),if_neg (by simp[h3]),if_neg (by omega),h5];simp only;rw[if_pos h6]
theorem r5{xs:List ab}{node:Int}{key value:ByteArray}(h:aj xs=0)(h2:0<=node/\node<=11)(h3:eu key=true)(h4:value.size<=120){e:ab}(h5:bR xs key=some e)(h6:e.version≠1099511627776):dj xs node key value=(cZ xs ⟨key,e.version+1,node,value⟩,0):=by
 unfold dj;rw[if_neg (by simp[h]),if_neg (by omega),if_neg (by simp[h3]),if_neg (by omega),h5];simp only;rw[if_neg h6]
theorem qf{l:List ab}{x:ab}(h:dm l x.key=false):cZ l x=l.take (lbE l x.key)++x::l.drop (lbE l x.key):=by unfold cZ;rw[h];simp
theorem qe{l:List ab}{x:ab}(hl:lbE l x.key<l.length)(h:dm l x.key=true):cZ l x=l.set (lbE l x.key) x:=by
 unfold cZ;rw[h,if_pos rfl,List.set_eq_take_append_cons_drop,if_pos hl]
def aY(above:ab->ab->Bool)(p:List ab × List ByteArray)(e:ab):List ab × List ByteArray:=
 match bR p.1 e.key with
 | some o=>if above e o=true then(cZ p.1 e,p.2++[e.key])else p
 | none=>if p.1.length<60 then(cZ p.1 e,p.2++[e.key])else p
def cJ(above:ab->ab->Bool)(a b:List ab):List ab × List ByteArray × Int:=
 if aj a≠0 then([],[],aj a)else if aj b≠0 then([],[],aj b)else
 ((b.foldl (aY above) (a,[])).1,(b.foldl (aY above) (a,[])).2,0)
theorem mh{l:List ab}{k:ByteArray}{e:ab}(h:bR l k=some e):e.key=k/\e∈l:=by
 unfold bR at h;have h1:=List.find?_some h;exact⟨by simpa using h1,List.mem_of_find?_eq_some h⟩
theorem qT{l:List ab}{k:ByteArray}{e:ab}(h:bR l k=some e):dm l k=true:=by
 obtain⟨h1,h2⟩:=mh h;unfold dm;rw[zbp];exact⟨e,h2,decide_eq_true h1⟩
theorem si{above:ab->ab->Bool}{p:List ab × List ByteArray}{e:ab}(h:OkS p.1)(he:bj e=true):OkS (aY above p e).1:=by
 unfold aY;split
 · rename_i o ho;split
   · exact kJ h he (.inl (qT ho))
   · exact h
 · split
   · exact kJ h he (.inr (by assumption))
   · exact h
theorem uo{above:ab->ab->Bool}:∀(b:List ab) (p:List ab × List ByteArray),OkS p.1->(∀e∈b,bj e=true)->OkS (b.foldl (aY above) p).1
 | [],_,h,_=>h
 | e::b,p,h,hb=>uo b _ (si h (hb e (by simp))) (fun x hx=>hb x (by simp[hx]))
end
section
open Go.RowKit Go.Deep
def EP(w:World)(ys:List UInt8)(e:Ending)(w':World):Prop:=
 ∃v',e= .returned v'/\OwR aG 5 w.heap.size w' v' ys/\Below w.heap.size w w'
theorem jQ{w:World}{E:TypeId}{base:Nat}(xs:List Int)(h:∀x∈xs,0<=x/\x<=255)(hl:xs.length<=maxLen)(hb:base<=w.heap.size):
  OwR aG E base (w.alloc (.cells (xs.map (Value.int .u8)).toArray E)) (.slice (some ⟨w.heap.size,0,none⟩) xs.length xs.length) (xs.map b8):=by
 have:=OwR.lit1 (r:=aG) (E:=E) (base:=base) (w:=w) (f:=fP) (xs:=xs.map b8) rfl (fun x _ S=>⟨rfl,trivial⟩) hb (by simpa using hl);have e:(xs.map b8).map fP=xs.map (Value.int .u8):=by
  rw[List.map_map];refine List.map_congr_left fun x hx=> ?_;obtain⟨a,b⟩:=h x hx;exact uY a b
 rw[e,zaI]at this;exact this
theorem vI:∀(n:Nat) (w:World),n<=9223372036854775807->Calls Tryz.prog 76 #[.int .i64 n] w (EP w (sev n)):=by
 intro n
 induction n using Nat.strongRecOn with
 | _ n ih=>
   intro w hn;by_cases hs:(n:Int)<128
   · have hsv:=hU (n:=n) (by omega);have hlit:=jQ (w:=w) (E:=5) (base:=w.heap.size) [(n:Int)] (by intro x hx;simp at hx;subst hx;omega) (by simp;decide) (zab _);have HSV:=zaa hsv;have HLIT:=zaa hlit;(have hw:IntKind.u8.wrap (n:Int)=(n:Int):=by rw[IntKind.wrap_u8];omega);clear ih hsv hlit;(go_enter Tryz.func76,Tryz.ntmps76);(go_wp2_with fail);(go_ret);exact⟨_,rfl,by rw[HSV.out];exact HLIT.out,(zac _ _).alloc (zab _) _⟩
   · have hsv:=m8 (n:=n) (by omega);obtain⟨q,hq⟩:∃q:Nat,128+n%128=q:=⟨_,rfl⟩;obtain⟨r,hr⟩:∃r:Nat,n/128=r:=⟨_,rfl⟩;rw[hq,hr]at hsv;have HSV:=zaa hsv;(have hw0:(128:Int)+(n:Int)%128=(q:Int):=by omega);(have hw:IntKind.u8.wrap (q:Int)=(q:Int):=by rw[IntKind.wrap_u8];omega);(have hw1:(n:Int)/128=(r:Int):=by omega);have hlit:=jQ (w:=w) (E:=5) (base:=w.heap.size) [(q:Int)] (by intro x hx;simp only[zcn]at hx;subst hx;omega) (by simp;decide) (zab _);have HLIT:=zaa hlit;have hsl:=kS r 8 (by omega);(have hn1:[b8 (q:Int)].length+(sev r).length<=140737488355328:=by simp only[zaD,zaW];omega);have HN1:=zaa hn1;have hih:=ih r (by omega) (w.alloc (.cells #[.int .u8 (q:Int)] 5)) (by omega);have IH:=zaa hih;clear ih hsv hlit hsl hn1 hih hq hr;(go_enter Tryz.func76,Tryz.ntmps76);(go_wp2_with fail);refine IH.out.mono ?_;rintro e w1 ⟨v1,rfl,ho1,hb1⟩;have HO:=zaa (HLIT.out.keep hb1);have HSRC:=zaa (ho1.sl (by decide));have hB:Below w.heap.size w w1:=((zac w.heap.size w).alloc (zab _) (.cells #[.int .u8 (q:Int)] 5)).trans (hb1.mono (by simp));have HB:=zaa hB;clear ho1 hb1 hB;(go_wp2_with (at_builtin;refine dx (base:=w.heap.size) rfl (.tmp 12) (.tmp 15) rfl HO.out HSRC.out rfl rfl HN1.out ?_;intro v2 w2 ho2 hg2));(go_ret);exact⟨v2,rfl,by rw[HSV.out];exact ho2,HB.out.trans (hg2.below HB.out.size (fun k hk=>(HO.out.base_le k hk).1))⟩
theorem tp(v:Value)(xs:List UInt8)(w:World)(h:Sl aG w v xs):Calls Tryz.prog 77 #[v] w (EP w (et xs)):=by
 have hl:=h.len_le;obtain⟨A,c,rfl⟩:=h.form;have H:=zaa h;clear h;go_enter Tryz.func77,Tryz.ntmps77
 go_wp2_with fail
 go_loop [3,4,5] (fun s3 s4 s9=>∃k:Nat,k<=xs.length/\s9= .int .i64 k/\s3= .int .i64 (eG (xs.take k)).1/\s4= .int .i64 (eG (xs.take k)).2) (fun _ _ s9=>xs.length-(intOf s9).toNat)
 case atStart=>exact⟨0,zap _,rfl,rfl,rfl⟩
 case round=>
  obtain⟨k,hk,rfl,rfl,rfl⟩:=hrel;have hb:=m7 (xs.take k);obtain⟨p,hp⟩:∃p,eG (xs.take k)=p:=⟨_,rfl⟩;rw[hp]at hb;obtain⟨b1,b2,b3,b4⟩:=hb;by_cases hlt:k<xs.length
  · obtain⟨b,off,rfl,hb⟩:=H.out.at_ hlt;obtain⟨cs,⟨rfl,_⟩,hc⟩:=H.out.cell hlt;have f1:w.cell? ⟨b,off+k,none⟩=some (.int .u8 xs[k].toNat):=by
     have:=hc 0 _ rfl;simpa [aG,dw]using this
    have hu:xs[k].toNat<256:=xs[k].toNat_lt;have hsn:eG (xs.take (k+1))=((p.1+xs[k].toNat)%65521,(p.2+(p.1+xs[k].toNat)%65521)%65521):=by
     rw[zar hlt,lP,hp]
    have hcomm:(p.1+(xs[k].toNat:Int))%65521+p.2=p.2+(p.1+(xs[k].toNat:Int))%65521:=Int.add_comm _ _;have HC:=zaa hcomm;have HSN:=zaa hsn;rw[hp];clear hc hsn hp hcomm;(go_wp2_with fail);(go_round);(case rel=>exact⟨k+1,by omega,by go_num,by rw[HSN.out],by rw[HSN.out,HC.out]⟩);case measure=>simp[intOf];omega
  · have hlit:=jQ (w:=w) (E:=5) (base:=w.heap.size) [p.2/256,p.2%256,p.1/256,p.1%256] (by intro x hx;simp at hx;rcases hx with rfl|rfl|rfl|rfl<;>omega) (by simp;decide) (zab _);have hse:et xs=[b8 (p.2/256),b8 (p.2%256),b8 (p.1/256),b8 (p.1%256)]:=by
     unfold et;rw[<-hp,zaO (by omega)]
    have HLIT:=zaa hlit;have HSE:=zaa hse;(have e1:IntKind.u8.wrap (p.2/256)=p.2/256:=by rw[IntKind.wrap_u8];omega);(have e2:IntKind.u8.wrap (p.2%256)=p.2%256:=by rw[IntKind.wrap_u8];omega);(have e3:IntKind.u8.wrap (p.1/256)=p.1/256:=by rw[IntKind.wrap_u8];omega);(have e4:IntKind.u8.wrap (p.1%256)=p.1%256:=by rw[IntKind.wrap_u8];omega);rw[hp];clear hlit hse hp;(go_wp2_with fail);(go_ret);exact⟨_,rfl,by rw[HSE.out];exact HLIT.out,(zac _ _).alloc (zab _) _⟩
theorem Sl.ent_of{w:World}{b off c n:Nat}{xs:List ab}(h:Sl aW w (.slice (some ⟨b,off,none⟩) n c) xs){k:Nat}(hk:k<xs.length){y:ab}(hy:xs[k]=y):
  w.cell? ⟨b,off+k*4,none⟩=some (.string y.key)/\w.cell? ⟨b,off+k*4+1,none⟩=some (.int .i64 y.version)/\
  w.cell? ⟨b,off+k*4+2,none⟩=some (.int .i64 y.origin)/\w.cell? ⟨b,off+k*4+3,none⟩=some (.string y.value):=by
 subst hy;obtain⟨a,b,c,d,_⟩:=h.ent hk;exact⟨a,b,c,d⟩
theorem gbB{B:Nat}{w w' w'':World}{v' v'':Value}{ys:List UInt8}(hb:Below B w w')(ho:OwR aG 5 B w' v' ys)(hg:al w' v' w'' v''):Below B w w'':=hb.trans (hg.below ho.choose_spec.2.2.2 (fun k hk=>(ho.base_le k hk).1))
theorem nP(v:Value)(xs:List ab)(w:World)(h:Sl aW w v xs):Calls Tryz.prog 44 #[v] w (nA xs w):=by
 have hlen:=h.len_le;obtain⟨A,c,rfl⟩:=h.form;have H:=zaa h;clear h;go_enter Tryz.func44,Tryz.ntmps44
 go_wp2_with fail
 refine(gn _ xs _ H.out).mono ?_;rintro r w1 ⟨rfl,hb1⟩;have HB1:=zaa hb1;have hz1:=hb1.size;clear hb1;by_cases hc:aj xs=0
 · (have t1:(aj xs !=0)=false:=by simp[hc]);have hok:=dX hc;have HOK:=zaa hok;have HC:=zaa hc;have hl60:=hok.len;have hlb:OwR aG 5 w.heap.size (w1.alloc (.cells #[.int .u8 116,.int .u8 (xs.length:Int)] 5)) (.slice (some ⟨w1.heap.size,0,none⟩) 2 2) (gU xs 0):=by
    have:=jQ (w:=w1) (E:=5) (base:=w.heap.size) [116,(xs.length:Int)] (by intro x hx;simp at hx;rcases hx with rfl|rfl<;>omega) (by simp;decide) hz1;exact this
   have HLB:=zaa hlb;have hbb:Below w.heap.size w (w1.alloc (.cells #[.int .u8 116,.int .u8 (xs.length:Int)] 5)):=HB1.out.alloc hz1 _;have HBB:=zaa hbb;clear hok hc hlb hbb;(go_wp2_with fail);(go_loopw [5,6] (fun s5 s6 wr=>∃k:Nat,k<=xs.length/\s6= .int .i64 k/\Below w.heap.size w wr/\OwR aG 5 w.heap.size wr s5 (gU xs k)) (fun _ s6 _=>xs.length-(intOf s6).toNat));(case atStart=>exact⟨0,zap _,rfl,HBB.out,HLB.out⟩);case round=>
    obtain⟨k,hk,rfl,hB,hown⟩:=hrel;have HB:=zaa hB;have HOWN:=zaa hown;have hlk:=mi HOK.out.ok k hk;by_cases hlt:k<xs.length
    · obtain⟨b,off,rfl,hb⟩:=H.out.at_ hlt;have hez:=hB.size;have hyo:=d5 (HOK.out.ok xs[k] (zaw hlt));have hsucc:=kD xs k hlt;obtain⟨y,hy⟩:∃y,xs[k]=y:=⟨_,rfl⟩;rw[hy]at hyo hsucc;obtain⟨y1,y2,y3,y4,y5,y6,y7⟩:=hyo;have hent:=fun(w':World) (hb':Below w.heap.size w w')=>(H.out.below hb').ent_of hlt hy;have HENT:=zaa hent;obtain⟨f1,f2,f3,f4⟩:=hent wr hB;have HSUC:=zaa hsucc;obtain⟨L,hL⟩:∃L,gU xs k=L:=⟨_,rfl⟩;rw[hL]at hlk hown hsucc;have HL:=zaa hL;have HOW:=zaa hown;have hsl:=kS y.version.toNat 6 (by omega);have hkl:y.key.data.toList.length=y.key.size:=aC _;(have hn1:L.length+[b8 y.key.size].length<=140737488355328:=by simp only[zaq,zaD,zaW];omega);(have hn2:(L++[b8 y.key.size]).length+y.key.size<=140737488355328:=by simp only[zaq,zaD,zaW];omega);(have hn3:((L++[b8 y.key.size])++y.key.data.toList).length+(sev y.version.toNat).length<=140737488355328:=by simp only[zaq,zaD,zaW];omega);(have hn4:(((L++[b8 y.key.size])++y.key.data.toList)++sev y.version.toNat).length+[b8 y.origin,b8 y.value.size].length<=140737488355328:=by simp only[zaq,zaD,zaW];omega);(have hn5:((((L++[b8 y.key.size])++y.key.data.toList)++sev y.version.toNat)++[b8 y.origin,b8 y.value.size]).length+y.value.size<=140737488355328:=by simp only[zaq,zaD,zaW];omega);have HN1:=zaa hn1;have HN2:=zaa hn2;have HN3:=zaa hn3;have HN4:=zaa hn4;have HN5:=zaa hn5;have hver:((y.version.toNat:Nat):Int)=y.version:=Int.toNat_of_nonneg (by omega);have hsev:=fun w'=>vI y.version.toNat w' (by omega);rw[hver]at hsev;have SEV:=zaa hsev;have hone:=k8 (w:=wr) (E:=5) (x:=(y.key.size:Int)) (by omega) (by omega);have HONE:=zaa hone;have htwo:∀w4:World,SlR aG (w4.alloc (.cells #[.int .u8 y.origin,.int .u8 (y.value.size:Int)] 5)) (fun k=>k<w4.heap.size+1) (.slice (some ⟨w4.heap.size,0,none⟩) 2 2) [b8 y.origin,b8 y.value.size]:=fun w4=>
       kj (w:=w4) (E:=5) [y.origin,(y.value.size:Int)] (by intro x hx;simp at hx;rcases hx with rfl|rfl<;>omega) (by simp;decide)
      have HTWO:=zaa htwo;(have w1':IntKind.u8.wrap (y.key.size:Int)=(y.key.size:Int):=by rw[IntKind.wrap_u8];omega);(have w2':IntKind.u8.wrap y.origin=y.origin:=by rw[IntKind.wrap_u8];omega);(have w3':IntKind.u8.wrap (y.value.size:Int)=(y.value.size:Int):=by rw[IntKind.wrap_u8];omega);have q0:(0:Int)<=(k:Int):=zai _;(have q1:(k:Int)<(xs.length:Int):=by omega);clear hy hB hlk hsucc hL hent hsl hkl hn1 hn2 hn3 hn4 hn5 hver hsev hone htwo hown;go_wp2_with (first
       | (at_builtin;refine dx (base:=w.heap.size) rfl (.tmp 22) (.tmp 30) rfl (HOW.out.alloc1 _) HONE.out rfl rfl HN1.out ?_;intro v1 w2 ho1 hg1;have B1:=zaa (gbB (HB.out.alloc hez _) (HOW.out.alloc1 _) hg1);obtain⟨g1,g2,g3,g4⟩:=HENT.out w2 B1.out)
       | (at_builtin;refine kh (base:=w.heap.size) rfl (.tmp 32) (.tmp 37) rfl ho1 rfl rfl HN2.out ?_;intro v2 w3 ho2 hg2;have B2:=zaa (gbB B1.out ho1 hg2);obtain⟨p1,p2,p3,p4⟩:=HENT.out w3 B2.out)
       | (go_at_call 76;refine(SEV.out _).mono ?_;rintro e w4 ⟨v3,rfl,ho3,hb3⟩;have B3:=zaa (B2.out.trans (hb3.mono B2.out.size));have O3:=zaa (ho2.keep hb3);obtain⟨r1,r2,r3,r4⟩:=HENT.out w4 B3.out)
       | (at_builtin;refine dx (base:=w.heap.size) rfl (.tmp 39) (.tmp 45) rfl O3.out (ho3.sl (by decide)) rfl rfl HN3.out ?_;intro v4 w5 ho4 hg4;have B4:=zaa (gbB B3.out O3.out hg4);obtain⟨s1,s2,s3,s4⟩:=HENT.out w5 B4.out))
      clear f1 f2 f3 f4 g1 g2 g3 g4 p1 p2 p3 p4 r1 r2 r3 r4 w1';have OD:=zaa ((ho4.alloc1 (.cells #[.int .u8 y.origin,.int .u8 (y.value.size:Int)] 5)).drew1);have BD:=zaa ((B4.out.alloc B4.out.size (.cells #[.int .u8 y.origin,.int .u8 (y.value.size:Int)] 5)).drew);have SD:=zaa (HTWO.out w5);go_region_held3 (fun w'=>w'.cell? ⟨b,off+k*4+2,none⟩=some (.int .i64 y.origin)/\w'.cell? ⟨b,off+k*4+3,none⟩=some (.string y.value)) (first|go_keep|exact⟨k3,k4⟩)
       (first
        | (refine iD (base:=w.heap.size) (by rfl) (.tmp 47) (.tmp 61) (by rfl) OD.out SD.out (by rfl) (by rfl) HN4.out ?_;intro v5 w6 ho5 hg5;have B5:=zaa (gbB BD.out OD.out hg5);obtain⟨k1,k2,k3,k4⟩:=HENT.out w6 B5.out))
      clear s1 s2 s3 s4 w2' w3';go_wp2_with (first
       | (at_builtin;refine kh (base:=w.heap.size) rfl (.tmp 63) (.tmp 68) rfl ho5 rfl rfl HN5.out ?_;intro v6 w7 ho6 hg6;have B6:=zaa (gbB B5.out ho5 hg6)))
      (go_roundw);case rel=>
       refine⟨k+1,by omega,by go_num,B6.out,?_⟩;rw[HSUC.out,HL.out];have e:(((((L++[b8 y.key.size])++y.key.data.toList)++sev y.version.toNat)++[b8 y.origin,b8 y.value.size])++y.value.data.toList)=L++mm y:=by
        unfold mm;simp
       rw[<-e];exact ho6
      case measure=>simp[intOf];omega
    · have hend:=ml xs k (by omega);rw[hend]at hown hlk;(have hlk':(lv xs).length<=10000:=by omega);obtain⟨B,hB2⟩:∃B,lv xs=B:=⟨_,rfl⟩;(have hes:pk xs=B++et B:=by unfold pk j1;rw[if_pos HC.out,hB2]);rw[hB2]at hown hlk';have hseal:=tp u5 B wr (hown.sl (by decide));(have hn6:B.length+(et B).length<=140737488355328:=by simp[et];omega);have HSEAL:=zaa hseal;have HES:=zaa hes;have HOWB:=zaa hown;have HN6:=zaa hn6;have hez:=hB.size;have HEZ:=zaa hez;clear hend hlk hB2 hes hown hseal hn6 hlk' hB;(go_wp2_with fail);refine HSEAL.out.mono ?_;rintro e w2 ⟨v1,rfl,ho1,hb1⟩;have HO:=zaa (HOWB.out.keep hb1);have HSRC:=zaa (ho1.sl (by decide));have HB2:=zaa (HB.out.trans (hb1.mono HEZ.out));clear ho1 hb1;(go_wp2_with (at_builtin;refine dx (base:=w.heap.size) rfl (.tmp 70) (.tmp 72) rfl HO.out HSRC.out rfl rfl HN6.out ?_;intro v2 w3 ho2 hg2));(go_ret2);exact⟨v2,by rw[HC.out];rfl,by rw[HES.out];exact ho2,HB2.out.trans (hg2.below HB2.out.size (fun k hk=>(HO.out.base_le k hk).1))⟩
 · (have t1:(aj xs !=0)=true:=by simp[hc]);(have hen:pk xs=[]:=by unfold pk;rw[if_neg hc]);have HE:=zaa hen;clear hc hen;(go_wp2_with fail);(go_ret2);exact⟨.slice none 0 0,rfl,by rw[HE.out];exact OwR.nil _ _ HB1.out.size,HB1.out⟩
theorem OwR.lower{α:Type}{r:Rep α}{E base base':Nat}{w:World}{v:Value}{xs:List α}(h:OwR r E base w v xs)(hb:base'<=base):OwR r E base' w v xs:=by
 obtain⟨css,g1,g2,g3,g4⟩:=h;refine⟨css,g1,g2,⟨g3.1,?_⟩,by omega⟩;rcases g3.2 with h|⟨g,cap,cur,a1,a2,a3⟩
 · exact .inl h
 · exact .inr ⟨g,cap,cur,a1,by omega,a3⟩
def ET(w:World)(ys:List ab)(e:Ending)(w':World):Prop:=
 ∃v',e= .returned v'/\OwR aW 44 w.heap.size w' v' ys/\Below w.heap.size w w'
theorem DJ{w:World}{base ty:Nat}{v vx:Value}{xs ys:List ab}{S:Nat->Prop}(hown:OwR aW 44 base w v xs)(hsrc:SlR aW w S vx ys)(hb:xs.length+ys.length<=1000000):
  ∃v' w',(Builtin.append_ #[42,42] ty #[v,vx]).run Tryz.prog w= .ok v' w'/\OwR aW 44 base w' v' (xs++ys)/\al w v w' v':=by
 obtain⟨v',w',r1,r2,r3,r4⟩:=bH (ty:=ty) lw hown hsrc (fun _ _ h=>h) (by unfold maxLen;omega) (by omega);exact⟨v',w',r1,r2,al.of_at r3 r4⟩
theorem cL{ops:Array Oper}{rest:List Oper}{o:Oper}{a:Act}{Q:Exit->Act->World->Prop}{w:World}{base:Nat}(hgd:o.guard=none)(s x:Operand)
  (ho:o.op= .call {callee:= .builtin .append,args:= #[s,x],argTypes:= #[42,42]}) {v vx:Value} {xs ys:List ab} {S:Nat->Prop}
  (hown:OwR aW 44 base w v xs) (hsrc:SlR aW w S vx ys) (hs:a.eval s=v) (hx:a.eval x=vx) (hb:xs.length+ys.length<=1000000)
  (h:∀v' w',OwR aW 44 base w' v' (xs++ys)->al w v w' v'->wpList Tryz.prog ops Q rest (a.put o.dst v') w'):wpList Tryz.prog ops Q (o::rest) a w:=
 wpList_plain hgd fun _ hK=>by
  obtain⟨v',w',hrun,h2,h3⟩:=DJ (ty:=o.type) hown hsrc hb;unfold Oper.wp execOp;simp only[ho,resolve,invoke,builtin,zbK,zbJ,Result.andThen_ok,zbn,zbc,zbB,hs,hx,hrun];exact hK _ _ (h v' w' h2 h3)
theorem gT{w:World}{x:ab}(hx:x.wf):SlR aW (w.alloc (.cells #[.string x.key,.int .i64 x.version,.int .i64 x.origin,.string x.value] 44)) (fun k=>k<w.heap.size+1) (.slice (some ⟨w.heap.size,0,none⟩) 1 1) [x]:=
 SlR.one_new (r:=aW) (w:=w) (cs:=x.cells) (x:=x) ⟨rfl,hx⟩
theorem gbE{B:Nat}{w w' w'':World}{v' v'':Value}{ys:List ab}(hb:Below B w w')(ho:OwR aW 44 B w' v' ys)(hg:al w' v' w'' v''):Below B w w'':=hb.trans (hg.below ho.choose_spec.2.2.2 (fun k hk=>(ho.base_le k hk).1))
theorem OwR.drewN1{α:Type}{r:Rep α}{E base:Nat}{w:World}{v:Value}{xs:List α}(h:OwR r E base w v xs)(n:Nat):OwR r E base (w.drewN n) v xs:=h.keep (ag (zac w.heap.size w) n)
theorem CS{xs:List ab}{x:ab}{k:Nat}(hl:xs.length<=100):(fi xs x k).length<=201:=by
 unfold fi;split
 · rw[zat];omega
 · simp only[zaq,zat,zaD,zaM];omega
theorem oX{a b:ByteArray}(h:a≠b):(a.toList==b.toList)=false:=by
 rw[beq_eq_false_iff_ne];exact fun e=>h (toList_inj e)
theorem so{a b:ByteArray}(h:a=b):(a.toList==b.toList)=true:=by rw[h];simp
theorem gY(v:Value)(xs:List ab)(x:ab)(w:World)(h:Sl aW w v xs)(hord:xs.Pairwise ltE)(hl:xs.length<=100)(hx:x.wf)(hwf:∀e∈xs,e.wf):Calls Tryz.prog 82 #[v,x.val] w (ET w (cZ xs x)):=by
 have hend:=AF xs x;obtain⟨A,c,rfl⟩:=h.form;have H:=zaa h;have HEND:=zaa hend;have HX:=zaa hx;have HO:=zaa hord;have HWF:=zaa hwf;have hbx:Below w.heap.size w (w.alloc (.cells #[.string x.key,.int .i64 x.version,.int .i64 x.origin,.string x.value] 44)):=(zac _ _).alloc (zab _) _;have HBX:=zaa hbx;have hbox:∀w',Below (w.heap.size+1) (w.alloc (.cells #[.string x.key,.int .i64 x.version,.int .i64 x.origin,.string x.value] 44)) w'->∀i,w'.cell? ⟨w.heap.size,i,none⟩= #[Value.string x.key,.int .i64 x.version,.int .i64 x.origin,.string x.value][i]? :=fun w' hb i=>(bAt hb (by omega) i).trans (zah _ _ _ _ rfl);have HBOX:=zaa hbox;have hz0:=yM xs x;have HZ:=zaa hz0;unfold ab.val;clear h hend hx hord hwf hbx hz0 hbox;go_enter Tryz.func82,Tryz.ntmps82
 go_wp2_with fail
 go_loopw [5,6,7] (fun s5 s6 s7 wr=>∃k:Nat,k<=xs.length/\s7= .int .i64 k/\s6= .bool (f9 xs x k)/\OwR aW 44 (w.heap.size+1) wr s5 (fi xs x k)/\Below (w.heap.size+1) (w.alloc (.cells #[.string x.key,.int .i64 x.version,.int .i64 x.origin,.string x.value] 44)) wr) (fun _ _ s7 _=>xs.length-(intOf s7).toNat)
 case atStart=>exact⟨0,zap _,rfl,rfl,by rw[HZ.out];exact OwR.nil _ _ (by simp),zac _ _⟩
 case round=>
  obtain⟨k,hk,rfl,rfl,hown,hB⟩:=hrel;have hez:=hown.choose_spec.2.2.2;have HOW:=zaa hown;have HB:=zaa hB;have hgl:=CS (x:=x) (k:=k) hl;have hN:=HBOX.out wr hB;by_cases hlt:k<xs.length
  · obtain⟨b,off,rfl,hb⟩:=H.out.at_ hlt;have hent:∀w',Below (w.heap.size+1) (w.alloc (.cells #[.string x.key,.int .i64 x.version,.int .i64 x.origin,.string x.value] 44)) w'->w'.cell? ⟨b,off+k*4,none⟩=some (.string xs[k].key)/\w'.cell? ⟨b,off+k*4+1,none⟩=some (.int .i64 xs[k].version)/\
     w'.cell? ⟨b,off+k*4+2,none⟩=some (.int .i64 xs[k].origin)/\w'.cell? ⟨b,off+k*4+3,none⟩=some (.string xs[k].value):=fun w' hb'=>(H.out.below (HBX.out.trans (hb'.mono (by omega)))).ent_of hlt rfl
    have HENT:=zaa hent;obtain⟨f1,f2,f3,f4⟩:=hent wr hB;have hyw:=HWF.out xs[k] (zaw hlt);have HYW:=zaa hyw;have q0:(0:Int)<=(k:Int):=zai _;(have q1:(k:Int)<(xs.length:Int):=by omega);(have hbw:b<wr.heap.size:=by omega);clear hown hB hyw hent;rcases Nat.lt_trichotomy k (lbE xs x.key)with hp|hp|hp
    · obtain⟨d1,d2,d3,d4⟩:=EC x hlt hp;have D2:=zaa d2;have hne:=oX d4;have hgot:=AE x hlt hp;have HG:=zaa hgot;(have HLEN:(fi xs x k).length+[xs[k]].length<=1000000:=by simp only[zaD,zaW];omega);have HLEN:=zaa HLEN;clear d2 d4 hgot hp;(go_wp2_with fail);(go_quiet (fail));(go_wp2_with fail);(go_quiet (fail));(go_wp2_with (at_builtin;refine cL (base:=w.heap.size+1) rfl (.tmp 38) (.tmp 43) rfl ((HOW.out.drewN1 _).alloc1 _) (gT HYW.out) rfl rfl HLEN.out ?_;intro v1 w1 ho1 hg1));(go_roundw);(case rel=>exact⟨k+1,by omega,by go_num,by rw[D2.out],by rw[HG.out];exact ho1,gbE ((ag HB.out _).alloc (by simpa using hez) _) ((HOW.out.drewN1 _).alloc1 _) hg1⟩);case measure=>simp[intOf];omega
    · obtain⟨d1,d2,d3⟩:=EQ x hlt hp;have D2:=zaa d2;(have HLEN:(fi xs x k).length+[x].length<=1000000:=by simp only[zaD,zaW];omega);have HLEN:=zaa HLEN;(have HLEN2:(fi xs x k++[x]).length+[xs[k]].length<=1000000:=by simp only[zaq,zaD,zaW];omega);have HLEN2:=zaa HLEN2;clear d2;by_cases he:xs[k].key=x.key
      · have hne:=so he;have hgot:=sQ HO.out x hlt hp he;have HG:=zaa hgot;clear hgot hp he;(go_wp2_with fail);(go_quiet (fail));(go_wp2_with (at_builtin;refine cL (base:=w.heap.size+1) rfl (.tmp 26) (.tmp 28) rfl ((HOW.out.drewN1 _).alloc1 _) (gT HX.out) rfl rfl HLEN.out ?_;intro v1 w1 ho1 hg1;have B1:=zaa (gbE ((ag HB.out _).alloc (by simpa using hez) _) ((HOW.out.drewN1 _).alloc1 _) hg1);obtain⟨g1,g2,g3,g4⟩:=HENT.out w1 B1.out;have hN1:=HBOX.out w1 B1.out));(go_quiet (fail));(go_wp2_with fail);(go_roundw);(case rel=>exact⟨k+1,by omega,by go_num,by rw[D2.out],by rw[HG.out];exact ho1.drewN1 _,ag B1.out _⟩);case measure=>simp[intOf];omega
      · have hne:=oX he;have hgot:=vw HO.out x hlt hp he;have HG:=zaa hgot;clear hgot hp he;(go_wp2_with fail);(go_quiet (fail));(go_wp2_with (at_builtin;refine cL (base:=w.heap.size+1) rfl (.tmp 26) (.tmp 28) rfl ((HOW.out.drewN1 _).alloc1 _) (gT HX.out) rfl rfl HLEN.out ?_;intro v1 w1 ho1 hg1;have B1:=zaa (gbE ((ag HB.out _).alloc (by simpa using hez) _) ((HOW.out.drewN1 _).alloc1 _) hg1);obtain⟨g1,g2,g3,g4⟩:=HENT.out w1 B1.out;have hN1:=HBOX.out w1 B1.out));(go_quiet (fail));(go_wp2_with (at_builtin;refine cL (base:=w.heap.size+1) rfl (.tmp 38) (.tmp 43) rfl ((ho1.drewN1 _).alloc1 _) (gT HYW.out) rfl rfl HLEN2.out ?_;intro v2 w2 ho2 hg2));(go_roundw);(case rel=>exact⟨k+1,by omega,by go_num,by rw[D2.out],by rw[HG.out];exact ho2,gbE ((ag B1.out _).alloc (by have:=B1.out.size;simp at this⊢;omega) _) ((ho1.drewN1 _).alloc1 _) hg2⟩);case measure=>simp[intOf];omega
    · obtain⟨d1,d2,d4⟩:=D7 HO.out x hlt hp;have D2:=zaa d2;have hne:=oX d4;have hgot:=yN x hlt hp;have HG:=zaa hgot;(have HLEN:(fi xs x k).length+[xs[k]].length<=1000000:=by simp only[zaD,zaW];omega);have HLEN:=zaa HLEN;clear d2 d4 hgot hp;(go_wp2_with fail);(go_quiet (fail));(go_wp2_with fail);(go_quiet (fail));(go_wp2_with (at_builtin;refine cL (base:=w.heap.size+1) rfl (.tmp 38) (.tmp 43) rfl ((HOW.out.drewN1 _).alloc1 _) (gT HYW.out) rfl rfl HLEN.out ?_;intro v1 w1 ho1 hg1));(go_roundw);(case rel=>exact⟨k+1,by omega,by go_num,by rw[D2.out],by rw[HG.out];exact ho1,gbE ((ag HB.out _).alloc (by simpa using hez) _) ((HOW.out.drewN1 _).alloc1 _) hg1⟩);case measure=>simp[intOf];omega
  · (obtain rfl:k=xs.length:=by omega);(have HLEN:(fi xs x xs.length).length+[x].length<=1000000:=by simp only[zaD,zaW];omega);have HLEN:=zaa HLEN;have hbl:Below w.heap.size w wr:=HBX.out.trans (hB.mono (by omega));have HBL:=zaa hbl;clear hown hB hbl;rcases hd:f9 xs x xs.length with _|_
    · (have hfin:fi xs x xs.length++[x]=cZ xs x:=by have:=HEND.out;rw[hd]at this;simpa using this);have HF:=zaa hfin;clear hfin;(go_wp2_with (at_builtin;refine cL (base:=w.heap.size+1) rfl (.tmp 47) (.tmp 49) rfl (HOW.out.alloc1 _) (gT HX.out) rfl rfl HLEN.out ?_;intro v1 w1 ho1 hg1));(go_ret);exact⟨v1,rfl,by rw[<-HF.out];exact ho1.lower (by omega),gbE (HBL.out.alloc HBL.out.size _) ((HOW.out.alloc1 _).lower (by omega)) hg1⟩
    · (have hfin:fi xs x xs.length=cZ xs x:=by have:=HEND.out;rw[hd]at this;simpa using this);have HF:=zaa hfin;clear hfin;(go_wp2_with fail);(go_ret);exact⟨_,rfl,by rw[<-HF.out];exact HOW.out.lower (by omega),HBL.out⟩
end
end Go.Proofs.YtojojpjldkpmoaaGreatDoor
