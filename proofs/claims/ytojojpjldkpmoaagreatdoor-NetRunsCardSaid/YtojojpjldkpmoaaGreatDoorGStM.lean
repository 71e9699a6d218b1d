/-
  
-/
import Derived.Test.YtojojpjldkpmoaaGreatDoorGStP
set_option linter.unusedVariables false
set_option linter.unusedSimpArgs false
set_option maxHeartbeats 16000000
set_option maxRecDepth 100000
namespace Go.Proofs.YtojojpjldkpmoaaGreatDoor
section
open Go.RowKit Go.Deep
def lJ(xs:List ab)(node:Int)(key value:ByteArray)(w:World)(e:Ending)(w':World):Prop:=
 ∃v',e= .returned (.tuple #[v',.int .i64 (dj xs node key value).2])/\OwR aW 44 w.heap.size w' v' (dj xs node key value).1/\Below w.heap.size w w'
theorem cN{xs:List ab}{node:Int}{key value:ByteArray}{w w':World}{v':Value}{ys:List ab}{n:Int}(h:dj xs node key value=(ys,n))(ho:OwR aW 44 w.heap.size w' v' ys)(hb:Below w.heap.size w w'):
 lJ xs node key value w (.returned (.tuple #[v',.int .i64 n])) w':=⟨v',by rw[h],by rw[h];exact ho,hb⟩
theorem qX:∀(xs:List ab) (i:Nat) (x:ab),i<xs.length->
  (((((xs.map ab.cells).flatten.set (i*4) (.string x.key)).set (i*4+1) (.int .i64 x.version)).set (i*4+2) (.int .i64 x.origin)).set (i*4+3) (.string x.value))=((xs.set i x).map ab.cells).flatten
 | [],i,x,h=>by simp at h
 | y::ys,0,x,_=>by simp[ab.cells]
 | y::ys,i+1,x,h=>by
   have:=qX ys i x (by simpa using h);rw[zam,zbc,zaU,zbc,zaU,<-this];(have e:(i+1)*4=i*4+1+1+1+1:=by omega);rw[e];simp[ab.cells,zam]
def setE(w:World)(g i:Nat)(x:ab):World:=(((w.setCell ⟨g,i*4,none⟩ (.string x.key)).setCell ⟨g,i*4+1,none⟩ (.int .i64 x.version)).setCell ⟨g,i*4+2,none⟩ (.int .i64 x.origin)).setCell ⟨g,i*4+3,none⟩ (.string x.value)
theorem OwR.setE{base:Nat}{w:World}{g n cap:Nat}{xs:List ab}(h:OwR aW 44 base w (.slice (some ⟨g,0,none⟩) n cap) xs)(hn:n=xs.length)(i:Nat)(hi:i<xs.length)(x:ab)(hx:x.wf):
  OwR aW 44 base (setE w g i x) (.slice (some ⟨g,0,none⟩) n cap) (xs.set i x)/\w.grownBy (Go.Proofs.YtojojpjldkpmoaaGreatDoor.setE w g i x) (some g):=by
 obtain⟨h1,h2,h3⟩:=OwR.to_flat h;subst hn;obtain⟨s1,k1⟩:=h1.stored (i*4) (.string x.key);obtain⟨s2,k2⟩:=s1.stored (i*4+1) (.int .i64 x.version);obtain⟨s3,k3⟩:=s2.stored (i*4+2) (.int .i64 x.origin);obtain⟨s4,k4⟩:=s3.stored (i*4+3) (.string x.value);rw[qX xs i x hi]at s4;have kk:=((k1.trans k2).trans k3).trans k4;refine⟨OwR.of_flat (by rw[zbL];exact s4) ?_ (zax h3 kk.size),kk⟩;intro y hy;rcases zcx hy with hy|rfl
 · exact h2 y hy
 · exact hx
theorem OwR.at_{base:Nat}{w:World}{v:Value}{xs:List ab}(h:OwR aW 44 base w v xs)(h0:0<xs.length):∃g cap,v= .slice (some ⟨g,0,none⟩) xs.length cap/\base<=g/\g<w.heap.size/\(∀j,w.frozen? ⟨g,j,none⟩=false):=by
 obtain⟨h1,_,_⟩:=OwR.to_flat h;rcases h1.2 with⟨_,h2⟩|⟨g,cap,cur,rfl,hb,hg,_⟩
 · omega
 · exact⟨g,cap,rfl,hb,(h1.lt g rfl).2,fun j=>h1.frozenAt j⟩
theorem yf{w:World}{x:ab}:(w.alloc (.cells #[.string x.key,.int .i64 x.version,.int .i64 x.origin,.string x.value] 44)).heap[w.heap.size]? =some (.cells x.cells.toArray 44 (0,0)):=by
 rw[heap_alloc_new];rfl
theorem iI(v:Value)(xs:List ab)(node:Int)(key value:ByteArray)(w:World)(h:Sl aW w v xs)(hn:inR node)(hk:key.size<=maxLen)(hv:value.size<=maxLen):
  Calls Tryz.prog 33 #[v,.int .i64 node,.string key,.string value] w (lJ xs node key value w):=by
 have hlen:=h.len_le;obtain⟨A,c,rfl⟩:=h.form;have H:=zaa h;clear h;go_enter Tryz.func33,Tryz.ntmps33
 go_wp2_with fail
 refine(fy _ xs _ H.out).mono ?_;rintro r w1 ⟨rfl,hb1⟩;have HB1:=zaa hb1;clear hb1;by_cases hc:aj xs=0
 · (have t1:(aj xs !=0)=false:=by simp[hc]);have hok:=dX hc;have HOK:=zaa hok;have hl60:=hok.len;have HC:=zaa hc;clear hc hok;by_cases hn1:node<0∨11<node
   · have HF:=zaa (oB (key:=key) (value:=value) HC.out hn1);have hsz:=HB1.out.size;rcases hn1 with hn1|hn1
     · (go_wp2_with fail);(go_ret2);exact cN HF.out (OwR.nil _ _ hsz) HB1.out
     · (have hn2:(12:Int)<=node:=by omega);(have hn3:¬ node<0:=by omega);(go_wp2_with fail);(go_ret2);exact cN HF.out (OwR.nil _ _ hsz) HB1.out
   · (have n1:0<=node:=by omega);(have n2:node<=11:=by omega);have N:=zaa (And.intro n1 n2);clear hn1;(go_wp2_with fail);refine(yd key _).mono ?_;rintro r w2 ⟨rfl,hb2⟩;have HB2:=zaa (HB1.out.trans (hb2.mono HB1.out.size));have hz2:=HB2.out.size;clear hb2;rcases hkk:eu key with _|_
     · have HF:=zaa (r7 (value:=value) HC.out N.out hkk);clear hkk;(go_wp2_with fail);(go_ret2);exact cN HF.out (OwR.nil _ _ hz2) HB2.out
     · have HK:=zaa hkk;clear hkk;by_cases hvv:(120:Int)<(value.size:Int)
       · have HF:=zaa (oA (value:=value) HC.out N.out HK.out (by omega));(go_wp2_with fail);(go_ret2);exact cN HF.out (OwR.nil _ _ hz2) HB2.out
       · have HV:=zaa (show value.size<=120 by omega);have hba:Below w.heap.size w (w2.alloc (.cells #[.string key,.int .i64 1,.int .i64 node,.string value] 44)):=HB2.out.alloc hz2 _;have HF1:=zaa (pi _ xs key _ (H.out.below hba) HOK.out.ord (by omega));clear hba;(go_wp2_with fail);refine HF1.out.mono ?_;rintro r w3 ⟨rfl,hb3⟩;obtain⟨hA,hN,hM,hS⟩:=aT hb3;have HA:=zaa (HB2.out.trans (hA.mono hz2));have H3:=zaa (H.out.below HA.out);have hz3:=HA.out.size;clear hb3 hA;rcases hh:dm xs key with _|_
         · by_cases hfull:60<=xs.length
           · have HF:=zaa (oD (value:=value) HC.out N.out HK.out HV.out hh hfull);(have h60:xs.length=60:=by omega);clear hh;(go_wp2_with fail);(go_ret2);exact cN HF.out (OwR.nil _ _ hz3) HA.out
           · have HF:=zaa (r6 (value:=value) HC.out N.out HK.out HV.out hh (by omega));have HW:=zaa (qf (x:=⟨key,1,node,value⟩) hh);(have h60:¬ (xs.length:Int)=60:=by omega);have HI:=zaa (kx xs key);have HCL:=zaa (iS _ xs w3 H3.out (by omega));clear hh;(go_wp2_with fail);refine HCL.out.mono ?_;rintro r w4 ⟨v4,rfl,ho4,hb4⟩;have hS4:w2.heap.size<w4.heap.size:=zas hS hb4.size;have hN4:∀i,w4.cell? ⟨w2.heap.size,i,none⟩= #[Value.string key,.int .i64 1,.int .i64 node,.string value][i]? :=fun i=>(bAt hb4 hS i).trans (hN i);have HB4:=zaa (HA.out.trans (hb4.mono hz3));have HINS:=zaa (oY v4 xs ⟨key,1,node,value⟩ (lbE xs key) (w4.alloc (.cells #[.string key,.int .i64 1,.int .i64 node,.string value] 44)) w4.heap.size w3.heap.size (ho4.alloc1 _) HI.out (by omega) (yf (x:=⟨key,1,node,value⟩)) (fun e=>by have:=(ho4.base_le _ e).2;omega) ⟨hk,(by show inR 1;unfold inR;omega),hn,hv⟩);have HO4:=zaa ho4;clear ho4 hb4 hN;(go_wp2_with fail);refine HINS.out.mono ?_;rintro r w5 ⟨v5,rfl,ho5,hg5⟩;have HO5:=zaa ho5;have HB5:=zaa (HB4.out.trans ((((zac w4.heap.size w4).alloc (zab _) _).mono HB4.out.size).trans (hg5.below (by have:=HB4.out.size;simp;omega) (fun k hk=>by have:=(HO4.out.base_le k hk).1;omega))));clear ho5 hg5;(go_wp2_with fail);(go_ret2);refine cN HF.out ?_ HB5.out;rw[HW.out];exact HO5.out.lower hz3
         · obtain⟨hl,hkeq⟩:=(cF HOK.out.ord key).1 hh;have hfe:=dZ HOK.out.ord key hl hkeq;obtain⟨i,hi⟩:∃i,lbE xs key=i:=⟨_,rfl⟩;(have hl':i<xs.length:=by omega);(have hfe':bR xs key=some xs[i]:=by rw[hfe];simp only[hi]);obtain⟨b,off,rfl,hb⟩:=H.out.at_ hl';have hent:=fun w' (hb':Below w.heap.size w w')=>(H.out.below hb').ent hl';obtain⟨f1,f2,f3,f4,_⟩:=hent w3 HA.out;have HENT:=zaa hent;obtain⟨_,_,y3,y4,_,_,_⟩:=d5 (HOK.out.ok xs[i] (zaw hl'));have hwo:i<xs.length/\cZ xs ⟨key,xs[i].version+1,node,value⟩=xs.set i ⟨key,xs[i].version+1,node,value⟩:=⟨hl',by
            have:=qe (l:=xs) (x:=⟨key,xs[i].version+1,node,value⟩) hl hh
            rw[this];simp only[hi]⟩
           have HWO:=zaa hwo;obtain⟨y,hy⟩:∃y,xs[i]=y:=⟨_,rfl⟩;have HY:=zaa hy;have HFE:=zaa hfe';rw[hy]at f1 f2 f3 f4 y3 y4;rw[hi];have r0:(0:Int)<=(i:Int):=zai _;(have r1:(i:Int)<(xs.length:Int):=by omega);clear hh hl hkeq hfe hi hfe' hent hwo hy;by_cases hmost:y.version=1099511627776
           · have HF:=zaa (oC (value:=value) HC.out N.out HK.out HV.out HFE.out (by rw[HY.out];exact hmost));(go_wp2_with fail);(go_ret2);exact cN HF.out (OwR.nil _ _ hz3) HA.out
           · have HF:=zaa (r5 (value:=value) HC.out N.out HK.out HV.out HFE.out (by rw[HY.out];exact hmost));(have hm2:(y.version==1099511627776)=false:=by simpa using hmost);(have hw:IntKind.i64.wrap (y.version+1)=y.version+1:=by rw[IntKind.wrap_i64];omega);have hbs:Below w.heap.size w (w3.setCell ⟨w2.heap.size,1,none⟩ (.int .i64 (y.version+1))):=HA.out.setCell hz2 _;have HBS:=zaa hbs;have HCL:=zaa (iS _ xs _ (H.out.below hbs) (by omega));have hNs:∀i,(w3.setCell ⟨w2.heap.size,1,none⟩ (.int .i64 (y.version+1))).cell? ⟨w2.heap.size,i,none⟩= #[Value.string key,.int .i64 (y.version+1),.int .i64 node,.string value][i]? :=by
              intro i;by_cases e:i=1
              · subst e;rw[zbP _ _ _ (hN 1)];rfl
              · rw[zaj w3 ⟨w2.heap.size,1,none⟩ ⟨w2.heap.size,i,none⟩ _ (by simp<;>omega),hN i]
                match i,e with
                | 0,_=>rfl
                | 2,_=>rfl
                | 3,_=>rfl
                | i+4,_=>simp
             have HNS:=zaa hNs;(have hSs:w2.heap.size<(w3.setCell ⟨w2.heap.size,1,none⟩ (.int .i64 (y.version+1))).heap.size:=by simpa [World.setCell]using hS);clear hbs hNs;(go_wp2_with fail);clear f1 f2 f3 f4 hN hM;refine HCL.out.mono ?_;rintro r w4 ⟨v4,rfl,ho4,hb4⟩;obtain⟨g,cap,rfl,hg1,hg2,hg3⟩:=ho4.at_ (by omega);have hN4:∀i,w4.cell? ⟨w2.heap.size,i,none⟩= #[Value.string key,.int .i64 (y.version+1),.int .i64 node,.string value][i]? :=fun i=>(bAt hb4 hSs i).trans (HNS.out i);have h4:=(ho4.sl (by decide)).ent hl';rw[zbb]at h4;obtain⟨g4a,g4b,g4c,g4d,_⟩:=h4;have HO4:=zaa ho4;have HB4:=zaa (HBS.out.trans (hb4.mono HBS.out.size));have hS4:w2.heap.size<w4.heap.size:=zas hSs hb4.size;clear ho4 hb4;(go_wp2_with fail);(go_ret2);refine cN HF.out ?_ ?_
             · have hwo:=HWO.out.2;rw[HY.out]at hwo⊢;rw[hwo];exact((HO4.out.setE rfl i hl' ⟨key,y.version+1,node,value⟩ ⟨hk,(by show inR (y.version+1);unfold inR;omega),hn,hv⟩).1).lower HBS.out.size
             · (iterate 4 refine Below.setCell ?_ (by have:=HBS.out.size;dsimp only;omega) _);exact HB4.out
 · (have t1:(aj xs !=0)=true:=by simp[hc]);have HF:=zaa (xT (node:=node) (key:=key) (value:=value) hc);clear hc;(go_wp2_with fail);(go_ret2);exact cN HF.out (OwR.nil _ _ HB1.out.size) HB1.out
theorem Sl.str{w:World}{b off c n:Nat}{xs:List ByteArray}(h:Sl bs w (.slice (some ⟨b,off,none⟩) n c) xs){k:Nat}(hk:k<xs.length):w.cell? ⟨b,off+k,none⟩=some (.string xs[k]):=by
 obtain⟨cs,⟨rfl,hw⟩,hc⟩:=h.cell hk;have:=hc 0 _ rfl;simpa [bs,dw]using this
theorem nu:Elt Tryz.prog 55 9 1 16:=⟨Tryz.underlying55,by
 have h:(Tryz.prog.info? 9).map (fun i=>(i.zero,i.size,i.bytes))=some (some (.string ⟨#[]⟩),1,16):=by kernel_rfl
 obtain⟨i,h1,h2,h3,h4⟩:=info_parts h
 exact⟨i,_,h1,h2,h3,h4,rfl⟩,by decide⟩
theorem nX(v1 v2:Value)(xs:List ab)(w:World)(h1:Sl aW w v1 xs)(h2:Sl aW w v2 xs):
  Calls Tryz.prog 16 #[v1,v2] w fun e w'=>e= .returned (.bool true)/\Below w.heap.size w w':=by
 have hl:=h1.len_le;have q1:=fun(x y:ab) (w':World)=>Do x y w';have q2:=fun a b=>zM .neq a b;obtain⟨A1,c1,rfl⟩:=h1.form;obtain⟨A2,c2,rfl⟩:=h2.form;have H1:=zaa h1;have H2:=zaa h2;clear h1 h2;go_enter Tryz.func16,Tryz.ntmps16
 go_wp2_with fail
 go_loopw [5] (fun s5 wr=>∃k:Nat,k<=xs.length/\s5= .int .i64 k/\Below w.heap.size w wr) (fun s5 _=>xs.length-(intOf s5).toNat)
 case atStart=>exact⟨0,zap _,rfl,zac _ _⟩
 case round=>
  obtain⟨k,hk,rfl,hB⟩:=hrel;have HB:=zaa hB;by_cases hlt:k<xs.length
  · obtain⟨b1,o1,rfl,hb1⟩:=H1.out.at_ hlt;obtain⟨b2,o2,rfl,hb2⟩:=H2.out.at_ hlt;obtain⟨f1,f2,f3,f4,_⟩:=(H1.out.below hB).ent hlt;obtain⟨g1,g2,g3,g4,_⟩:=(H2.out.below hB).ent hlt;have r0:(0:Int)<=(k:Int):=zai _;(have r1:(k:Int)<(xs.length:Int):=by omega);have q3:=q1 xs[k] xs[k];rw[vO]at q3;clear hB q1;(go_wp2_with fail);(go_quiet (fail));(go_wp2_with fail);(go_roundw);(case rel=>exact⟨k+1,by omega,by go_num,ag HB.out _⟩);case measure=>simp[intOf];omega
  · clear hB;(go_wp2_with fail);(go_ret);exact⟨rfl,HB.out⟩
theorem rN(v1 v2:Value)(xs:List ByteArray)(w:World)(h1:Sl bs w v1 xs)(h2:Sl bs w v2 xs):
  Calls Tryz.prog 15 #[v1,v2] w fun e w'=>e= .returned (.bool true)/\Below w.heap.size w w':=by
 have hl:=h1.len_le;obtain⟨A1,c1,rfl⟩:=h1.form;obtain⟨A2,c2,rfl⟩:=h2.form;have H1:=zaa h1;have H2:=zaa h2;clear h1 h2;go_enter Tryz.func15,Tryz.ntmps15
 go_wp2_with fail
 go_loopw [5] (fun s5 wr=>∃k:Nat,k<=xs.length/\s5= .int .i64 k/\Below w.heap.size w wr) (fun s5 _=>xs.length-(intOf s5).toNat)
 case atStart=>exact⟨0,zap _,rfl,zac _ _⟩
 case round=>
  obtain⟨k,hk,rfl,hB⟩:=hrel;have HB:=zaa hB;by_cases hlt:k<xs.length
  · obtain⟨b1,o1,rfl,hb1⟩:=H1.out.at_ hlt;obtain⟨b2,o2,rfl,hb2⟩:=H2.out.at_ hlt;have f1:=(H1.out.below hB).str hlt;have g1:=(H2.out.below hB).str hlt;have r0:(0:Int)<=(k:Int):=zai _;(have r1:(k:Int)<(xs.length:Int):=by omega);(have r2:(xs[k].toList==xs[k].toList)=true:=by simp);clear hB;(go_wp2_with fail);(go_quiet (fail));(go_wp2_with fail);(go_roundw);(case rel=>exact⟨k+1,by omega,by go_num,ag HB.out _⟩);case measure=>simp[intOf];omega
  · clear hB;(go_wp2_with fail);(go_ret);exact⟨rfl,HB.out⟩
theorem gbO{α:Type}{r:Rep α}{E B:Nat}{w w' w'':World}{v' v'':Value}{ys:List α}(hb:Below B w w')(ho:OwR r E B w' v' ys)(hg:al w' v' w'' v''):Below B w w'':=hb.trans (hg.below ho.choose_spec.2.2.2 (fun k hk=>(ho.base_le k hk).1))
structure Two(B:Nat)(w:World)(v u:Value)(xs:List ab)(ks:List ByteArray):Prop where
 out:OwR aW 44 B w v xs
 keys:OwR bs 9 B w u ks
 apart:∀k,v.ownBlock=some k->u.ownBlock≠some k
theorem Two.keep{B:Nat}{w w':World}{v u:Value}{xs:List ab}{ks:List ByteArray}(h:Two B w v u xs ks)(hb:Below w.heap.size w w'):Two B w' v u xs ks:=⟨h.out.keep hb,h.keys.keep hb,h.apart⟩
theorem BF{v u:Value}(h:∀k,v.ownBlock=some k->u.ownBlock≠some k):v.ownBlock=none∨v.ownBlock≠u.ownBlock:=by
 rcases e:v.ownBlock with _|k
 · exact .inl rfl
 · exact .inr (fun e'=>h k e e'.symm)
theorem Two.out'{B:Nat}{w w':World}{v u v':Value}{xs ys:List ab}{ks:List ByteArray}(h:Two B w v u xs ks)(ho:OwR aW 44 B w' v' ys)(hg:al w v w' v'):Two B w' v' u ys ks:=by
 refine⟨ho,h.keys.kept hg.grown (BF fun k hk hk'=>h.apart k hk' hk),fun k hk hk'=> ?_⟩;rcases hg.own k hk with e|e
 · exact h.apart k e hk'
 · have:=(h.keys.base_le k hk').2;omega
theorem Two.keys'{B:Nat}{w w':World}{v u u':Value}{xs:List ab}{ks ls:List ByteArray}(h:Two B w v u xs ks)(ho:OwR bs 9 B w' u' ls)(hg:al w u w' u'):Two B w' v u' xs ls:=by
 refine⟨h.out.kept hg.grown (BF h.apart),ho,fun k hk hk'=> ?_⟩;rcases hg.own k hk' with e|e
 · exact h.apart k hk e
 · have:=(h.out.base_le k hk).2;omega
theorem Two.new{B:Nat}{w w':World}{v u v':Value}{xs ys:List ab}{ks:List ByteArray}(h:Two B w v u xs ks)(ho:OwR aW 44 w.heap.size w' v' ys)(hb:Below w.heap.size w w'):Two B w' v' u ys ks:=
 ⟨ho.lower h.out.choose_spec.2.2.2,h.keys.keep hb,fun k hk hk'=>by have:=(ho.base_le k hk).1;have:=(h.keys.base_le k hk').2;omega⟩
theorem yE{w:World}{base ty:Nat}{v vx:Value}{xs ys:List ByteArray}{S:Nat->Prop}(hown:OwR bs 9 base w v xs)(hsrc:SlR bs w S vx ys)(hb:xs.length+ys.length<=1000000):
  ∃v' w',(Builtin.append_ #[55,55] ty #[v,vx]).run Tryz.prog w= .ok v' w'/\OwR bs 9 base w' v' (xs++ys)/\al w v w' v':=by
 obtain⟨v',w',r1,r2,r3,r4⟩:=bH (ty:=ty) nu hown hsrc (fun _ _ h=>h) (by unfold maxLen;omega) (by omega);exact⟨v',w',r1,r2,al.of_at r3 r4⟩
theorem gK{ops:Array Oper}{rest:List Oper}{o:Oper}{a:Act}{Q:Exit->Act->World->Prop}{w:World}{base:Nat}(hgd:o.guard=none)(s x:Operand)
  (ho:o.op= .call {callee:= .builtin .append,args:= #[s,x],argTypes:= #[55,55]}) {v vx:Value} {xs ys:List ByteArray} {S:Nat->Prop}
  (hown:OwR bs 9 base w v xs) (hsrc:SlR bs w S vx ys) (hs:a.eval s=v) (hx:a.eval x=vx) (hb:xs.length+ys.length<=1000000)
  (h:∀v' w',OwR bs 9 base w' v' (xs++ys)->al w v w' v'->wpList Tryz.prog ops Q rest (a.put o.dst v') w'):wpList Tryz.prog ops Q (o::rest) a w:=
 wpList_plain hgd fun _ hK=>by
  obtain⟨v',w',hrun,h2,h3⟩:=yE (ty:=o.type) hown hsrc hb;unfold Oper.wp execOp;simp only[ho,resolve,invoke,builtin,zbK,zbJ,Result.andThen_ok,zbn,zbc,zbB,hs,hx,hrun];exact hK _ _ (h v' w' h2 h3)
theorem nf{w:World}{x:ByteArray}(hx:x.size<=maxLen):SlR bs (w.alloc (.cells #[.string x] 9)) (fun k=>k<w.heap.size+1) (.slice (some ⟨w.heap.size,0,none⟩) 1 1) [x]:=
 SlR.one_new (r:=bs) (w:=w) (cs:=[.string x]) (x:=x) ⟨rfl,hx⟩
theorem wv{w:World}{B:Nat}{x:ByteArray}(hB:B=w.heap.size)(hx:x.size<=maxLen):SlR bs (w.alloc (.cells #[.string x] 9)) (fun k=>k<w.heap.size+1) (.slice (some ⟨B,0,none⟩) 1 1) [x]:=by
 subst hB;exact nf hx
def CN(r:List ab × List ByteArray × Int)(w:World)(e:Ending)(w':World):Prop:=
 ∃v' u',e= .returned (.tuple #[v',u',.int .i64 r.2.2])/\Two w.heap.size w' v' u' r.1 r.2.1/\Below w.heap.size w w'
theorem qJ{r:List ab × List ByteArray × Int}{w w':World}{v' u':Value}{ys:List ab}{ks:List ByteArray}{n:Int}(h:r=(ys,ks,n))(ho:Two w.heap.size w' v' u' ys ks)(hb:Below w.heap.size w w'):
 CN r w (.returned (.tuple #[v',u',.int .i64 n])) w':=⟨v',u',by rw[h],by rw[h];exact ho,hb⟩
theorem mZ{B:Nat}{w:World}(hb:B<=w.heap.size):Two B w (.slice none 0 0) (.slice none 0 0) [] []:=⟨OwR.nil _ _ hb,OwR.nil _ _ hb,fun k hk=>by cases hk⟩
def mTo(a b:List ab)(k:Nat):List ab × List ByteArray:=(b.take k).foldl (aY aH) (a,[])
theorem jt(a b:List ab)(k:Nat)(h:k<b.length):mTo a b (k+1)=aY aH (mTo a b k) b[k]:=by
 unfold mTo;rw[zar h,zcr];rfl
theorem oQ{a b:List ab}(ha:OkS a)(hb:∀e∈b,bj e=true)(k:Nat):OkS (mTo a b k).1:=
 uo _ _ ha (fun e he=>hb e (zbk he))
theorem p7(p:List ab × List ByteArray)(e:ab):(aY aH p e).2.length<=p.2.length+1:=by
 unfold aY;split
 · split<;>simp
 · split<;>simp
theorem x9(a b:List ab)(k:Nat)(h:k<=b.length):(mTo a b k).2.length<=k:=by
 induction k with
 | zero=>simp[mTo]
 | succ k ih=>
   rw[jt a b k (by omega)];have:=p7 (mTo a b k) b[k];have:=ih (by omega);omega
theorem oP{a b:List ab}(h:aj a≠0):cJ aH a b=([],[],aj a):=by unfold cJ;rw[if_pos h]
theorem oO{a b:List ab}(h:aj a=0)(h2:aj b≠0):cJ aH a b=([],[],aj b):=by unfold cJ;rw[if_neg (by simp[h]),if_pos h2]
theorem js{a b:List ab}(h:aj a=0)(h2:aj b=0):cJ aH a b=((mTo a b b.length).1,(mTo a b b.length).2,0):=by
 unfold cJ mTo;rw[if_neg (by simp[h]),if_neg (by simp[h2]),zaN]
theorem vC{p:List ab × List ByteArray}{e:ab}(h:p.1.Pairwise ltE)(hl:lbE p.1 e.key<p.1.length)(hk:p.1[lbE p.1 e.key].key=e.key)(ha:aH e p.1[lbE p.1 e.key]=true):
  aY aH p e=(p.1.set (lbE p.1 e.key) e,p.2++[e.key]):=by
 unfold aY;rw[dZ h e.key hl hk];simp only;rw[if_pos ha,qe hl ((cF h _).2 ⟨hl,hk⟩)]
theorem th{p:List ab × List ByteArray}{e:ab}(h:p.1.Pairwise ltE)(hl:lbE p.1 e.key<p.1.length)(hk:p.1[lbE p.1 e.key].key=e.key)(ha:aH e p.1[lbE p.1 e.key]=true):
  aY aH p e=(cZ p.1 e,p.2++[e.key]):=by
 unfold aY;rw[dZ h e.key hl hk];simp only;rw[if_pos ha]
theorem nQ{p:List ab × List ByteArray}{e:ab}(h:p.1.Pairwise ltE)(hl:lbE p.1 e.key<p.1.length)(hk:p.1[lbE p.1 e.key].key=e.key)(ha:aH e p.1[lbE p.1 e.key]=false):
  aY aH p e=p:=by
 unfold aY;rw[dZ h e.key hl hk];simp[ha]
theorem tf{p:List ab × List ByteArray}{e:ab}(h:dm p.1 e.key=false)(hl:p.1.length<60):aY aH p e=(cZ p.1 e,p.2++[e.key]):=by
 unfold aY;rw[gG h];simp only;rw[if_pos hl]
theorem qk{p:List ab × List ByteArray}{e:ab}(h:dm p.1 e.key=false)(hl:¬ p.1.length<60):aY aH p e=p:=by
 unfold aY;rw[gG h];simp only;rw[if_neg hl]
theorem Cv(a b:ab):(aH a b=true->0<Ag a b)/\(aH a b=false->¬ 0<Ag a b):=by
 rw[pw];refine⟨fun h=>by simp[h],fun h=> ?_⟩;rw[if_neg (by simp[h])];split<;>simp
theorem qI(v1 v2:Value)(xs ys:List ab)(w:World)(h1:Sl aW w v1 xs)(h2:Sl aW w v2 ys)(hwf:∀e∈ys,e.wf)(hwx:∀e∈xs,e.wf):Calls Tryz.prog 62 #[v1,v2] w (CN (cJ aH xs ys) w):=by
 have hlen:=h2.len_le;obtain⟨A1,c1,rfl⟩:=h1.form;obtain⟨A2,c2,rfl⟩:=h2.form;have H1:=zaa h1;have H2:=zaa h2;have HWF:=zaa hwf;clear h1 h2 hwf;go_enter Tryz.func62,Tryz.ntmps62
 go_wp2_with fail
 refine(fy _ xs _ H1.out).mono ?_;rintro r w1 ⟨rfl,hb1⟩;have HB1:=zaa hb1;have hz1:=hb1.size;clear hb1;by_cases hc:aj xs=0
 · (have t1:(aj xs !=0)=false:=by simp[hc]);have HC:=zaa hc;clear hc;(go_wp2_with fail);refine(fy _ ys _ (H2.out.below HB1.out)).mono ?_;rintro r w2 ⟨rfl,hb2⟩;have HB2:=zaa (HB1.out.trans (hb2.mono hz1));have hz2:=HB2.out.size;clear hb2;by_cases hc2:aj ys=0
   · (have t2:(aj ys !=0)=false:=by simp[hc2]);have HC2:=zaa hc2;have HOKA:=zaa (dX HC.out);have HOKB:=zaa (dX hc2);have hl60:=HOKB.out.len;have HF:=zaa (js HC.out hc2);have HCL:=zaa (iS _ xs w2 (H1.out.below HB2.out) (by have:=HOKA.out.len;omega));clear hc2;(go_wp2_with fail);refine HCL.out.mono ?_;rintro r w3 ⟨v3,rfl,ho3,hb3⟩;have HO3:=zaa (ho3.lower hz2);have HB3:=zaa (HB2.out.trans (hb3.mono hz2));clear ho3 hb3;(go_wp2_with fail);(go_loopw [9,10,12,13,14,29] (fun s9 s10 _ _ _ s29 wr=>∃k:Nat,k<=ys.length/\s29= .int .i64 k/\Two w.heap.size wr s9 s10 (mTo xs ys k).1 (mTo xs ys k).2/\Below w.heap.size w wr) (fun _ _ _ _ _ s29 _=>ys.length-(intOf s29).toNat));(case atStart=>exact⟨0,zap _,rfl,⟨HO3.out,OwR.nil _ _ HB3.out.size,fun k hk hk'=>by cases hk'⟩,HB3.out⟩);case round=>
      obtain⟨k,hk,rfl,htw,hB⟩:=hrel;have HT:=zaa htw;have HB:=zaa hB;by_cases hlt:k<ys.length
      · obtain⟨b,off,rfl,hb⟩:=H2.out.at_ hlt;obtain⟨f1,f2,f3,f4,hyw⟩:=(H2.out.below hB).ent hlt;have hsucc:=jt xs ys k hlt;have hok:=oQ HOKA.out HOKB.out.ok k;have hkl:=x9 xs ys k hk;obtain⟨y,hy⟩:∃y,ys[k]=y:=⟨_,rfl⟩;obtain⟨p,hp⟩:∃p,mTo xs ys k=p:=⟨_,rfl⟩;rw[hy]at f1 f2 f3 f4 hyw hsucc;rw[hp]at hok hkl hsucc htw;have HSUC:=zaa hsucc;have HOK:=zaa hok;have HYW:=zaa hyw;have HT2:=zaa htw;have hol:=hok.len;have hez:=hB.size;have hba:Below wr.heap.size wr (wr.alloc (.cells #[.string y.key,.int .i64 y.version,.int .i64 y.origin,.string y.value] 44)):=(zac _ _).alloc (zab _) _;have HBA:=zaa hba;have HFI:=zaa (pi _ p.1 y.key _ ((htw.out.keep hba).sl (by decide)) hok.ord (by omega));have r0:(0:Int)<=(k:Int):=zai _;(have r1:(k:Int)<(ys.length:Int):=by omega);obtain⟨A9,c9,hv9⟩:=(htw.out.sl (by decide)).form;subst hv9;clear htw hB hy hp hsucc hok hyw hba HT;(go_wp2_with fail);refine HFI.out.mono ?_;rintro r w4 ⟨rfl,hb4⟩;obtain⟨hA,hN,hM,hS⟩:=aT hb4;have HB4:=zaa (HB.out.trans (hA.mono hez));have hT4:=HT2.out.keep hA;have HT4:=zaa hT4;clear hb4 hA f1 f2 f3 f4;rcases hh:dm p.1 y.key with _|_
        · by_cases hroom:p.1.length<60
          · have hst:=tf hh hroom;rw[qf hh]at hst;have HST:=zaa hst;have HI:=zaa (kx p.1 y.key);(have hr1:(p.1.length:Int)<60:=by omega);(have hne9:(Value.slice A9 p.1.length c9).ownBlock≠some wr.heap.size:=fun e=>by have:=(HT2.out.out.base_le _ e).2;omega);have HNE9:=zaa hne9;clear hh hst hroom hne9 hT4;(go_wp2_with fail);(go_quiet (fail));obtain⟨q1,rfl⟩:∃m,m=nq:=⟨nq,rfl⟩;have hT5:=HT4.out.keep (ag (zac w4.heap.size w4) q1);have hT6:=hT5.keep ((zac (w4.drewN q1).heap.size (w4.drewN q1)).alloc (zab _) (.cells #[.string y.key,.int .i64 y.version,.int .i64 y.origin,.string y.value] 44));have HT6:=zaa hT6;have HINS:=zaa (oY _ p.1 y (lbE p.1 y.key) ((w4.drewN q1).alloc (.cells #[.string y.key,.int .i64 y.version,.int .i64 y.origin,.string y.value] 44)) (w4.drewN q1).heap.size w.heap.size hT6.out HI.out (by omega) yf (fun e=>by have:=(hT5.out.base_le _ e).2;omega) HYW.out);have HB6:=zaa ((ag HB4.out q1).alloc HB4.out.size (.cells #[.string y.key,.int .i64 y.version,.int .i64 y.origin,.string y.value] 44));have HN6:=zaa (show∀i,((w4.drewN q1).alloc (.cells #[.string y.key,.int .i64 y.version,.int .i64 y.origin,.string y.value] 44)).cell? ⟨wr.heap.size,i,none⟩= #[Value.string y.key,.int .i64 y.version,.int .i64 y.origin,.string y.value][i]? from fun i=>by
             rw[World.cell?_alloc_lt _ _ _ (by show wr.heap.size<(w4.drewN q1).heap.size;exact hS),World.cell?_drewN];exact hN i)
            clear hT5 hT6;(go_wp2_with fail);clear hN hM;refine HINS.out.mono ?_;rintro r w7 ⟨v7,rfl,ho7,hg7⟩;have hN7:∀i,w7.cell? ⟨wr.heap.size,i,none⟩= #[Value.string y.key,.int .i64 y.version,.int .i64 y.origin,.string y.value][i]? :=fun i=>(hg7.cell (by show wr.heap.size<_;simp;have:wr.heap.size<(w4.drewN q1).heap.size:=hS;omega) HNE9.out i).trans (HN6.out i);have HT7:=zaa (HT6.out.out' ho7 hg7);have HB7:=zaa (gbO HB6.out HT6.out.out hg7);have HKL:=zaa (show p.2.length+[y.key].length<=1000000 by simp only[zaD,zaW];omega);clear ho7 hg7;(go_wp2_with (at_builtin;refine gK (base:=w.heap.size) rfl (.tmp 73) (.tmp 76) rfl (HT7.out.keys.alloc1 _) (nf HYW.out.1) rfl rfl HKL.out ?_;intro v8 w8 ho8 hg8));(go_roundw);case rel=>
             refine⟨k+1,by omega,by go_num,?_,gbO (HB7.out.alloc HB7.out.size _) (HT7.out.keys.alloc1 _) hg8⟩;rw[HSUC.out,HST.out];exact(HT7.out.keep ((zac _ _).alloc (zab _) _)).keys' ho8 hg8
            case measure=>simp[intOf];omega
          · have hst:=qk hh hroom;have HST:=zaa hst;(have hr1:¬ (p.1.length:Int)<60:=by omega);clear hh hst hroom hT4;(go_wp2_with fail);(go_quiet (fail));(go_wp2_with fail);(go_roundw);case rel=>
             refine⟨k+1,by omega,by go_num,?_,ag HB4.out _⟩;rw[HSUC.out,HST.out];exact HT4.out.keep (ag (zac _ _) _)
            case measure=>simp[intOf];omega
        · obtain⟨hl,hkeq⟩:=(cF HOK.out.ord y.key).1 hh;obtain⟨g,cap,hv9,hg1,hg2,hg3⟩:=hT4.out.at_ (by omega);injection hv9 with e1 e2 e3;subst e1 e3;have hAB:=vC HOK.out.ord hl hkeq;have hBE:=nQ HOK.out.ord hl hkeq;have hent:=(hT4.out.sl (by decide)).ent hl;obtain⟨i,hi⟩:∃i,lbE p.1 y.key=i:=⟨_,rfl⟩;(have hli:i<p.1.length:=by omega);simp only[hi]at hAB hBE hent;rw[zbb]at hent;obtain⟨g1,g2,g3,g4,how⟩:=hent;obtain⟨o,ho⟩:∃o,p.1[i]=o:=⟨_,rfl⟩;rw[ho]at g1 g2 g3 g4 how hAB hBE;have HAB:=zaa hAB;have HBE:=zaa hBE;have HOW:=zaa how;have i0:(0:Int)<=(i:Int):=zai _;(have i1:(i:Int)<(p.1.length:Int):=by omega);rw[hi];clear hh hl hkeq hAB hBE how ho hi hT4 e2;(go_wp2_with fail);refine gu 7 (by kernel_rfl) (by kernel_rfl) ?_;intro wd hwd;have hN':∀i,wd.cell? ⟨wr.heap.size,i,none⟩= #[Value.string y.key,.int .i64 y.version,.int .i64 y.origin,.string y.value][i]? :=by
           intro i;rw[hwd,zaY];exact hN i
          (have g1':wd.cell? ⟨g,i*4,none⟩=some (.string o.key):=by rw[hwd,zaY];exact g1);(have g2':wd.cell? ⟨g,i*4+1,none⟩=some (.int .i64 o.version):=by rw[hwd,zaY];exact g2);(have g3':wd.cell? ⟨g,i*4+2,none⟩=some (.int .i64 o.origin):=by rw[hwd,zaY];exact g3);(have g4':wd.cell? ⟨g,i*4+3,none⟩=some (.string o.value):=by rw[hwd,zaY];exact g4);(have hTd:Two w.heap.size wd (.slice (some ⟨g,0,none⟩) p.1.length c9) u10 p.1 p.2:=by rw[hwd];exact HT4.out.keep ((zac _ _).drew));(have hBd:Below w.heap.size w wd:=by rw[hwd];exact HB4.out.drew);(have hSd:wr.heap.size<wd.heap.size:=by rw[hwd];exact hS);have HTD:=zaa hTd;have HBD:=zaa hBd;have HND:=zaa hN';have HCM:=zaa (uJ y o wd HYW.out HOW.out);unfold ab.val at HCM;clear hwd hN hM g1 g2 g3 g4 hTd hBd hg3;simp only[zbz,zcw,zbD,List.drop_zero];(iterate 7 still_step);refine wpStill_nil ?_;clear g1' g2' g3' g4' hN';(go_wp2_with fail);refine HCM.out.mono ?_;rintro e w5 ⟨rfl,hb5⟩;have HT5:=zaa (HTD.out.keep hb5);have HB5:=zaa (HBD.out.trans (hb5.mono HBD.out.size));have hN5:∀i,w5.cell? ⟨wr.heap.size,i,none⟩= #[Value.string y.key,.int .i64 y.version,.int .i64 y.origin,.string y.value][i]? :=fun i=>(bAt hb5 hSd i).trans (HND.out i);have hcp:=Cv y o;clear hb5;rcases hab:aH y o with _|_
          · have hng:=hcp.2 hab;have HBE2:=zaa (HBE.out hab);clear hab hcp;(go_wp2_with fail);(go_roundw);case rel=>
             refine⟨k+1,by omega,by go_num,?_,HB5.out⟩;rw[HSUC.out,HBE2.out];exact HT5.out
            case measure=>simp[intOf];omega
          · have hpo:=hcp.1 hab;have HAB2:=zaa (HAB.out hab);have hset:=HT5.out.out.setE rfl i hli y HYW.out;have HSET:=zaa hset;have hf5:∀j,w5.frozen? ⟨g,j,none⟩=false:=by
             obtain⟨g',cap',hv',_,_,hz'⟩:=HT5.out.out.at_ (by omega);injection hv' with e1 _ _;injection e1 with e1;injection e1 with e1;subst e1;exact hz'
            have h5:=(HT5.out.out.sl (by decide)).ent hli;rw[zbb]at h5;obtain⟨g5a,g5b,g5c,g5d,_⟩:=h5;have hgw:g<wr.heap.size:=(HT2.out.out.base_le g rfl).2;(have hgne:¬ g=wr.heap.size:=by omega);(have hgne2:¬ wr.heap.size=g:=by omega);have hTS:=HT5.out.out' hset.1 ⟨hset.2,fun _ h=> .inl h⟩;have HTS:=zaa hTS;have HBS:=zaa (HB5.out.grown hset.2 HB5.out.size (fun q e=>by injection e with e;omega));have HKL:=zaa (show p.2.length+[y.key].length<=1000000 by simp only[zaD,zaW];omega);unfold Go.Proofs.YtojojpjldkpmoaaGreatDoor.setE at HTS HBS;clear hab hcp hset hTS;(go_wp2_with (at_builtin;refine gK (base:=w.heap.size) rfl (.tmp 55) (.tmp 58) rfl (HTS.out.keys.alloc1 _) (wv (by simp) HYW.out.1) rfl rfl HKL.out ?_;intro v8 w8 ho8 hg8));(go_roundw);case rel=>
             refine⟨k+1,by omega,by go_num,?_,gbO (HBS.out.alloc HBS.out.size _) (HTS.out.keys.alloc1 _) hg8⟩;rw[HSUC.out,HAB2.out];exact(HTS.out.keep ((zac _ _).alloc (zab _) _)).keys' ho8 hg8
            case measure=>simp[intOf];omega
      · (obtain rfl:k=ys.length:=by omega);clear htw hB;(go_wp2_with fail);(go_ret3);exact qJ HF.out HT.out HB.out
   · (have t2:(aj ys !=0)=true:=by simp[hc2]);have HF:=zaa (oO HC.out hc2);clear hc2;(go_wp2_with fail);(go_ret3);exact qJ HF.out (mZ hz2) HB2.out
 · (have t1:(aj xs !=0)=true:=by simp[hc]);have HF:=zaa (oP (b:=ys) hc);clear hc;(go_wp2_with fail);(go_ret3);exact qJ HF.out (mZ hz1) HB1.out
end
end Go.Proofs.YtojojpjldkpmoaaGreatDoor
