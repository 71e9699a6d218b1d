/-
  
-/
import Derived.Test.YtojojpjldkpmoaaGreatDoorGDoB
import Derived.Test.YtojojpjldkpmoaaGreatDoorGOwn
import Derived.Test.YtojojpjldkpmoaaGreatDoorGWaF
import Derived.BigRegion
import Derived.Deep.RegionLaw
import Derived.Laws.Bits64b
import Derived.Test.YtojojpjldkpmoaaGreatDoorGDoM
import Derived.Deep.MidRow
set_option linter.unusedVariables false
set_option linter.unusedSimpArgs false
set_option maxHeartbeats 16000000
set_option maxRecDepth 100000
namespace Go.Proofs.YtojojpjldkpmoaaGreatDoor
section
open Go Go.RowKit Go.Deep
def gv:Rep aS:=dw 2 (fun s=>[.int .i64 s.node,.int .i64 s.cost]) (fun s=>inR s.node/\inR s.cost) (fun _=>rfl) (fun x u h=>by simp at h;rcases h with rfl|rfl<;>rfl)
theorem Ce:Elt Tryz.prog 222 227 2 16:=⟨Tryz.underlying222,by
 have h:(Tryz.prog.info? 227).map (fun i=>(i.zero,i.size,i.bytes))=some (some (.agg #[.int .i64 0,.int .i64 0]),2,16):=by kernel_rfl
 obtain⟨i,h1,h2,h3,h4⟩:=info_parts h
 exact⟨i,_,h1,h2,h3,h4,rfl⟩,by decide⟩
theorem Sl.spot{w:World}{b off c n:Nat}{xs:List aS}(h:Sl gv w (.slice (some ⟨b,off,none⟩) n c) xs){k:Nat}(hk:k<xs.length):
  w.cell? ⟨b,off+k*2,none⟩=some (.int .i64 xs[k].node)/\w.cell? ⟨b,off+k*2+1,none⟩=some (.int .i64 xs[k].cost)/\inR xs[k].node/\inR xs[k].cost:=by
 obtain⟨cs,⟨rfl,hw⟩,hc⟩:=h.cell hk;exact⟨hc 0 _ rfl,hc 1 _ rfl,hw.1,hw.2⟩
theorem OwR.slot{base:Nat}{w:World}{v:Value}{l:List aS}(h:OwR gv 227 base w v l)(hl:0<l.length):
  ∃g cap,v= .slice (some ⟨g,0,none⟩) l.length cap/\base<=g/\g<w.heap.size/\(∀i,i<l.length->w.cell? ⟨g,i*2,none⟩=some (.int .i64 (atS l i).node)/\w.cell? ⟨g,i*2+1,none⟩=some (.int .i64 (atS l i).cost))/\(∀o,w.frozen? ⟨g,o,none⟩=false)/\(∀i,i<l.length->inR (atS l i).node/\inR (atS l i).cost)/\l.length<=cap/\cap<=maxLen:=by
 have hsl:=h.sl (by decide);obtain⟨css,h1,h2,h3,h4⟩:=h;have h3':=h3;rcases h3.2 with⟨h',h0⟩|⟨g,cap,cur,rfl,hb,hg,hnc,hcm,_⟩
 · omega
 · refine⟨g,cap,rfl,hb,?_,fun i hi=> ?_,fun o=>h3'.frozenAt o,fun i hi=> ?_,hnc,hcm⟩
   · exact(Array.getElem?_eq_some_iff.1 hg).1
   · obtain⟨f1,f2,_⟩:=hsl.spot hi;rw[zbb]at f1 f2;rw[yD hi];exact⟨f1,f2⟩
   · obtain⟨_,_,f3⟩:=hsl.spot hi;rw[yD hi];exact f3
structure eZ(w:World)(H base:Nat)(l:List aS):Prop where
 row:∃v,w.cell? ⟨H,0,none⟩=some v/\OwR gv 227 base w v l
 fz:∀i,w.frozen? ⟨H,i,none⟩=false
 lt:H<base
theorem eZ.below{w w':World}{H base:Nat}{l:List aS}(h:eZ w H base l)(hb:Below w.heap.size w w'):eZ w' H base l:=by
 obtain⟨v,h1,h2⟩:=h.row;have hl:H<w.heap.size:=zbj w ⟨H,0,none⟩ h1;have hk:=hb.block H hl;exact⟨⟨v,(zav (w:=w) hk).trans h1,h2.keep hb⟩,fun i=>(zaK (w:=w) hk).trans (h.fz i),h.lt⟩
theorem ju(H base:Nat)(l:List aS)(a b:Nat)(w:World)(h:eZ w H base l)(ha:a<l.length)(hb:b<l.length):
  Calls Tryz.prog 181 #[.pointer (some ⟨H,0,none⟩),.int .i64 a,.int .i64 b] w fun e w'=>e= .returned (.bool (cO (atS l a) (atS l b)))/\Below w.heap.size w w':=by
 obtain⟨v,h1,h2⟩:=h.row;obtain⟨g,cap,rfl,hbg,hg,hc,hf,hr,hcap,hm⟩:=h2.slot (by omega);have hll:l.length<=9223372036854775807:=by unfold maxLen at hm;omega
 obtain⟨a1,a2⟩:=hc a ha;obtain⟨b1,b2⟩:=hc b hb;have ha0:(0:Int)<=(a:Int):=zai a;have hb0:(0:Int)<=(b:Int):=zai b;have hai:(a:Int)<(l.length:Int):=by omega
 have hbi:(b:Int)<(l.length:Int):=by omega
 have hH:H<w.heap.size:=zbj w ⟨H,0,none⟩ h1;clear hc hf hr h2 h;obtain⟨⟨an,ac⟩,hA⟩:∃x,x=atS l a:=⟨_,rfl⟩;obtain⟨⟨bn,bc⟩,hB⟩:∃x,x=atS l b:=⟨_,rfl⟩;rw[<-hA]at a1 a2;rw[<-hB]at b1 b2;rw[<-hA,<-hB];clear hA hB;by_cases c1:ac<bc
 · have d1:decide (ac<bc)=true:=decide_eq_true c1;have HR:=zaa (show cO ⟨an,ac⟩ ⟨bn,bc⟩=true by simp[cO,c1]);clear c1;(go_enter Tryz.func181,Tryz.ntmps181);(go_wp2_with fail);(go_region);(all_goals go_wp2_with fail);all_goals
    (go_ret);refine⟨eb HR.out.symm,?_⟩;exact(((zac _ _).alloc (zab _) _).alloc (by simp) _).drew
 · have d1:decide (ac<bc)=false:=decide_eq_false c1;by_cases c2:ac=bc
   · (have d2:(ac==bc)=true:=by rw[beq_iff_eq];exact c2);have HR:=zaa (show cO ⟨an,ac⟩ ⟨bn,bc⟩=decide (an<bn)by simp[cO,c1,c2]);clear c1 c2;(go_enter Tryz.func181,Tryz.ntmps181);(go_wp2_with fail);(go_region);(all_goals go_wp2_with fail);all_goals
      (go_ret);refine⟨eb HR.out.symm,?_⟩;exact(((zac _ _).alloc (zab _) _).alloc (by simp) _).drew
   · (have d2:(ac==bc)=false:=by rw[beq_eq_false_iff_ne];exact c2);have HR:=zaa (show cO ⟨an,ac⟩ ⟨bn,bc⟩=false by simp[cO,c1,c2]);clear c1 c2;(go_enter Tryz.func181,Tryz.ntmps181);(go_wp2_with fail);(go_region);(all_goals go_wp2_with fail);all_goals
      (go_ret);refine⟨eb HR.out.symm,?_⟩;exact(((zac _ _).alloc (zab _) _).alloc (by simp) _).drew
theorem ur{α:Type}:∀{css:List (List α)} {i:Nat} {a b:α},(∀cs∈css,cs.length=2)->i<css.length->(css.set i [a,b]).flatten=(css.flatten.set (i*2) a).set (i*2+1) b
 | [],i,_,_,_,h=>by simp at h
 | c0::css,0,a,b,hl,_=>by
   have h0:=hl c0 (by simp)
   match c0,h0 with
   | [x,y],_=>simp
 | c0::css,i+1,a,b,hl,h=>by
   have h0:=hl c0 (by simp);have ih:=ur (css:=css) (i:=i) (a:=a) (b:=b) (fun cs hc=>hl cs (by simp[hc])) (by simpa using h)
   match c0,h0 with
   | [x,y],_=>
     rw[zam,zaU,ih,zaU];rw[show(i+1)*2=i*2+1+1 by omega,show i*2+1+1+1=(i*2+1)+1+1 by omega];simp
theorem OwR.set2{base:Nat}{w:World}{g n cap:Nat}{l:List aS}(h:OwR gv 227 base w (.slice (some ⟨g,0,none⟩) n cap) l){i:Nat}(hi:i<l.length)(s:aS)(hs:inR s.node/\inR s.cost):
  OwR gv 227 base ((w.setCell ⟨g,i*2,none⟩ (.int .i64 s.node)).setCell ⟨g,i*2+1,none⟩ (.int .i64 s.cost)) (.slice (some ⟨g,0,none⟩) n cap) (l.set i s):=by
 obtain⟨css,h1,h2,h3,h4⟩:=h;have hn:n=l.length:=by
  rcases h3.2 with⟨h',_⟩|⟨g',cap',cur,h',_⟩
  · cases h'
  · injection h'
 subst hn;have hlens:∀cs∈css,cs.length=2:=by
  intro cs hc;obtain⟨k,hk,rfl⟩:=zau hc;obtain⟨e,_⟩:=h2 k _ _ (zad hk) (zad (by omega));rw[e];rfl
 refine⟨css.set i [.int .i64 s.node,.int .i64 s.cost],by simp[h1],fun k cs x hk hx=> ?_,?_,by simp[World.setCell];exact h4⟩
 · rw[zcg]at hk hx;by_cases e:i=k
   · subst e;rw[if_pos rfl,if_pos (by omega)]at hk;rw[if_pos rfl,if_pos hi]at hx;injection hk with hk;injection hx with hx;subst hk;subst hx;exact⟨rfl,hs⟩
   · rw[if_neg e]at hk hx;exact h2 k cs x hk hx
 · rw[ur hlens (by omega),zbL];exact((h3.stored (i*2) _).1.stored (i*2+1) _).1
theorem OwR.cut{base:Nat}{w:World}{g n cap:Nat}{l:List aS}(h:OwR gv 227 base w (.slice (some ⟨g,0,none⟩) n cap) l){k:Nat}(hk:k<=l.length):
  OwR gv 227 base w (.slice (some ⟨g,0,none⟩) k cap) (l.take k):=by
 obtain⟨css,h1,h2,h3,h4⟩:=h;have hlens:∀cs∈css,cs.length=2:=by
  intro cs hc;obtain⟨k,hk,rfl⟩:=zau hc;obtain⟨e,_⟩:=h2 k _ _ (zad hk) (zad (by omega));rw[e];rfl
 have hfl:∀{css:List (List Value)} {k:Nat},(∀cs∈css,cs.length=2)->(css.take k).flatten=css.flatten.take (k*2):=by
  intro css
  induction css with
  | nil=>intro k _;simp
  | cons c0 css ih=>
    intro k hl;have h0:=hl c0 (by simp);cases k with
    | zero=>simp
    | succ k=>
      match c0,h0 with
      | [x,y],_=>
        rw[zbz,zaU,ih (fun cs hc=>hl cs (by simp[hc])),zaU,show(k+1)*2=k*2+1+1 by omega];simp
 refine⟨css.take k,by rw[zat,zat,h1],fun j cs x hj hx=> ?_,?_,h4⟩
 · rw[zbo]at hj hx;by_cases e:j<k
   · rw[if_pos e]at hj hx;exact h2 j cs x hj hx
   · rw[if_neg e]at hj;cases hj
 · rw[hfl hlens];(have hlk:(l.take k).length=k:=by rw[zat];omega);rw[hlk];refine⟨by rw[zat,h3.1];show min (k*2) (l.length*2)=k*2;omega,?_⟩;rcases h3.2 with⟨h',_⟩|⟨g',cap',cur,h',hb,hg,hnc,hcm,hcs,htake⟩
   · cases h'
   · injection h' with e1 e2 e3;subst e3;refine .inr ⟨g',cap,cur,by rw[e1],hb,hg,by omega,hcm,hcs,?_⟩;rw[<-htake,List.take_take];congr 1;show k*2=min (k*2) (l.length*2);omega
theorem En(w:World)(p:Addr)(u:Value):w.grownBy (w.setCell p u) (some p.block):=⟨rfl,rfl,rfl,by simp[World.setCell],fun k hk hne=>zao _ _ _ _ (fun e=>hne (by rw[e]))⟩
theorem xX{E base:Nat}{w:World}{v:Value}{xs:List aS}(h:OwR gv E base w v xs){p:Addr}(hp:p.block<base)(u:Value):OwR gv E base (w.setCell p u) v xs:=
 h.kept (En w p u) (by
  rcases e:v.ownBlock with _|k
  · exact .inl rfl
  · right;intro e2;injection e2 with e2;have:=(h.base_le k e).1;omega) (fun _ _ h=>h)
theorem eZ.put{w:World}{H base:Nat}{v0 v:Value}{l:List aS}(hc:w.cell? ⟨H,0,none⟩=some v0)(hf:∀i,w.frozen? ⟨H,i,none⟩=false)(hl:H<base)(ho:OwR gv 227 base w v l):eZ (w.setCell ⟨H,0,none⟩ v) H base l:=
 ⟨⟨v,zaJ w _ v (by rw[hc];rfl),xX ho (p:=⟨H,0,none⟩) hl v⟩,fun i=>by rw[zaz];exact hf i,hl⟩
theorem CU{f:Nat}{l:List aS}:up f l 0=l:=by
 cases f with
 | zero=>rfl
 | succ f=>unfold up;rw[if_neg (by omega)]
theorem EE{f k:Nat}{l:List aS}(h:cO (atS l k) (atS l ((k-1)/2))=false):up f l k=l:=by
 cases f with
 | zero=>rfl
 | succ f=>unfold up;rw[if_neg (by rw[h];simp)]
theorem D8{f k:Nat}{l:List aS}(hf:k<f)(h0:0<k)(h:cO (atS l k) (atS l ((k-1)/2))=true):up f l k=up (f-1) (gq l k ((k-1)/2)) ((k-1)/2):=by
 obtain⟨f,rfl⟩:∃g,f=g+1:=⟨f-1,by omega⟩;show(if 0<k/\_ then _ else _)=_;rw[if_pos ⟨h0,h⟩];rfl
theorem Bu{E base:Nat}{w:World}{v:Value}{xs:List aS}(h:OwR gv E base w v xs):∃A n c,v= .slice A n c:=by
 obtain⟨A,c,hv⟩:=(h.sl (by decide)).form;exact⟨A,_,c,hv⟩
theorem eZ.swap{w:World}{H base g cap:Nat}{l:List aS}(h1:w.cell? ⟨H,0,none⟩=some (.slice (some ⟨g,0,none⟩) l.length cap))(hf:∀i,w.frozen? ⟨H,i,none⟩=false)(hl:H<base)(hg:g≠H)(ho:OwR gv 227 base w (.slice (some ⟨g,0,none⟩) l.length cap) l)
  {k p:Nat} (hk:k<l.length) (hp:p<l.length) {xn xc yn yc:Int} (hx:aS.mk xn xc=atS l k) (hy:aS.mk yn yc=atS l p) (hr:∀i,i<l.length->inR (atS l i).node/\inR (atS l i).cost):
  eZ (((((w.setCell ⟨g,k*2,none⟩ (.int .i64 yn)).setCell ⟨g,k*2+1,none⟩ (.int .i64 yc)).setCell ⟨g,p*2,none⟩ (.int .i64 xn)).setCell ⟨g,p*2+1,none⟩ (.int .i64 xc))) H base (gq l k p):=by
 have e1:∀(w:World) o u,(World.setCell w ⟨g,o,none⟩ u).cell? ⟨H,0,none⟩=w.cell? ⟨H,0,none⟩:=fun w o u=>zaj _ _ _ _ (by intro e;injection e with e _ _;exact hg e);have rk:=hr k hk;have rp:=hr p hp;rw[<-hx]at rk;rw[<-hy]at rp;refine⟨⟨_,by rw[e1,e1,e1,e1];exact h1,?_⟩,fun i=>by rw[zaz,zaz,zaz,zaz];exact hf i,hl⟩;have s1:=ho.set2 hk ⟨yn,yc⟩ rp;have s2:=s1.set2 (i:=p) (by simp;exact hp) ⟨xn,xc⟩ rk;unfold gq;rw[<-hx,<-hy];exact s2
theorem Bm{w w4:World}{H base:Nat}{o v2:Value}{l:List aS}{ob:Obj}(h1:w.cell? ⟨H,0,none⟩=some o)(hf:∀i,w.frozen? ⟨H,i,none⟩=false)(hl:H<base)(ho:OwR gv 227 base w o l)(hg:al (w.alloc ob).drew o w4 v2):
  w4.cell? ⟨H,0,none⟩=some o/\(∀i,w4.frozen? ⟨H,i,none⟩=false)/\Below H w w4:=by
 have hlt:H<w.heap.size:=zbj w _ h1;have hb:=(zac w.heap.size w).alloc (zab _) ob;have hk:w4.heap[H]? =w.heap[H]? :=by
  rw[hg.grown.block H (by simp[World.drew];omega) (fun e=>by have:=(ho.base_le H e.symm).1;omega)];exact hb.block H hlt
 refine⟨(zav (w:=w) hk).trans h1,fun i=>(zaK (w:=w) hk).trans (hf i),?_⟩;refine((hb.mono (zbh hlt)).drew).grown hg.grown (by simp[World.drew];omega) (fun k e=>by have:=(ho.base_le k e).1;omega)
theorem oE(H base:Nat)(l:List aS)(n c:Int)(w:World)(h:eZ w H base l)(hn:inR n)(hc:inR c)(hlen:l.length<=100000):
  Calls Tryz.prog 150 #[.pointer (some ⟨H,0,none⟩),.agg #[.int .i64 n,.int .i64 c]] w fun e w'=>e= .returned (.tuple #[])/\eZ w' H base (ic l ⟨n,c⟩)/\Below H w w':=by
 have hb0:H<w.heap.size:=by obtain⟨v,h1,_⟩:=h.row;exact zbj w _ h1
 have HP:=zaa h;clear h;go_enter Tryz.func150,Tryz.ntmps150
 go_wp2_with fail
 have hal:=(zac w.heap.size w).alloc (zab _) (.cells #[.int .i64 n,.int .i64 c] 227);have HP0:=zaa (HP.out.below hal);have HB0:=zaa (hal.mono (zbh hb0));obtain⟨W,hW⟩:∃x,x=w.alloc (.cells #[.int .i64 n,.int .i64 c] 227):=⟨_,rfl⟩;obtain⟨B,hB⟩:∃x,x=w.heap.size:=⟨_,rfl⟩;have a0:W.cell? ⟨B,0,none⟩=some (.int .i64 n):=by rw[hW,hB,zah _ _ _ _ rfl];rfl
 have a1:W.cell? ⟨B,1,none⟩=some (.int .i64 c):=by rw[hW,hB,zah _ _ _ _ rfl];rfl
 rw[<-hW]at HP0 HB0;rw[<-hW,<-hB];clear hW hB hal HP;obtain⟨v,h1,h2⟩:=HP0.out.row;have hf:=HP0.out.fz;have hlt:=HP0.out.lt;obtain⟨A,vc,rfl⟩:=(h2.sl (by decide)).form;have HC:=zaa (fun w4 v2 hg=>Bm (w4:=w4) (v2:=v2) (ob:= .cells #[.int .i64 n,.int .i64 c] 227) h1 hf hlt h2 hg);have HOA:=zaa (h2.keep ((zac W.heap.size W).alloc (zab _) (.cells #[.int .i64 n,.int .i64 c] 227)).drew);have hone:=aN (r:=gv) (w:=W) (B:=W.heap.size) (cs:=[.int .i64 n,.int .i64 c]) (x:=⟨n,c⟩) (E:=227) rfl ⟨rfl,hn,hc⟩;have HONE:=zaa (SlR.keep (w':=(W.alloc (.cells #[.int .i64 n,.int .i64 c] 227)).drew) hone (fun _ _=>rfl) (fun _ h=>h));have HN:=zaa (show l.length+1<=1000000000000 by omega);have hf0:=hf 0;have HLT:=zaa hlt;have hH:H<W.heap.size:=zbj W _ h1;clear hone h2 hf hlt;go_region_law (first
  | (refine eA (base:=base) Ce (by rfl) (.tmp 9) (.tmp 11) (by rfl) HOA.out HONE.out (fun _ _ h=>h) (by rfl) (by rfl) HN.out (by decide) ?_;intro v2 w4 ho2 hg2;obtain⟨A9,n9,c9,rfl⟩:=Bu ho2;have HG2:=zaa hg2;obtain⟨y1,y2,y3⟩:=HC.out w4 _ hg2;have y5:=y2 0;clear hg2 y2)
  | (go_simp;go_wp2_with fail))
 all_goals
  have HP1:=zaa (eZ.put y1 (HC.out w4 _ HG2.out).2.1 HLT.out ho2);have HB1:=zaa ((HB0.out.trans y3).setCell (p:=⟨H,0,none⟩) (zab H) (.slice A9 n9 c9));clear y1 y3 y5 HG2 HC ho2 HOA HONE HB0 HP0 h1 HN hf0 hH;go_simp
  obtain⟨W1,hW1⟩:∃x,x=w4.setCell ⟨H,0,none⟩ (.slice A9 n9 c9):=⟨_,rfl⟩;rw[<-hW1]at HP1 HB1;rw[<-hW1];clear hW1;obtain⟨l0,hl0⟩:∃x,x=l++[aS.mk n c]:=⟨_,rfl⟩;have HLL:=zaa (show l0.length=l.length+1 by rw[hl0];simp);have HUP:=zaa (show up (l.length+1) l0 l.length=ic l ⟨n,c⟩by rw[hl0];rfl);rw[<-hl0]at HP1;clear hl0;obtain⟨v1,h1,h2⟩:=HP1.out.row;obtain⟨A1,vc1,rfl⟩:=(h2.sl (by decide)).form;have hl1:((l0.length:Nat):Int)-1=(l.length:Nat):=by rw[HLL.out];omega
  have hl1b:IntKind.i64.wrap (l.length:Int)=(l.length:Int):=by rw[IntKind.wrap_i64];omega
  go_wp2_with fail
  clear h1 h2;go_loopw [4] (fun i wr=>∃(k:Nat) (l':List aS) (f:Nat),i= .int .i64 k/\k<l'.length/\l'.length=l.length+1/\k<f/\up f l' k=ic l ⟨n,c⟩/\eZ wr H base l'/\Below H w wr) (fun i _=>(intOf i).toNat)
  case atStart=>exact⟨l.length,l0,l.length+1,rfl,by rw[HLL.out];omega,HLL.out,zbt _,HUP.out,HP1.out,HB1.out⟩
  case round=>
   obtain⟨k,l',f,rfl,hk,hll,hkf,hup,hp,hb⟩:=hrel;have HPK:=zaa hp;have HBK:=zaa hb;have HUK:=zaa hup;have HFK:=zaa hkf;clear hp hb hup hkf;obtain⟨p,hpe⟩:∃p,p=(k-1)/2:=⟨_,rfl⟩;by_cases h0:0<k
   · (have h0i:(0:Int)<(k:Int):=by omega);obtain⟨m,hm⟩:∃m,m=k-1:=⟨_,rfl⟩;(have hm1:(k:Int)-1=(m:Int):=by omega);(have hq:Int.tdiv (m:Int) 2=(p:Int):=by rw[hpe,<-hm];rfl);(have hpk:p<k:=by omega);(have hml:(m:Int)<=200000:=by omega);(have hpl:(p:Int)<=200000:=by omega);have HLS:=ju H base l' k p wr HPK.out hk (by omega);have HPE:=zaa hpe;clear hpe hm;rcases hL:cO (atS l' k) (atS l' p)with _|_
     · rw[hL]at HLS;have HLS:=zaa HLS;have HL:=zaa hL;clear hL;(go_wp2_with (go_at_call 181;refine HLS.out.mono ?_;rintro e w3 ⟨rfl,hb3⟩));refine bodyPost_end (v:= .tuple #[]) (by simp[results,Tryz.results150,go_sem]) rfl ?_;refine⟨rfl,?_,HBK.out.trans (hb3.mono (zax (zbh hb0) HBK.out.size))⟩;rw[<-HUK.out,EE (by rw[<-HPE.out];exact HL.out)];exact HPK.out.below hb3
     · rw[hL]at HLS;have HLS:=zaa HLS;have HL:=zaa hL;clear hL;(go_wp2_with (go_at_call 181;refine HLS.out.mono ?_;rintro e w3 ⟨rfl,hb3⟩));have HP3:=zaa (HPK.out.below hb3);have HB3:=zaa (HBK.out.trans (hb3.mono (zax (zbh hb0) HBK.out.size)));clear hb3 HPK HBK HLS;obtain⟨v3,h1,h2⟩:=HP3.out.row;obtain⟨g,cap,rfl,hbg,hg,hcl,hfr,hrr,hcap,hm⟩:=h2.slot (by omega);obtain⟨a1,a2⟩:=hcl k hk;obtain⟨b1,b2⟩:=hcl p (by omega);have hk0:(0:Int)<=(k:Int):=zai k;have hp0:(0:Int)<=(p:Int):=zai p;(have hki:(k:Int)<(l'.length:Int):=by omega);(have hpi:(p:Int)<(l'.length:Int):=by omega);(have n1:¬ p=k:=by omega);(have n2:¬ k=p:=by omega);(have n3:¬ p*2+1=k*2:=by omega);(have n4:¬ k*2=p*2+1:=by omega);(have n5:¬ p*2=k*2+1:=by omega);(have n6:¬ k*2+1=p*2:=by omega);(have hgH:g≠H:=by have:=HP3.out.lt;omega);have hH3:H<w3.heap.size:=zbj w3 _ h1;have f1:=hfr (k*2);have f2:=hfr (k*2+1);have f3:=hfr (p*2);have f4:=hfr (p*2+1);obtain⟨⟨xn,xc⟩,hX⟩:∃x,x=atS l' k:=⟨_,rfl⟩;obtain⟨⟨yn,yc⟩,hY⟩:∃x,x=atS l' p:=⟨_,rfl⟩;rw[<-hX]at a1 a2;rw[<-hY]at b1 b2;have HRR:=zaa hrr;clear hcl hfr hrr;have HX:=zaa hX;have HY:=zaa hY;have H2:=zaa h2;clear hX hY h2;(go_region);all_goals
        (go_wp2_with fail);(go_roundw);case rel=>
         refine⟨p,gq l' k p,f-1,rfl,by rw[b6];omega,by rw[b6];exact hll,by have:=HFK.out;omega,?_,?_,?_⟩
         · rw[<-HUK.out,D8 HFK.out h0 (by rw[<-HPE.out];exact HL.out),<-HPE.out]
         · exact(eZ.swap h1 HP3.out.fz HLT.out hgH H2.out hk (by omega) HX.out HY.out HRR.out).below (zac _ _).drew
         · exact((((HB3.out.setCell (p:=⟨g,k*2,none⟩) (by show H<=g;have:=HLT.out;omega) _).setCell (p:=⟨g,k*2+1,none⟩) (by show H<=g;have:=HLT.out;omega) _).setCell (p:=⟨g,p*2,none⟩) (by show H<=g;have:=HLT.out;omega) _).setCell (p:=⟨g,p*2+1,none⟩) (by show H<=g;have:=HLT.out;omega) _).drew
        case measure=>simp[intOf];omega
   · (have h0i:¬ (0:Int)<(k:Int):=by omega);(obtain rfl:k=0:=by omega);(go_wp2_with fail);refine bodyPost_end (v:= .tuple #[]) (by simp[results,Tryz.results150,go_sem]) rfl ?_;exact⟨rfl,by rw[<-HUK.out,CU];exact HPK.out,HBK.out⟩
theorem Ck{f i:Nat}{l:List aS}(h:l.length<=2*i+1):down f l i=l:=by
 cases f with
 | zero=>rfl
 | succ f=>unfold down;rw[if_pos h]
theorem sy{f i:Nat}{l:List aS}(h:cO (atS l (kid l l.length i)) (atS l i)=false):down f l i=l:=by
 cases f with
 | zero=>rfl
 | succ f=>
   show(if _ then _ else if _ then _ else _)=_;rw[h];split
   · rfl
   · rfl
theorem pl{f i:Nat}{l:List aS}(hf:0<f)(h0:¬ l.length<=2*i+1)(h:cO (atS l (kid l l.length i)) (atS l i)=true):down f l i=down (f-1) (gq l i (kid l l.length i)) (kid l l.length i):=by
 obtain⟨f,rfl⟩:∃g,f=g+1:=⟨f-1,by omega⟩;show(if _ then _ else if _ then _ else _)=_;rw[if_neg h0,if_pos h];rfl
theorem Dq{i:Nat}{l:List aS}(h:2*i+2<l.length)(hl:cO (atS l (2*i+2)) (atS l (2*i+1))=true):kid l l.length i=2*i+2:=by
 unfold kid;rw[if_pos ⟨h,hl⟩]
theorem yb{i:Nat}{l:List aS}(h:¬ 2*i+2<l.length∨cO (atS l (2*i+2)) (atS l (2*i+1))=false):kid l l.length i=2*i+1:=by
 unfold kid;rw[if_neg];rintro⟨h1,h2⟩;rcases h with h|h
 · exact h h1
 · rw[h]at h2;cases h2
theorem eZ.cut0{w:World}{H base g cap m:Nat}{l:List aS}(h1:w.cell? ⟨H,0,none⟩=some (.slice (some ⟨g,0,none⟩) l.length cap))(hf:∀i,w.frozen? ⟨H,i,none⟩=false)(hl:H<base)(hg:g≠H)(ho:OwR gv 227 base w (.slice (some ⟨g,0,none⟩) l.length cap) l)
  (hm:m+1=l.length) {yn yc:Int} (hy:aS.mk yn yc=atS l m) (hr:inR yn/\inR yc):
  eZ ((((w.setCell ⟨g,0,none⟩ (.int .i64 yn)).setCell ⟨g,1,none⟩ (.int .i64 yc)).drew).setCell ⟨H,0,none⟩ (.slice (some ⟨g,0,none⟩) m cap)) H base ((l.set 0 (atS l (l.length-1))).take (l.length-1)):=by
 have e1:∀(w:World) o u,(World.setCell w ⟨g,o,none⟩ u).cell? ⟨H,0,none⟩=w.cell? ⟨H,0,none⟩:=fun w o u=>zaj _ _ _ _ (by intro e;injection e with e _ _;exact hg e);have s1:=ho.set2 (i:=0) (by omega) ⟨yn,yc⟩ hr;have s2:=(s1.cut (k:=m) (by simp;omega)).keep (w':=((w.setCell ⟨g,0,none⟩ (.int .i64 yn)).setCell ⟨g,1,none⟩ (.int .i64 yc)).drew) (zac _ _).drew;rw[show l.length-1=m by omega,<-hy];refine eZ.put (v0:= .slice (some ⟨g,0,none⟩) l.length cap) ?_ ?_ hl s2
 · show((w.setCell ⟨g,0,none⟩ (.int .i64 yn)).setCell ⟨g,1,none⟩ (.int .i64 yc)).cell? _=_;rw[e1,e1];exact h1
 · intro i;show((w.setCell ⟨g,0,none⟩ (.int .i64 yn)).setCell ⟨g,1,none⟩ (.int .i64 yc)).frozen? _=_;rw[zaz,zaz];exact hf i
theorem Dh(H base:Nat)(l:List aS)(w:World)(h:eZ w H base l)(h0:0<l.length)(hlen:l.length<=100000):
  Calls Tryz.prog 151 #[.pointer (some ⟨H,0,none⟩)] w fun e w'=>e= .returned (.int .i64 (atS l 0).node)/\eZ w' H base (dJ l)/\Below H w w':=by
 have HP:=zaa h;obtain⟨v,h1,h2⟩:=h.row;obtain⟨g,cap,rfl,hbg,hg,hcl,hfr,hrr,hcap,hmx⟩:=h2.slot h0;have hH:H<w.heap.size:=zbj w _ h1;obtain⟨m,hm⟩:∃m,m+1=l.length:=⟨l.length-1,by omega⟩;obtain⟨n,hn⟩:∃n,n=l.length:=⟨_,rfl⟩;have hm1:(n:Int)-1=(m:Int):=by omega
 have hml:(m:Int)<(n:Int):=by omega
 have hmx2:(n:Int)<=100000:=by omega
 have hn0:(0:Int)<(n:Int):=by omega
 have hm0:(0:Int)<=(m:Int):=by omega
 obtain⟨a1,a2⟩:=hcl 0 h0;rw[Nat.zero_mul]at a1 a2;rw[zbb]at a2;obtain⟨b1,b2⟩:=hcl m (by omega);have f0:=hfr 0;have f1:=hfr 1;have fH:=h.fz 0;obtain⟨⟨xn,xc⟩,hX⟩:∃x,x=atS l 0:=⟨_,rfl⟩;obtain⟨⟨yn,yc⟩,hY⟩:∃x,x=atS l m:=⟨_,rfl⟩;rw[<-hX]at a1 a2;rw[<-hY]at b1 b2;rw[<-hX];have HR:=zaa (show inR yn/\inR yc by have:=hrr m (by omega);rw[<-hY]at this;exact this);have HLT:=zaa h.lt;have hgH:g≠H:=by have:=h.lt;omega
 have hgH2:H≠g:=fun e=>hgH e.symm;have HCUT:=zaa (eZ.cut0 h1 h.fz h.lt hgH h2 hm hY HR.out);have HLL:=zaa hn;have HMM:=zaa hm;rw[<-hn]at h1 hcap;have hcc:(m:Int)<=(cap:Int):=by omega
 have HBG:=zaa (show H<=g by have:=h.lt;omega);clear hX hY hcl hfr hrr h2 h hn hm h0;go_enter Tryz.func151,Tryz.ntmps151
 go_wp2_with fail
 go_region
 all_goals
  go_wp2_with fail
  have HP1:=zaa (show eZ (((((w.setCell ⟨g,0,none⟩ (.int .i64 yn)).setCell ⟨g,1,none⟩ (.int .i64 yc))).setCell ⟨H,0,none⟩ (.slice (some ⟨g,0,none⟩) m cap)).drew) H base ((l.set 0 (atS l (l.length-1))).take (l.length-1))from HCUT.out);have HB1:=zaa ((((((zac H w).setCell (p:=⟨g,0,none⟩) HBG.out (.int .i64 yn)).setCell (p:=⟨g,1,none⟩) HBG.out (.int .i64 yc))).setCell (p:=⟨H,0,none⟩) (zab H) (.slice (some ⟨g,0,none⟩) m cap))).drew;obtain⟨W,hW⟩:∃x,x=(((w.setCell ⟨g,0,none⟩ (.int .i64 yn)).setCell ⟨g,1,none⟩ (.int .i64 yc)).setCell ⟨H,0,none⟩ (.slice (some ⟨g,0,none⟩) m cap)).drew:=⟨_,rfl⟩;rw[<-hW]at HP1 HB1;rw[<-hW];clear hW HCUT h1 b1 b2 f0 f1 fH hcap hgH hgH2 hcc hg hbg;obtain⟨l1,hl1⟩:∃x,x=(l.set 0 (atS l (l.length-1))).take (l.length-1):=⟨_,rfl⟩;have HLL1:=zaa (show l1.length=m by have:=HMM.out;rw[hl1];simp;omega);have HD1:=zaa (show down (l.length+1) l1 0=dJ l by rw[hl1];rfl);rw[<-hl1]at HP1;clear hl1;go_loopw [5,6] (fun u _ wr=>∃(i:Nat) (l':List aS) (f:Nat),u= .int .i64 i/\i<=m/\l'.length=m/\m<i+f/\down f l' i=dJ l/\eZ wr H base l'/\Below H w wr) (fun u _ _=>m-(intOf u).toNat)
  case atStart=>exact⟨0,l1,l.length+1,rfl,zap _,HLL1.out,by have:=HMM.out;omega,HD1.out,HP1.out,HB1.out⟩
  case round=>
   clear HP1 HB1 HLL1 HD1;obtain⟨i,l',f,rfl,hi,hll,hif,hdn,hp,hb⟩:=hrel;have HPK:=zaa hp;have HBK:=zaa hb;have HDN:=zaa hdn;have HIF:=zaa hif;have HL1:=zaa hll;have HIM:=zaa hi;obtain⟨k1,hk1⟩:∃x,x=2*i+1:=⟨_,rfl⟩;obtain⟨k2,hk2⟩:∃x,x=k1+1:=⟨_,rfl⟩;(have e1:2*(i:Int)+1=(k1:Int):=by omega);(have e2:(k1:Int)+1=(k2:Int):=by omega);(have e3:(k2:Int)<=500000:=by omega);(have e4:(i:Int)<=100000:=by omega);have e5:(0:Int)<=(i:Int):=zai i;have e6:(0:Int)<=(k1:Int):=zai k1;have HK1:=zaa hk1;have HK2:=zaa (show k2=2*i+2 by omega);clear hp hb hdn hif hll hi;by_cases c1:m<=k1
   · (have c1i:(m:Int)<=(k1:Int):=by omega);clear hk1 hk2;(go_wp2_with fail);(go_ret);exact⟨rfl,by rw[<-HDN.out,Ck (by have:=HL1.out;have:=HK1.out;omega)];exact HPK.out,HBK.out⟩
   · (have c1i:¬ (m:Int)<=(k1:Int):=by omega);(have hk1l:k1<l'.length:=by rw[HL1.out];omega);by_cases c2:k2<m
     · (have c2i:(k2:Int)<(m:Int):=by omega);(have hk2l:k2<l'.length:=by rw[HL1.out];omega);have HLS:=ju H base l' k2 k1 wr HPK.out hk2l hk1l;clear hk1 hk2;rcases hL:cO (atS l' k2) (atS l' k1)with _|_
       · rw[hL]at HLS;have HLS:=zaa HLS;have HKD:=zaa (show kid l' l'.length i=k1 by rw[HK1.out];exact yb (.inr (by rw[<-HK1.out,<-HK2.out];exact hL)));clear hL;have HLS2:=fun w' (hb:Below wr.heap.size wr w')=>ju H base l' k1 i w' (HPK.out.below hb) (by have:=HL1.out;omega) (by have:=HL1.out;have:=HK1.out;omega);rcases hL2:cO (atS l' k1) (atS l' i)with _|_
         · rw[hL2]at HLS2;have HLS2:=zaa HLS2;have HL2:=zaa hL2;clear hL2;(go_wp2_with (go_at_call 181;first|(refine HLS.out.mono ?_;rintro e w3 ⟨rfl,hb3⟩;clear HLS)|(refine(HLS2.out w3 hb3).mono ?_;rintro e w5 ⟨rfl,hb5⟩)));(go_ret);exact⟨rfl,by rw[<-HDN.out,sy (by rw[HKD.out];exact HL2.out)];exact HPK.out.below (hb3.trans (hb5.mono hb3.size)),HBK.out.trans (zcu (hb3.trans (hb5.mono hb3.size)) (zax (zbh hH) HBK.out.size))⟩
         · rw[hL2]at HLS2;have HLS2:=zaa HLS2;have HL2:=zaa hL2;clear hL2;(go_wp2_with (go_at_call 181;first|(refine HLS.out.mono ?_;rintro e w3 ⟨rfl,hb3⟩;clear HLS)|(refine(HLS2.out w3 hb3).mono ?_;rintro e w5 ⟨rfl,hb5⟩)));have HP4:=zaa (HPK.out.below (hb3.trans (hb5.mono hb3.size)));have HB4:=zaa (HBK.out.trans (zcu (hb3.trans (hb5.mono hb3.size)) (zax (zbh hH) HBK.out.size)));clear hb5 HPK HBK HLS2;have hll:=HL1.out;obtain⟨v3,h1,h2⟩:=HP4.out.row;obtain⟨g3,cap3,rfl,hbg,hg,hcl,hfr,hrr,hcap,hm⟩:=h2.slot (by omega);(have hil:i<l'.length:=by have:=HK1.out;omega);(have hKl:k1<l'.length:=by omega);(have hiK:i<k1:=by have:=HK1.out;have:=HK2.out;omega);obtain⟨a1,a2⟩:=hcl k1 hKl;obtain⟨b1,b2⟩:=hcl i hil;(have hki:(k1:Int)<(l'.length:Int):=by omega);(have hpi:(i:Int)<(l'.length:Int):=by omega);have hk0:(0:Int)<=(k1:Int):=zai _;(have n1:¬ i=k1:=by omega);(have n2:¬ k1=i:=by omega);(have n3:¬ i*2+1=k1*2:=by omega);(have n4:¬ k1*2=i*2+1:=by omega);(have n5:¬ i*2=k1*2+1:=by omega);(have n6:¬ k1*2+1=i*2:=by omega);(have hgH:g3≠H:=by have:=HP4.out.lt;omega);have hH3:H<w5.heap.size:=zbj w5 _ h1;have f1:=hfr (k1*2);have f2:=hfr (k1*2+1);have f3:=hfr (i*2);have f4:=hfr (i*2+1);obtain⟨⟨xn2,xc2⟩,hX⟩:∃x,x=atS l' k1:=⟨_,rfl⟩;obtain⟨⟨yn2,yc2⟩,hY⟩:∃x,x=atS l' i:=⟨_,rfl⟩;rw[<-hX]at a1 a2;rw[<-hY]at b1 b2;have HRR:=zaa hrr;clear hcl hfr hrr;have HX:=zaa hX;have HY:=zaa hY;have H2:=zaa h2;have HGL:=zaa (show H<=g3 by have:=HLT.out;omega);clear hX hY h2 hll;(go_region);all_goals
            (go_wp2_with fail);(go_roundw);case rel=>
             refine⟨k1,gq l' i k1,f-1,rfl,by have:=HL1.out;omega,by rw[b6];exact HL1.out,by have:=HIF.out;omega,?_,?_,?_⟩
             · have e:=pl (f:=f) (l:=l') (i:=i) (by have:=HIF.out;omega) (by have:=HK1.out;have:=HL1.out;omega) (by rw[HKD.out];exact HL2.out);rw[HKD.out]at e;exact e.symm.trans HDN.out
             · exact(eZ.swap h1 HP4.out.fz HLT.out hgH H2.out hil hKl HY.out HX.out HRR.out).below (zac _ _).drew
             · exact((((HB4.out.setCell (p:=⟨g3,i*2,none⟩) HGL.out _).setCell (p:=⟨g3,i*2+1,none⟩) HGL.out _).setCell (p:=⟨g3,k1*2,none⟩) HGL.out _).setCell (p:=⟨g3,k1*2+1,none⟩) HGL.out _).drew
            case measure=>simp[intOf];have:=HL1.out;omega
       · rw[hL]at HLS;have HLS:=zaa HLS;have HKD:=zaa (show kid l' l'.length i=k2 by rw[HK2.out];exact Dq (by rw[<-HK2.out];exact hk2l) (by rw[<-HK1.out,<-HK2.out];exact hL));clear hL;have HLS2:=fun w' (hb:Below wr.heap.size wr w')=>ju H base l' k2 i w' (HPK.out.below hb) (by have:=HL1.out;omega) (by have:=HL1.out;have:=HK1.out;omega);rcases hL2:cO (atS l' k2) (atS l' i)with _|_
         · rw[hL2]at HLS2;have HLS2:=zaa HLS2;have HL2:=zaa hL2;clear hL2;(go_wp2_with (go_at_call 181;first|(refine HLS.out.mono ?_;rintro e w3 ⟨rfl,hb3⟩;clear HLS)|(refine(HLS2.out w3 hb3).mono ?_;rintro e w5 ⟨rfl,hb5⟩)));(go_ret);exact⟨rfl,by rw[<-HDN.out,sy (by rw[HKD.out];exact HL2.out)];exact HPK.out.below (hb3.trans (hb5.mono hb3.size)),HBK.out.trans (zcu (hb3.trans (hb5.mono hb3.size)) (zax (zbh hH) HBK.out.size))⟩
         · rw[hL2]at HLS2;have HLS2:=zaa HLS2;have HL2:=zaa hL2;clear hL2;(go_wp2_with (go_at_call 181;first|(refine HLS.out.mono ?_;rintro e w3 ⟨rfl,hb3⟩;clear HLS)|(refine(HLS2.out w3 hb3).mono ?_;rintro e w5 ⟨rfl,hb5⟩)));have HP4:=zaa (HPK.out.below (hb3.trans (hb5.mono hb3.size)));have HB4:=zaa (HBK.out.trans (zcu (hb3.trans (hb5.mono hb3.size)) (zax (zbh hH) HBK.out.size)));clear hb5 HPK HBK HLS2;have hll:=HL1.out;obtain⟨v3,h1,h2⟩:=HP4.out.row;obtain⟨g3,cap3,rfl,hbg,hg,hcl,hfr,hrr,hcap,hm⟩:=h2.slot (by omega);(have hil:i<l'.length:=by have:=HK1.out;omega);(have hKl:k2<l'.length:=by omega);(have hiK:i<k2:=by have:=HK1.out;have:=HK2.out;omega);obtain⟨a1,a2⟩:=hcl k2 hKl;obtain⟨b1,b2⟩:=hcl i hil;(have hki:(k2:Int)<(l'.length:Int):=by omega);(have hpi:(i:Int)<(l'.length:Int):=by omega);have hk0:(0:Int)<=(k2:Int):=zai _;(have n1:¬ i=k2:=by omega);(have n2:¬ k2=i:=by omega);(have n3:¬ i*2+1=k2*2:=by omega);(have n4:¬ k2*2=i*2+1:=by omega);(have n5:¬ i*2=k2*2+1:=by omega);(have n6:¬ k2*2+1=i*2:=by omega);(have hgH:g3≠H:=by have:=HP4.out.lt;omega);have hH3:H<w5.heap.size:=zbj w5 _ h1;have f1:=hfr (k2*2);have f2:=hfr (k2*2+1);have f3:=hfr (i*2);have f4:=hfr (i*2+1);obtain⟨⟨xn2,xc2⟩,hX⟩:∃x,x=atS l' k2:=⟨_,rfl⟩;obtain⟨⟨yn2,yc2⟩,hY⟩:∃x,x=atS l' i:=⟨_,rfl⟩;rw[<-hX]at a1 a2;rw[<-hY]at b1 b2;have HRR:=zaa hrr;clear hcl hfr hrr;have HX:=zaa hX;have HY:=zaa hY;have H2:=zaa h2;have HGL:=zaa (show H<=g3 by have:=HLT.out;omega);clear hX hY h2 hll;(go_region);all_goals
            (go_wp2_with fail);(go_roundw);case rel=>
             refine⟨k2,gq l' i k2,f-1,rfl,by have:=HL1.out;omega,by rw[b6];exact HL1.out,by have:=HIF.out;omega,?_,?_,?_⟩
             · have e:=pl (f:=f) (l:=l') (i:=i) (by have:=HIF.out;omega) (by have:=HK1.out;have:=HL1.out;omega) (by rw[HKD.out];exact HL2.out);rw[HKD.out]at e;exact e.symm.trans HDN.out
             · exact(eZ.swap h1 HP4.out.fz HLT.out hgH H2.out hil hKl HY.out HX.out HRR.out).below (zac _ _).drew
             · exact((((HB4.out.setCell (p:=⟨g3,i*2,none⟩) HGL.out _).setCell (p:=⟨g3,i*2+1,none⟩) HGL.out _).setCell (p:=⟨g3,k2*2,none⟩) HGL.out _).setCell (p:=⟨g3,k2*2+1,none⟩) HGL.out _).drew
            case measure=>simp[intOf];have:=HL1.out;omega
     · (have c2i:¬ (k2:Int)<(m:Int):=by omega);have HKD:=zaa (show kid l' l'.length i=k1 by rw[HK1.out];exact yb (.inl (by rw[<-HK2.out,HL1.out];exact c2)));clear hk1 hk2;have HLS2:=fun w' (hb:Below wr.heap.size wr w')=>ju H base l' k1 i w' (HPK.out.below hb) (by have:=HL1.out;omega) (by have:=HL1.out;have:=HK1.out;omega);rcases hL2:cO (atS l' k1) (atS l' i)with _|_
       · rw[hL2]at HLS2;have HLS2:=zaa HLS2;have HL2:=zaa hL2;clear hL2;(go_wp2_with (go_at_call 181;(refine(HLS2.out wr (zac _ _)).mono ?_;rintro e w5 ⟨rfl,hb5⟩)));(go_ret);exact⟨rfl,by rw[<-HDN.out,sy (by rw[HKD.out];exact HL2.out)];exact HPK.out.below hb5,HBK.out.trans (zcu hb5 (zax (zbh hH) HBK.out.size))⟩
       · rw[hL2]at HLS2;have HLS2:=zaa HLS2;have HL2:=zaa hL2;clear hL2;(go_wp2_with (go_at_call 181;(refine(HLS2.out wr (zac _ _)).mono ?_;rintro e w5 ⟨rfl,hb5⟩)));have HP4:=zaa (HPK.out.below hb5);have HB4:=zaa (HBK.out.trans (zcu hb5 (zax (zbh hH) HBK.out.size)));clear hb5 HPK HBK HLS2;have hll:=HL1.out;obtain⟨v3,h1,h2⟩:=HP4.out.row;obtain⟨g3,cap3,rfl,hbg,hg,hcl,hfr,hrr,hcap,hm⟩:=h2.slot (by omega);(have hil:i<l'.length:=by have:=HK1.out;omega);(have hKl:k1<l'.length:=by omega);(have hiK:i<k1:=by have:=HK1.out;have:=HK2.out;omega);obtain⟨a1,a2⟩:=hcl k1 hKl;obtain⟨b1,b2⟩:=hcl i hil;(have hki:(k1:Int)<(l'.length:Int):=by omega);(have hpi:(i:Int)<(l'.length:Int):=by omega);have hk0:(0:Int)<=(k1:Int):=zai _;(have n1:¬ i=k1:=by omega);(have n2:¬ k1=i:=by omega);(have n3:¬ i*2+1=k1*2:=by omega);(have n4:¬ k1*2=i*2+1:=by omega);(have n5:¬ i*2=k1*2+1:=by omega);(have n6:¬ k1*2+1=i*2:=by omega);(have hgH:g3≠H:=by have:=HP4.out.lt;omega);have hH3:H<w5.heap.size:=zbj w5 _ h1;have f1:=hfr (k1*2);have f2:=hfr (k1*2+1);have f3:=hfr (i*2);have f4:=hfr (i*2+1);obtain⟨⟨xn2,xc2⟩,hX⟩:∃x,x=atS l' k1:=⟨_,rfl⟩;obtain⟨⟨yn2,yc2⟩,hY⟩:∃x,x=atS l' i:=⟨_,rfl⟩;rw[<-hX]at a1 a2;rw[<-hY]at b1 b2;have HRR:=zaa hrr;clear hcl hfr hrr;have HX:=zaa hX;have HY:=zaa hY;have H2:=zaa h2;have HGL:=zaa (show H<=g3 by have:=HLT.out;omega);clear hX hY h2 hll;(go_region);all_goals
          (go_wp2_with fail);(go_roundw);case rel=>
           refine⟨k1,gq l' i k1,f-1,rfl,by have:=HL1.out;omega,by rw[b6];exact HL1.out,by have:=HIF.out;omega,?_,?_,?_⟩
           · have e:=pl (f:=f) (l:=l') (i:=i) (by have:=HIF.out;omega) (by have:=HK1.out;have:=HL1.out;omega) (by rw[HKD.out];exact HL2.out);rw[HKD.out]at e;exact e.symm.trans HDN.out
           · exact(eZ.swap h1 HP4.out.fz HLT.out hgH H2.out hil hKl HY.out HX.out HRR.out).below (zac _ _).drew
           · exact((((HB4.out.setCell (p:=⟨g3,i*2,none⟩) HGL.out _).setCell (p:=⟨g3,i*2+1,none⟩) HGL.out _).setCell (p:=⟨g3,k1*2,none⟩) HGL.out _).setCell (p:=⟨g3,k1*2+1,none⟩) HGL.out _).drew
          case measure=>simp[intOf];have:=HL1.out;omega
theorem eZ.far{w:World}{H base:Nat}{l:List aS}(h:eZ w H base l){p:Addr}(h1:p.block≠H)(h2:p.block<base)(u:Value):eZ (w.setCell p u) H base l:=by
 obtain⟨v,h3,h4⟩:=h.row;exact⟨⟨v,by rw[zaj _ _ _ _ (fun e=>h1 (congrArg Addr.block e))];exact h3,xX h4 h2 u⟩,fun i=>by rw[zaz];exact h.fz i,h.lt⟩
structure gm(w:World)(N:Nat)(st:Ds):Prop where
 c:Vec w N (gI st.cost)
 h:Vec w (N+1) (fun i=>(gN st.hops i:Nat))
 d:fS w (N+2) (gD st.done)
 p:eZ w (N+3) (N+4) st.heap
theorem gm.below{w w':World}{N:Nat}{st:Ds}(h:gm w N st)(hb:Below w.heap.size w w'):gm w' N st:=⟨h.c.below hb,h.h.below hb,h.d.below hb,h.p.below hb⟩
theorem gm.turn{w w':World}{N:Nat}{st:Ds}{l:List aS}(h:gm w N st)(hb:Below (N+3) w w')(hp:eZ w' (N+3) (N+4) l):gm w' N {st with heap:=l}:=
 ⟨h.c.keep (hb.block N (by omega)),h.h.keep (hb.block (N+1) (by omega)),h.d.keep (hb.block (N+2) (by omega)),hp⟩
theorem gm.setD{w:World}{N:Nat}{st:Ds}(h:gm w N st){i:Nat}(hi:i<12)(hl:st.done.length=12):gm (w.setCell ⟨N+2,i,none⟩ (.bool true)) N {st with done:=st.done.set i true}:=
 ⟨h.c.far (by show N+2≠N;omega) _,h.h.far (by show N+2≠N+1;omega) _,h.d.set hi true (fun a _=>by
  show gD (st.done.set i true) a=_;rw[B7 _ _ _ _ (by omega)];by_cases e:a=i
  · rw[if_pos e,if_pos e.symm]
  · rw[if_neg e,if_neg (fun x=>e x.symm)]),h.p.far (by show N+2≠N+3;omega) (by show N+2<N+4;omega) _⟩
theorem gm.setH{w:World}{N:Nat}{st:Ds}(h:gm w N st){i:Nat}(hi:i<12)(hl:st.hops.length=12)(f:Nat):gm (w.setCell ⟨N+1,i,none⟩ (.int .i64 (f:Nat))) N {st with hops:=st.hops.set i f}:=
 ⟨h.c.far (by show N+1≠N;omega) _,h.h.set hi _ (fun a _=>by
  show((gN (st.hops.set i f) a:Nat):Int)=_;rw[wL _ _ _ _ (by omega)];by_cases e:a=i
  · rw[if_pos e,if_pos e.symm]
  · rw[if_neg e,if_neg (fun x=>e x.symm)]),h.d.far (by show N+1≠N+2;omega) _,h.p.far (by show N+1≠N+3;omega) (by show N+1<N+4;omega) _⟩
theorem gm.setC{w:World}{N:Nat}{st:Ds}(h:gm w N st){i:Nat}(hi:i<12)(hl:st.cost.length=12)(x:Int):gm (w.setCell ⟨N,i,none⟩ (.int .i64 x)) N {st with cost:=st.cost.set i x}:=
 ⟨h.c.set hi _ (fun a _=>vK hl hi x),h.h.far (by show N≠N+1;omega) _,h.d.far (by show N≠N+2;omega) _,h.p.far (by show N≠N+3;omega) (by show N<N+4;omega) _⟩
noncomputable def least (P:Nat->Prop):Nat:=Classical.epsilon fun m=>P m/\∀n,P n->m<=n
theorem oU{P:Nat->Prop}{n:Nat}(h:P n):P (least P)/\∀n,P n->least P<=n:=by
 have hex:∀(k n:Nat),n<k->P n->∃m,P m/\∀n,P n->m<=n:=by
  intro k
  induction k with
  | zero=>intro n hn _;omega
  | succ k ih=>
    intro n hn hp;by_cases hc:∃d,d<n/\P d
    · obtain⟨d,hd,hpd⟩:=hc;exact ih d (by omega) hpd
    · refine⟨n,hp,fun d hd=> ?_⟩;rcases zbF d n with h1|h1
      · exact absurd ⟨d,h1,hd⟩ hc
      · exact h1
 exact Classical.epsilon_spec (hex (n+1) n (zbt n) h)
structure fc(w:World)(O base i:Nat)(f:Nat->Way):Prop where
 row:∀j,j<i->∃v,w.cell? ⟨O,j*2,none⟩=some (.int .i64 (f j).cost)/\w.cell? ⟨O,j*2+1,none⟩=some v/\SlR aI w (fun k=>O<k/\k<base) v (f j).hops/\inR (f j).cost
 there:∀o,o<24->∃u,w.cell? ⟨O,o,none⟩=some u
 fz:∀o,w.frozen? ⟨O,o,none⟩=false
 lt:O<base
theorem fc.keep{w w':World}{O base i:Nat}{f:Nat->Way}(h:fc w O base i f)(hk:∀k,O<=k->k<base->w'.heap[k]? =w.heap[k]?):fc w' O base i f:=by
 have hO:=hk O (zab _) h.lt;refine⟨fun j hj=> ?_,fun o ho=> ?_,fun o=>(zaK (w:=w) hO).trans (h.fz o),h.lt⟩
 · obtain⟨v,h1,h2,h3,h4⟩:=h.row j hj;exact⟨v,(zav (w:=w) hO).trans h1,(zav (w:=w) hO).trans h2,SlR.keep h3 (fun k hq=>hk k (by omega) hq.2) (fun _ hq=>hq),h4⟩
 · obtain⟨u,hu⟩:=h.there o ho;exact⟨u,(zav (w:=w) hO).trans hu⟩
theorem fc.set{w:World}{O base i:Nat}{f:Nat->Way}(h:fc w O base i f){o:Nat}(ho:i*2<=o)(hl:o<24)(u:Value):fc (w.setCell ⟨O,o,none⟩ u) O base i f:=by
 refine⟨fun j hj=> ?_,fun p hp=> ?_,fun p=>by rw[zaz];exact h.fz p,h.lt⟩
 · obtain⟨v,h1,h2,h3,h4⟩:=h.row j hj;refine⟨v,?_,?_,SlR.keep h3 (fun k hq=>zao _ _ _ _ (by show k≠O;omega)) (fun _ hq=>hq),h4⟩
   · rw[zaj _ _ _ _ (by intro e;injection e with _ e _;omega)];exact h1
   · rw[zaj _ _ _ _ (by intro e;injection e with _ e _;omega)];exact h2
 · obtain⟨x,hx⟩:=h.there p hp;by_cases e:o=p
   · subst e;exact⟨u,zaJ w _ u (by rw[hx];rfl)⟩
   · rw[zaj _ _ _ _ (by intro e2;injection e2 with _ e2 _;exact e e2)];exact⟨x,hx⟩
theorem fc.step{w:World}{O base base' i:Nat}{f:Nat->Way}(h:fc w O base i f){v:Value}(h1:w.cell? ⟨O,i*2,none⟩=some (.int .i64 (f i).cost))(h2:w.cell? ⟨O,i*2+1,none⟩=some v)(h3:SlR aI w (fun k=>O<k/\k<base') v (f i).hops)(h4:inR (f i).cost)(hb:base<=base'):fc w O base' (i+1) f:=by
 refine⟨fun j hj=> ?_,h.there,h.fz,by have:=h.lt;omega⟩;by_cases e:j=i
 · subst e;exact⟨v,h1,h2,h3,h4⟩
 · obtain⟨v,g1,g2,g3,g4⟩:=h.row j (by omega);exact⟨v,g1,g2,SlR.keep g3 (fun _ _=>rfl) (fun k hq=>⟨hq.1,by omega⟩),g4⟩
theorem fc.sl{w:World}{O base c:Nat}{f:Nat->Way}(h:fc w O base 12 f)(hb:base<=w.heap.size)(hc:12<=c)(hm:c<=maxLen):Sl pM w (.slice (some ⟨O,0,none⟩) 12 c) ((List.range 12).map f):=by
 refine⟨some ⟨O,0,none⟩,c,by simp,by simp;exact hc,hm,fun i x hx=> ?_⟩;have hi:i<12:=by
  have:=(zaT.1 hx).1;simpa using this
 have hx':x=f i:=by
  rw[zbN,zcj hi]at hx;simpa using hx.symm
 subst hx';obtain⟨v,h1,h2,h3,h4⟩:=h.row i hi;refine⟨O,0,[.int .i64 (f i).cost,v],rfl,by have:=h.lt;omega,by have:=h.lt;omega,⟨v,rfl,SlR.keep h3 (fun _ _=>rfl) (fun k hq=>by omega),h4⟩,fun j u hu=> ?_⟩
 match j,hu with
 | 0,hu=>simp at hu;subst hu;rw[zbb];exact h1
 | 1,hu=>simp at hu;subst hu;rw[zbb];exact h2
 | j+2,hu=>simp at hu
end
section
open Go
theorem yq{C:Nat->Nat->Nat}{s n k:Nat}{st:Ds}(h:C n k=0∨1048576<gI st.cost n+C n k∨k=s):g8 C s n st k=st:=by
 unfold g8;rw[if_pos h]
theorem uA{C:Nat->Nat->Nat}{s n k:Nat}{st:Ds}(h:¬ (C n k=0∨1048576<gI st.cost n+C n k∨k=s))(h1:gI st.cost n+C n k<gI st.cost k):
  g8 C s n st k={cost:=st.cost.set k (gI st.cost n+C n k),hops:=st.hops.set k (ip s n k st),done:=st.done,heap:=ic st.heap ⟨k,gI st.cost n+C n k⟩}:=by
 unfold g8;rw[if_neg h,if_pos h1]
theorem yp{C:Nat->Nat->Nat}{s n k:Nat}{st:Ds}(h:¬ (C n k=0∨1048576<gI st.cost n+C n k∨k=s))(h1:gI st.cost n+C n k=gI st.cost k):
  g8 C s n st k={st with hops:=st.hops.set k (gN st.hops k|||ip s n k st)}:=by
 unfold g8;rw[if_neg h,if_neg (by omega),if_pos h1]
theorem re{C:Nat->Nat->Nat}{s n k:Nat}{st:Ds}(h1:gI st.cost k<gI st.cost n+C n k):g8 C s n st k=st:=by
 unfold g8;split
 · rfl
 · rw[if_neg (by omega),if_neg (by omega)]
theorem Inv.hi{C:Nat->Nat->Nat}{D:Nat->Bool}{s:Nat}{R:Nat->Nat->Prop}{st:Ds}(h:Inv C D s R st){i:Nat}(hi:i<12):gI st.cost i<=1048577:=by
 by_cases e:i=s
 · subst e;rw[h.cs];omega
 · rcases h.snd i hi e with⟨h1,_⟩|⟨_,h1,_⟩
   · omega
   · omega
theorem B8{C:Nat->Nat->Nat}{D:Nat->Bool}{s n k:Nat}{R:Nat->Nat->Prop}{st:Ds}(h:Inv C D s R st)(hk:k<12):ip s n k st<4096:=by
 unfold ip;split
 · exact zas (Nat.pow_lt_pow_right (by omega) hk) (by decide)
 · exact h.h12 n
theorem By(a b:Nat)(ha:a<4096)(hb:b<4096):bits .or .i64 (a:Int) (b:Int)=((a|||b:Nat):Int):=by
 have hx:a|||b<2^12:=Nat.or_lt_two_pow (by omega) (by omega);have h1:(BitVec.ofInt 64 (a:Int)).toNat=a:=by
  rw[BitVec.ofInt_natCast,BitVec.toNat_ofNat];exact Nat.mod_eq_of_lt (by omega)
 have h2:(BitVec.ofInt 64 (b:Int)).toNat=b:=by
  rw[BitVec.ofInt_natCast,BitVec.toNat_ofNat];exact Nat.mod_eq_of_lt (by omega)
 show IntKind.i64.wrap ((BitVec.ofInt 64 (a:Int)|||BitVec.ofInt 64 (b:Int)).toNat:Int)=_;rw[BitVec.toNat_or,h1,h2,IntKind.wrap_i64];omega
theorem u7(a:Nat)(ha:a<4096):bits .and .i64 (a:Int) 1=((a%2:Nat):Int):=by
 have h1:(BitVec.ofInt 64 (a:Int)).toNat=a:=by
  rw[BitVec.ofInt_natCast,BitVec.toNat_ofNat];exact Nat.mod_eq_of_lt (by omega)
 have h2:(BitVec.ofInt 64 (1:Int)).toNat=1:=by decide
 show IntKind.i64.wrap ((BitVec.ofInt 64 (a:Int)&&&BitVec.ofInt 64 (1:Int)).toNat:Int)=_;rw[BitVec.toNat_and,h1,h2,Nat.and_one_is_mod,IntKind.wrap_i64];omega
theorem Df{k:Nat}(hk:k<12):IntKind.i64.wrap ((2:Int)^k)=((2^k:Nat):Int):=by
 have h1:(2:Nat)^k<4096:=zas (Nat.pow_lt_pow_right (by omega) hk) (by decide);have h2:((2:Int)^k)=((2^k:Nat):Int):=by rw[Int.natCast_pow];rfl
 rw[h2,IntKind.wrap_i64];generalize 2^k=m at h1⊢;omega
theorem xN(f k:Nat):(f:Int)/2^k=((f/2^k:Nat):Int):=by
 have h2:((2:Int)^k)=((2^k:Nat):Int):=by rw[Int.natCast_pow];rfl
 rw[h2,Int.natCast_ediv]
theorem yB(f k:Nat):f.testBit k=true↔f/2^k%2=1:=by
 rw[Nat.testBit_eq_decide_div_mod_eq];simp
theorem Cl(f k:Nat)(hf:f<4096):f/2^k<4096:=Nat.lt_of_le_of_lt (Nat.div_le_self _ _) hf
theorem pA{f k:Nat}(h:f/2^k%2=1):d8 f (k+1)=d8 f k++[(k:Int)]:=by
 show(if f.testBit k=true then _ else _)=_;rw[if_pos ((yB f k).2 h)]
theorem rA{f k:Nat}(h:¬ f/2^k%2=1):d8 f (k+1)=d8 f k:=by
 show(if f.testBit k=true then _ else _)=_;rw[if_neg (fun e=>h ((yB f k).1 e))]
end
section
open Go Go.RowKit Go.Deep
structure Gr(w:World)(G:Nat)(g:Gph):Prop where
 cost:∀i j,i<12->j<12->w.cell? ⟨G,i*12+j,none⟩=some (.int .i64 (g.C i j))
 drn:∀i,i<12->w.cell? ⟨G,144+i,none⟩=some (.bool (g.D i))
 prf:∀i,i<12->∃v,w.cell? ⟨G,156+i,none⟩=some v/\SlF aA (G+1) w v (g.P i)
 fz:∀o,w.frozen? ⟨G,o,none⟩=false
 lt:G<w.heap.size
theorem Gr.keep{w w':World}{G:Nat}{g:Gph}(h:Gr w G g)(hk:∀k,G<=k->k<w.heap.size->w'.heap[k]? =w.heap[k]?)(hs:w.heap.size<=w'.heap.size):Gr w' G g:=by
 have hG:=hk G (zab _) h.lt;refine⟨fun i j hi hj=>(zav (w:=w) hG).trans (h.cost i j hi hj),fun i hi=>(zav (w:=w) hG).trans (h.drn i hi),fun i hi=> ?_,fun o=>(zaK (w:=w) hG).trans (h.fz o),zas h.lt hs⟩;obtain⟨v,h1,h2⟩:=h.prf i hi;exact⟨v,(zav (w:=w) hG).trans h1,SlR.keep h2 (fun k hq=>hk k (by omega) hq.1) (fun k hq=>⟨by omega,hq.2⟩)⟩
theorem Gr.below{w w':World}{G:Nat}{g:Gph}(h:Gr w G g)(hb:Below w.heap.size w w'):Gr w' G g:=h.keep (fun k _ hk=>hb.block k hk) hb.size
theorem Gr.eq{w:World}{G:Nat}{g g':Gph}(h:Gr w G g)(hc:∀a b,a<12->b<12->g'.C a b=g.C a b)(hd:∀a,a<12->g'.D a=g.D a)(hp:∀a,a<12->g'.P a=g.P a):Gr w G g':=
 ⟨fun i j hi hj=>by rw[hc i j hi hj];exact h.cost i j hi hj,fun i hi=>by rw[hd i hi];exact h.drn i hi,fun i hi=>by rw[hp i hi];exact h.prf i hi,h.fz,h.lt⟩
theorem kZ{w:World}{G o:Nat}{v u:Value}{l:List ae}(h:SlF aA (G+1) w v l):SlF aA (G+1) (w.setCell ⟨G,o,none⟩ u) v l:=
 SlR.keep h (fun k hk=>zao _ _ _ _ (by show k≠G;omega)) (fun k hk=>⟨by simp[World.setCell];exact hk.1,hk.2⟩)
theorem Gr.setC{w:World}{G:Nat}{g:Gph}(h:Gr w G g){n m:Nat}(hn:n<12)(hm:m<12)(x:Int):Gr (w.setCell ⟨G,n*12+m,none⟩ (.int .i64 x)) G {g with C:=dN g.C n m x}:=by
 refine⟨fun a b ha hb=> ?_,fun a ha=> ?_,fun a ha=> ?_,fun o=>by rw[zaz];exact h.fz o,by simp[World.setCell];exact h.lt⟩
 · show _=some (Value.int .i64 (dN g.C n m x a b));unfold dN;by_cases e:a=n/\b=m
   · obtain⟨rfl,rfl⟩:=e;rw[if_pos ⟨rfl,rfl⟩];exact zaJ w _ _ (by rw[h.cost a b ha hb];rfl)
   · rw[if_neg e,zaj w _ _ _ (by intro e2;injection e2 with _ e3 _;exact e (by omega))];exact h.cost a b ha hb
 · rw[zaj w _ _ _ (by intro e2;injection e2 with _ e3 _;omega)];exact h.drn a ha
 · obtain⟨v,h1,h2⟩:=h.prf a ha;exact⟨v,by rw[zaj w _ _ _ (by intro e2;injection e2 with _ e3 _;omega)];exact h1,kZ h2⟩
theorem Gr.setD{w:World}{G:Nat}{g:Gph}(h:Gr w G g){n:Nat}(hn:n<12)(x:Bool):Gr (w.setCell ⟨G,144+n,none⟩ (.bool x)) G {g with D:=fun a=>if a=n then x else g.D a}:=by
 refine⟨fun a b ha hb=> ?_,fun a ha=> ?_,fun a ha=> ?_,fun o=>by rw[zaz];exact h.fz o,by simp[World.setCell];exact h.lt⟩
 · rw[zaj w _ _ _ (by intro e2;injection e2 with _ e3 _;omega)];exact h.cost a b ha hb
 · show _=some (Value.bool (if a=n then x else g.D a));by_cases e:a=n
   · subst e;rw[if_pos rfl];exact zaJ w _ _ (by rw[h.drn a ha];rfl)
   · rw[if_neg e,zaj w _ _ _ (by intro e2;injection e2 with _ e3 _;omega)];exact h.drn a ha
 · obtain⟨v,h1,h2⟩:=h.prf a ha;exact⟨v,by rw[zaj w _ _ _ (by intro e2;injection e2 with _ e3 _;omega)];exact h1,kZ h2⟩
theorem Gr.setP{w:World}{G:Nat}{g:Gph}(h:Gr w G g){n:Nat}(hn:n<12){v:Value}{l:List ae}(hv:SlF aA (G+1) w v l):Gr (w.setCell ⟨G,156+n,none⟩ v) G {g with P:=fun a=>if a=n then l else g.P a}:=by
 refine⟨fun a b ha hb=> ?_,fun a ha=> ?_,fun a ha=> ?_,fun o=>by rw[zaz];exact h.fz o,by simp[World.setCell];exact h.lt⟩
 · rw[zaj w _ _ _ (by intro e2;injection e2 with _ e3 _;omega)];exact h.cost a b ha hb
 · rw[zaj w _ _ _ (by intro e2;injection e2 with _ e3 _;omega)];exact h.drn a ha
 · show∃u,_/\SlF aA (G+1) _ u (if a=n then l else g.P a);by_cases e:a=n
   · subst e;rw[if_pos rfl];obtain⟨v0,h1,_⟩:=h.prf a ha;exact⟨v,zaJ w _ _ (by rw[h1];rfl),kZ hv⟩
   · rw[if_neg e];obtain⟨v0,h1,h2⟩:=h.prf a ha;exact⟨v0,by rw[zaj w _ _ _ (by intro e2;injection e2 with _ e3 _;omega)];exact h1,kZ h2⟩
theorem kH:Tryz.zeroCells178.toList=List.replicate 144 (.int .i64 0)++(List.replicate 12 (.bool false)++List.replicate 12 (.slice none 0 0)):=by kernel_rfl
theorem CP:(List.replicate 144 (Value.int .i64 0)++(List.replicate 12 (Value.bool false)++List.replicate 12 (Value.slice none 0 0))).length=168:=by
 rw[zaq,zaq,List.length_replicate,List.length_replicate,List.length_replicate]
theorem Ay(w:World)(G:Nat)(ht:w.there G 0 168):(storeCells ⟨G,0,none⟩ Tryz.zeroCells178.toList).run Tryz.prog w= .ok () (w.setCells G 0 Tryz.zeroCells178.toList):=by
 have hl:Tryz.zeroCells178.toList.length=168:=by rw[kH];exact CP
 refine run_storeCells_cells (P:=Tryz.prog) G 0 _ 0 w (fun j hj=> ?_) (fun j hj=> ?_) (fun v hv=> ?_)
 · have:=(ht j (by omega)).1;simpa using this
 · have:=(ht j (by omega)).2;simpa using this
 · rw[kH]at hv;rcases zbd.1 hv with h|h
   · rw[(List.mem_replicate.1 h).2];rfl
   · rcases zbd.1 h with h|h
     · rw[(List.mem_replicate.1 h).2];rfl
     · rw[(List.mem_replicate.1 h).2];rfl
theorem CQ{w:World}{G:Nat}(ht:w.there G 0 168)(hl:G<w.heap.size)(hf:∀o,w.frozen? ⟨G,o,none⟩=false):Gr (w.setCells G 0 Tryz.zeroCells178.toList) G EI:=by
 have hz:∀j,(hj:j<168)->(w.setCells G 0 Tryz.zeroCells178.toList).cell? ⟨G,j,none⟩=(List.replicate 144 (Value.int .i64 0)++(List.replicate 12 (.bool false)++List.replicate 12 (.slice none 0 0)))[j]? :=by
  intro j hj;rw[kH];have:=World.cell?_setCells_in G (List.replicate 144 (Value.int .i64 0)++(List.replicate 12 (.bool false)++List.replicate 12 (.slice none 0 0))) 0 w (fun j hj=>(ht j (by rw[CP]at hj;exact hj)).1) j (by rw[CP];exact hj);rw[zbb]at this;rw[this,zad]
 refine⟨fun i j hi hj=> ?_,fun i hi=> ?_,fun i hi=>⟨.slice none 0 0,?_,SlF.nil _ _ _⟩,fun o=>by rw[World.frozen?_setCells];exact hf o,?_⟩
 · rw[hz _ (by omega),zbi (by simp;omega),zbE,if_pos (by omega)];rfl
 · rw[hz _ (by omega),zba (by simp),zbi (by simp;omega),zbE,if_pos (by simp;omega)];rfl
 · rw[hz _ (by omega),zba (by simp;omega),zba (by simp;omega),zbE,if_pos (by simp;omega)]
 · have:=(World.keptBut_setCells G (may:=fun p=>p.block=G) Tryz.zeroCells178.toList 0 w (fun _ _=>rfl)).size;omega
theorem pB{B:Nat}{w w':World}(h:Below B w w'){G:Nat}(hG:B<=G):∀(vs:List Value) (o:Nat),Below B w (w'.setCells G o vs):=by
 intro vs
 induction vs generalizing w' with
 | nil=>intro o;exact h
 | cons v r ih=>intro o;exact ih (h.setCell (p:=⟨G,o,none⟩) hG v) (o+1)
theorem ED(C:Nat->Nat->Int){i k a b:Nat}:(if(a=i/\b=k)∨(a=k/\b=i)then 0 else C a b)=dN (dN C i k 0) k i 0 a b:=by
 unfold dN;by_cases h1:a=k/\b=i
 · rw[if_pos (.inr h1),if_pos h1]
 · rw[if_neg h1];by_cases h2:a=i/\b=k
   · rw[if_pos (.inl h2),if_pos h2]
   · rw[if_neg (by rintro(e|e)<;>contradiction),if_neg h2]
theorem zO(v:Value)(xs:List ab)(G:Nat)(w0 w:World)(h:Sl aW w0 v xs)(hv:∀e∈xs,e.key.size<4294967281/\e.value.size<4294967281)(hE:Env w0)(hb:Below w0.heap.size w0 w)(hG:w0.heap.size<=G)(ht:w.there G 0 168)(hlt:G<w.heap.size)(hf:∀o,w.frozen? ⟨G,o,none⟩=false):
  Calls Tryz.prog 109 #[.pointer (some ⟨G,0,none⟩),v] w fun e w'=>e= .returned (.tuple #[])/\Gr w' G (mg xs)/\Below w0.heap.size w0 w':=by
 have hl:=h.len_le;obtain⟨A,c,rfl⟩:=h.form;have H:=zaa h;have HG:=zaa hG;have HSZ:=zaa hv;have HE:=zaa hE;have hzr:=Ay w G ht;have HZ:=zaa (CQ ht hlt hf);have HB0:=zaa (pB hb hG Tryz.zeroCells178.toList 0);clear h hE hv ht hlt hf hb hG;go_enter Tryz.func109,Tryz.ntmps109
 go_wp2_with fail
 clear hzr;obtain⟨W,hW⟩:∃x,x=w.setCells G 0 Tryz.zeroCells178.toList:=⟨_,rfl⟩;rw[<-hW]at HZ HB0;rw[<-hW];clear hW;go_loopw [21] (fun i wr=>∃k:Nat,k<=xs.length/\i= .int .i64 k/\Gr wr G (bq xs k)/\Below w0.heap.size w0 wr) (fun i _=>xs.length-(intOf i).toNat)
 case atStart=>exact⟨0,zap _,rfl,HZ.out,HB0.out⟩
 case round=>
  obtain⟨k,hk,rfl,hg,hb⟩:=hrel;have HGR:=zaa hg;have HB:=zaa hb;clear hg hb HZ HB0;by_cases hlt:k<xs.length
  · (have hki:(k:Int)<(xs.length:Int):=by omega);obtain⟨bk,off,rfl,hbk⟩:=H.out.at_ hlt;obtain⟨f1,f2,f3,f4,f5⟩:=(H.out.below HB.out).ent hlt;have HSK:=zaa (HSZ.out _ (zaw hlt));have HGS:=zaa (ky hlt);obtain⟨m,hml⟩:=(HE.out.below HB.out).maxl;have HML:=zaa hml;have hcut:=fun w hm=>Tryz.strings_Cut xs[k].key ⟨#[58]⟩ m w HSK.out.1 hm;have hce:Lib.cut xs[k].key.data.toList ((⟨#[58]⟩:ByteArray)).data.toList=cQ 58 xs[k].key.data.toList:=Cr 58 _;rw[hce]at hcut;(have hy:(bOf (cQ 58 xs[k].key.data.toList).2.1).size<=281474976710656:=by rw[bf];have h1:=(po 58 xs[k].key.data.toList).2;have h2:=HSK.out.1;have h3:=aC xs[k].key;omega);have hnm:=fun w hE=>jx (bOf (cQ 58 xs[k].key.data.toList).2.1) 11 w hy ⟨by decide,by decide⟩ hE;rw[cG]at hnm;have hal:=(zac wr.heap.size wr).alloc (zab _) (.cells #[.string xs[k].key,.int .i64 xs[k].version,.int .i64 xs[k].origin,.string xs[k].value] 44);have HAL:=zaa hal;have HBA:=zaa (HB.out.trans (hal.mono HB.out.size));clear hce hy hml hal;rcases jq xs[k]with hneg|⟨n,hn,hnl⟩
    · have HSE:=zaa (show en (bq xs k) xs[k]=bq xs k by unfold en;rw[if_pos hneg]);have HC:=zaa hcut;have HN:=zaa hnm;unfold gE at hneg;clear hcut hnm;go_wp2_with (first
       | (go_at_call 146;refine(HC.out _ (aa HAL.out HML.out)).mono ?_;rintro e w1 ⟨rfl,n,rfl⟩)
       | (go_at_call 147;refine(HN.out _ (HE.out.below (ag HBA.out n))).mono ?_;rintro e w2 ⟨rfl,hb2⟩))
      have hb3:=(ag HAL.out n).trans (hb2.mono (ag HAL.out n).size);(go_roundw);(case rel=>exact⟨k+1,by omega,by go_num,by rw[HGS.out,HSE.out];exact HGR.out.below hb3,HB.out.trans (hb3.mono HB.out.size)⟩);case measure=>simp[intOf];omega
    · have hnn:ez 11 (cQ 58 xs[k].key.data.toList).2.1=n:=hn;have HSE:=zaa (show en (bq xs k) xs[k]=(if ik xs[k]=[97]then tj (bq xs k) n xs[k].value.data.toList else if ik xs[k]=[112]then xM (bq xs k) n xs[k].value.data.toList else bq xs k)from by
       unfold en
       rw[if_neg (by omega),hn];rfl)
      have hkd:(cQ 58 xs[k].key.data.toList).1=ik xs[k]:=rfl;rw[hkd]at hcut;rw[hnn]at hnm;have HC:=zaa hcut;have HN:=zaa hnm;(have hni:(n:Int)<12:=by omega);have HRA:=zaa (fun w hE=>vW xs[k].value w HSK.out.2 hE);have HRP:=zaa (fun w hE=>rY xs[k].value w HSK.out.2 hE);clear hcut hnm hkd hnn hn;generalize ik xs[k]=K at*;by_cases hk1:K=[97]
      · subst hk1;rw[if_pos rfl]at HSE;unfold tj at HSE;have HLC:=zaa (jm xs[k].value.data.toList);go_wp2_with (first
         | (go_at_call 146;refine(HC.out _ (aa HAL.out HML.out)).mono ?_;rintro e w1 ⟨rfl,j,rfl⟩)
         | (go_at_call 147;refine(HN.out _ (HE.out.below (ag HBA.out j))).mono ?_;rintro e w2 ⟨rfl,hb2⟩;obtain⟨hA1,hN1,hF1,hS1⟩:=aT (Below.trans (ag (zac _ _) j) hb2);have q3:w2.cell? ⟨wr.heap.size,3,none⟩=some (.string xs[k].value):=hN1 3;have HA1:=zaa hA1;have HB2:=zaa (HB.out.trans (hA1.mono HB.out.size));clear hb2 hN1 hF1 hS1 hA1)
         | (go_at_call 148;refine(HRA.out _ (HE.out.below HB2.out)).mono ?_;rintro e w3 ⟨v3,rfl,hv3,hb3⟩;obtain⟨A3,c3,rfl⟩:=hv3.sl.form;have HV3:=zaa hv3;have HB3:=zaa hb3;clear hv3 hb3))
        obtain⟨W3,hW3⟩:∃x,x=w3.alloc (.cells #[.bool (aJ xs[k].value.data.toList).1,.slice A3 (aJ xs[k].value.data.toList).2.1.length c3] 97):=⟨_,rfl⟩;obtain⟨B3,hB3⟩:∃x,x=w3.heap.size:=⟨_,rfl⟩;have hal3:=(zac w3.heap.size w3).alloc (zab _) (.cells #[.bool (aJ xs[k].value.data.toList).1,.slice A3 (aJ xs[k].value.data.toList).2.1.length c3] 97);have hsz2:=HA1.out.size;(have x0:W3.cell? ⟨B3,0,none⟩=some (.bool (aJ xs[k].value.data.toList).1):=by rw[hW3,hB3,zah _ _ _ _ rfl];rfl);(have x1:W3.cell? ⟨B3,1,none⟩=some (.slice A3 (aJ xs[k].value.data.toList).2.1.length c3):=by rw[hW3,hB3,zah _ _ _ _ rfl];rfl);have HX2:=zaa (show w0.heap.size<=B3 by rw[hB3];have:=HB2.out.size;have:=HB3.out.size;omega);have HX3:=zaa (show G≠B3 by rw[hB3];have:=HB3.out.size;have:=HGR.out.lt;omega);rw[<-hW3]at hal3;have HG3:=zaa (((HGR.out.below HA1.out).below HB3.out).below hal3);have HV4:=zaa ((hal3|>HV3.out.below).mono (show G+1<=w2.heap.size by have:=HGR.out.lt;omega));have HB4:=zaa ((HB2.out.trans (HB3.out.mono HB2.out.size)).trans (hal3.mono (by have:=HB2.out.size;have:=HB3.out.size;omega)));rw[<-hW3,<-hB3];clear hW3 hB3 hal3 hsz2 HV3 HB3;have y0:=HG3.out.drn n hnl;have y1:=HG3.out.fz (144+n);have hnl0:(0:Int)<=(n:Int):=zai n;clear q3 f1 f2 f3 f4 f5;generalize (aJ xs[k].value.data.toList).2.1=L at*;generalize (aJ xs[k].value.data.toList).1=d at*;generalize (aJ xs[k].value.data.toList).2.2=n3 at*;(go_region);(all_goals go_wp2_with fail);have HD4:=zaa ((HG3.out.setD hnl d).below (zac _ _).drew);have HB5:=zaa ((HB4.out.setCell (p:=⟨G,144+n,none⟩) HG.out (.bool d)).drew);have HV5:=zaa (show SlF dg (G+1) (W3.setCell ⟨G,144+n,none⟩ (.bool d)).drew (.slice A3 L.length c3) L from SlR.keep HV4.out (fun q hq=>zao _ _ _ _ (by show q≠G;omega)) (fun q hq=>⟨by simp[World.setCell,World.drew];exact hq.1,hq.2⟩));clear HG3 HB4 HV4 y0 y1 x0 x1;(go_loopw [55] (fun i wr=>∃j:Nat,j<=L.length/\i= .int .i64 j/\Gr wr G {C:=dF (bq xs k).C n (L.take j),D:=fun a=>if a=n then d else(bq xs k).D a,P:=(bq xs k).P}/\Below w0.heap.size w0 wr/\SlF dg (G+1) wr (.slice A3 L.length c3) L) (fun i _=>L.length-(intOf i).toNat));(case atStart=>exact⟨0,zap _,rfl,HD4.out,HB5.out,HV5.out⟩);case round=>
         clear HD4 HB5 HV5;obtain⟨j,hj,rfl,hg,hb,hv⟩:=hrel;have HGR2:=zaa hg;have HBB:=zaa hb;have HVV:=zaa hv;clear hg hb;have hll:=hv.sl.len_le;by_cases hjl:j<L.length
         · (have hji:(j:Int)<(L.length:Int):=by omega);obtain⟨b3,o3,rfl,hb3⟩:=hv.sl.at_ hjl;obtain⟨g1,g2,g3,g4⟩:=hv.sl.side hjl;obtain⟨l1,l2,l3,l4⟩:=ef HLC.out j hjl;obtain⟨m,hm⟩:∃m:Nat,L[j].node=m:=⟨L[j].node.toNat,by omega⟩;(have hml:m<12:=by omega);(have hmi:(m:Int)<12:=by omega);have hm0:(0:Int)<=(m:Int):=zai m;have HPS:=zaa (ka (C:=(bq xs k).C) (n:=n) hjl);have hs1:∀C,iF n C L[j]=if m=n then C else dN C n m L[j].cost:=by
            intro C;unfold iF;rw[hm];by_cases e:m=n
            · rw[if_pos (by omega),if_pos e]
            · rw[if_neg (by omega),if_neg e];rfl
           have HS1:=zaa hs1;rw[hm]at g1;have hal:=(zac wr.heap.size wr).alloc (zab _) (.cells #[.int .i64 m,.int .i64 L[j].cost] 99);have HALS:=zaa hal;clear hs1 hv g3 g4 hal;generalize L[j].cost=cj at*;clear l1 l2 l3 l4 hm;by_cases e:m=n
           · (have eb:((m:Int) !=(n:Int))=false:=by rw[bne_eq_false_iff_eq];omega);have HE1:=zaa e;clear e;(go_wp2_with fail);(go_roundw);(case rel=>exact⟨j+1,by omega,by go_num,by rw[HPS.out,HS1.out,if_pos HE1.out];exact HGR2.out.below HALS.out,HBB.out.trans (HALS.out.mono HBB.out.size),HVV.out.below HALS.out⟩);case measure=>simp[intOf];omega
           · (have eb:((m:Int) !=(n:Int))=true:=by rw[bne_iff_ne];omega);have HE1:=zaa e;clear e;have HGR3:=zaa (HGR2.out.below HALS.out);have HBB3:=zaa (HBB.out.trans (HALS.out.mono HBB.out.size));have HVV3:=zaa (HVV.out.below HALS.out);(go_wp2_with fail);obtain⟨W4,hW4⟩:∃x,x=wr.alloc (.cells #[.int .i64 m,.int .i64 cj] 99):=⟨_,rfl⟩;obtain⟨B4,hB4⟩:∃x,x=wr.heap.size:=⟨_,rfl⟩;(have u0:W4.cell? ⟨B4,0,none⟩=some (.int .i64 m):=by rw[hW4,hB4,zah _ _ _ _ rfl];rfl);(have u1:W4.cell? ⟨B4,1,none⟩=some (.int .i64 cj):=by rw[hW4,hB4,zah _ _ _ _ rfl];rfl);rw[<-hW4]at HGR3 HBB3 HVV3;rw[<-hW4,<-hB4];clear hW4 hB4 g1 g2;have y0:=HGR3.out.cost n m hnl hml;have y1:=HGR3.out.fz (n*12+m);(go_region);(all_goals go_wp2_with fail);(go_roundw);(case rel=>exact⟨j+1,by omega,by go_num,by rw[HPS.out,HS1.out,if_neg HE1.out];exact(HGR3.out.setC hnl hml cj).below (zac _ _).drew,(HBB3.out.setCell (p:=⟨G,n*12+m,none⟩) HG.out _).drew,SlR.keep HVV3.out (fun q hq=>zao _ _ _ _ (by show q≠G;omega)) (fun q hq=>⟨by simp[World.setCell,World.drew];exact hq.1,hq.2⟩)⟩);case measure=>simp[intOf];omega
         · (have hji:¬ (j:Int)<(L.length:Int):=by omega);(obtain rfl:j=L.length:=by omega);clear hv;(go_wp2_with fail);(go_roundw);(case rel=>exact⟨k+1,by omega,by go_num,by rw[HGS.out,HSE.out];rw[zaN]at HGR2;exact HGR2.out,HBB.out⟩);case measure=>simp[intOf];omega
      · (have hk1b:(K==[97])=false:=by rw[beq_eq_false_iff_ne];exact hk1);rw[if_neg hk1]at HSE;by_cases hk2:K=[112]
        · subst hk2;rw[if_pos rfl]at HSE;clear hk1;unfold xM at HSE;have HE2:=zaa (fun n hn=>HGR.out.prf n hn);have HX3:=zaa (show G≠wr.heap.size by have:=HGR.out.lt;omega);go_wp2_with (first
           | (go_at_call 146;refine(HC.out _ (aa HAL.out HML.out)).mono ?_;rintro e w1 ⟨rfl,j,rfl⟩)
           | (go_at_call 147;refine(HN.out _ (HE.out.below (ag HBA.out j))).mono ?_;rintro e w2 ⟨rfl,hb2⟩;obtain⟨hA1,hN1,hF1,hS1⟩:=aT (Below.trans (ag (zac _ _) j) hb2);have q3:w2.cell? ⟨wr.heap.size,3,none⟩=some (.string xs[k].value):=hN1 3;have HA1:=zaa hA1;have HB2:=zaa (HB.out.trans (hA1.mono HB.out.size));clear hb2 hN1 hF1 hS1 hA1)
           | fail)
          have HG2:=zaa (HGR.out.below HA1.out);have hsz2:=HG2.out.lt;clear f1 f2 f3 f4 f5;(go_region_with (go_at_call 149;refine(HRP.out _ (HE.out.below HB2.out.drew)).mono ?_;rintro e w3 ⟨v3,rfl,hv3,hb3⟩;obtain⟨A3,c3,rfl⟩:=hv3.sl.form;have hb4:=Below.trans ((zac w2.heap.size w2).drew) hb3;have HV3:=zaa (hv3.mono (show G+1<=w2.drew.heap.size from hsz2));have HB4:=zaa hb4;have HG4:=zaa (HG2.out.below hb4);obtain⟨v0,p0,_⟩:=HG4.out.prf n hnl;have p1:=HG4.out.fz (156+n);have p2:=aa hb4 q3;clear hv3 hb3 hb4));(all_goals go_wp2_with fail);all_goals
           (go_roundw);(case rel=>exact⟨k+1,by omega,by go_num,by rw[HGS.out,HSE.out];exact HG4.out.setP hnl HV3.out,(HB2.out.trans (HB4.out.mono HB2.out.size)).setCell (p:=⟨G,156+n,none⟩) HG.out _⟩);case measure=>simp[intOf];omega
        · (have hk2b:(K==[112])=false:=by rw[beq_eq_false_iff_ne];exact hk2);rw[if_neg hk2]at HSE;clear hk1 hk2;go_wp2_with (first
           | (go_at_call 146;refine(HC.out _ (aa HAL.out HML.out)).mono ?_;rintro e w1 ⟨rfl,j,rfl⟩)
           | (go_at_call 147;refine(HN.out _ (HE.out.below (ag HBA.out j))).mono ?_;rintro e w2 ⟨rfl,hb2⟩;obtain⟨hA1,hN1,hF1,hS1⟩:=aT (Below.trans (ag (zac _ _) j) hb2);have q3:w2.cell? ⟨wr.heap.size,3,none⟩=some (.string xs[k].value):=hN1 3;have HA1:=zaa hA1;have HB2:=zaa (HB.out.trans (hA1.mono HB.out.size));clear hb2 hN1 hF1 hS1 hA1)
           | fail)
          (go_roundw);(case rel=>exact⟨k+1,by omega,by go_num,by rw[HGS.out,HSE.out];exact HGR.out.below HA1.out,HB2.out⟩);case measure=>simp[intOf];omega
  · (have hki:¬ (k:Int)<(xs.length:Int):=by omega);(obtain rfl:k=xs.length:=by omega);have HG0:=zaa (HGR.out.eq (g':={C:=da (bq xs xs.length).C 0 0,D:=(bq xs xs.length).D,P:=(bq xs xs.length).P}) (fun a b _ _=>AQ) (fun _ _=>rfl) (fun _ _=>rfl));have HFIN:=zaa (show mg xs={C:=lO (bq xs xs.length).C,D:=(bq xs xs.length).D,P:=(bq xs xs.length).P}from rfl);clear HGR;generalize bq xs xs.length=g at*;obtain⟨C,D,P⟩:=g;(go_wp2_with fail);(go_loopw [88] (fun u wr=>∃i:Nat,i<=12/\u= .int .i64 i/\Gr wr G {C:=da C i 0,D:=D,P:=P}/\Below w0.heap.size w0 wr) (fun u _=>12-(intOf u).toNat));(case atStart=>exact⟨0,zap _,rfl,HG0.out,HB.out⟩);case round=>
     clear HG0 HB;obtain⟨i,hi,rfl,hg,hb⟩:=hrel;have HG1:=zaa hg;have HB1:=zaa hb;clear hg hb;by_cases hil:i<12
     · (have hii:(i:Int)<12:=by omega);have hi0:(0:Int)<=(i:Int):=zai i;(go_wp2_with fail);(go_loopw [92] (fun u wr=>∃k:Nat,k<=i/\u= .int .i64 k/\Gr wr G {C:=da C i k,D:=D,P:=P}/\Below w0.heap.size w0 wr) (fun u _=>i-(intOf u).toNat));(case atStart=>exact⟨0,zap _,rfl,HG1.out,HB1.out⟩);case round=>
        clear HG1 HB1;obtain⟨k,hk,rfl,hg,hb⟩:=hrel;have HG1:=zaa hg;have HB1:=zaa hb;clear hg hb;by_cases hkl:k<i
        · (have hki:(k:Int)<(i:Int):=by omega);(have hk12:k<12:=by omega);(have hki2:(k:Int)<12:=by omega);have hk0:(0:Int)<=(k:Int):=zai k;(have e1:da C i k i k=C i k:=by unfold da;rw[if_neg (fun h=>by omega)]);(have e2:da C i k k i=C k i:=by unfold da;rw[if_neg (fun h=>by omega)]);have y0:wr.cell? ⟨G,i*12+k,none⟩=some (.int .i64 (C i k)):=by
           have h:=HG1.out.cost i k hil hk12;rw[show({C:=da C i k,D:=D,P:=P}:Gph).C i k=C i k from e1]at h;exact h
          have y1:wr.cell? ⟨G,k*12+i,none⟩=some (.int .i64 (C k i)):=by
           have h:=HG1.out.cost k i hk12 hil;rw[show({C:=da C i k,D:=D,P:=P}:Gph).C k i=C k i from e2]at h;exact h
          have y2:=HG1.out.fz (i*12+k);have y3:=HG1.out.fz (k*12+i);clear e1 e2;by_cases c1:C i k=0
          · have HSC:=zaa (fun a b=>xK (C:=C) (a:=a) (b:=b) (.inl c1) hkl);(have d1:(C i k==0)=true:=by rw[beq_iff_eq];exact c1);clear c1;(go_wp2_with fail);(go_region);(all_goals go_wp2_with fail);(go_roundw);(case rel=>exact⟨k+1,by omega,by go_num,(((HG1.out.setC hil hk12 0).setC hk12 hil 0).eq (g':={C:=da C i (k+1),D:=D,P:=P}) (fun a b _ _=>by show da C i (k+1) a b=_;rw[HSC.out a b];exact ED (da C i k)) (fun _ _=>rfl) (fun _ _=>rfl)).below (zac _ _).drew,((HB1.out.setCell (p:=⟨G,i*12+k,none⟩) HG.out _).setCell (p:=⟨G,k*12+i,none⟩) HG.out _).drew⟩);case measure=>simp[intOf];omega
          · (have d1:(C i k==0)=false:=by rw[beq_eq_false_iff_ne];exact c1);by_cases c2:C k i=0
            · have HSC:=zaa (fun a b=>xK (C:=C) (a:=a) (b:=b) (.inr c2) hkl);(have d2:(C k i==0)=true:=by rw[beq_iff_eq];exact c2);clear c1 c2;(go_wp2_with fail);(go_region);(all_goals go_wp2_with fail);(go_roundw);(case rel=>exact⟨k+1,by omega,by go_num,(((HG1.out.setC hil hk12 0).setC hk12 hil 0).eq (g':={C:=da C i (k+1),D:=D,P:=P}) (fun a b _ _=>by show da C i (k+1) a b=_;rw[HSC.out a b];exact ED (da C i k)) (fun _ _=>rfl) (fun _ _=>rfl)).below (zac _ _).drew,((HB1.out.setCell (p:=⟨G,i*12+k,none⟩) HG.out _).setCell (p:=⟨G,k*12+i,none⟩) HG.out _).drew⟩);case measure=>simp[intOf];omega
            · have HSC:=zaa (fun a b=>AR (C:=C) (a:=a) (b:=b) (show ¬ (C i k=0∨C k i=0)by rintro(e|e)<;>contradiction) hkl);(have d2:(C k i==0)=false:=by rw[beq_eq_false_iff_ne];exact c2);clear c1 c2;(go_wp2_with fail);(go_roundw);(case rel=>exact⟨k+1,by omega,by go_num,HG1.out.eq (fun a b _ _=>HSC.out a b) (fun _ _=>rfl) (fun _ _=>rfl),HB1.out⟩);case measure=>simp[intOf];omega
        · (have hki:¬ (k:Int)<(i:Int):=by omega);(obtain rfl:k=i:=by omega);(go_wp2_with fail);(go_roundw);(case rel=>exact⟨k+1,by omega,by go_num,HG1.out.eq (fun a b _ _=>C3) (fun _ _=>rfl) (fun _ _=>rfl),HB1.out⟩);case measure=>simp[intOf];omega
     · (have hii:¬ (i:Int)<12:=by omega);(obtain rfl:i=12:=by omega);have HGF:=zaa (HG1.out.eq (g':=mg xs) (fun a b ha hb=>by rw[HFIN.out];exact(C4 ha hb).symm) (fun _ _=>by rw[HFIN.out]) (fun _ _=>by rw[HFIN.out]));(go_wp2_with fail);refine bodyPost_end (v:= .tuple #[]) (by simp[results,Tryz.results109,go_sem]) rfl ?_;exact⟨rfl,HGF.out,HB1.out⟩
theorem wM{k:Nat}(hk:k<12)(a:Nat):(if a<k+1 then(1048577:Int)else 0)=if a=k then 1048577 else if a<k then 1048577 else 0:=by
 by_cases e:a=k
 · rw[if_pos e,if_pos (by omega)]
 · rw[if_neg e];by_cases e2:a<k
   · rw[if_pos e2,if_pos (by omega)]
   · rw[if_neg e2,if_neg (by omega)]
structure WIn(w:World)(N G:Nat)(g:Gph)(C:Nat->Nat->Nat):Prop where
 gr:Gr w G g
 lt:G<N
 sz:N=w.heap.size
 c:∀a b,a<12->b<12->g.C a b=(C a b:Nat)
 le:∀a b,C a b<=1000
theorem yO(w:World)(T:TypeId)(B:Nat)(hB:B=w.heap.size):Vec (w.alloc (.cells #[.int .i64 0,.int .i64 0,.int .i64 0,.int .i64 0,.int .i64 0,.int .i64 0,.int .i64 0,.int .i64 0,.int .i64 0,.int .i64 0,.int .i64 0,.int .i64 0] T)) B (fun _=>0):=by
 refine⟨fun i hi=> ?_,fun o=>zaL _ _ _ _ hB,by simp[hB]⟩;rw[zah _ _ _ _ hB]
 match i,hi with
 | 0,_|1,_|2,_|3,_|4,_|5,_|6,_|7,_|8,_|9,_|10,_|11,_=>rfl
 | n+12,h=>omega
def st0(s:Nat):Ds:=⟨(List.replicate 12 1048577).set s 0,List.replicate 12 0,List.replicate 12 false,[]⟩
theorem Cj{wr:World}{N s:Nat}(hs:s<12)(hv:Vec wr N (fun a=>if a<12 then 1048577 else 0))(hz:wr.heap.size=N+1)(T1 T2 T3:TypeId):
  gm ((((wr.setCell ⟨N,s,none⟩ (.int .i64 0)).alloc (.cells #[.int .i64 0,.int .i64 0,.int .i64 0,.int .i64 0,.int .i64 0,.int .i64 0,.int .i64 0,.int .i64 0,.int .i64 0,.int .i64 0,.int .i64 0,.int .i64 0] T1)).alloc (.cells #[.bool false,.bool false,.bool false,.bool false,.bool false,.bool false,.bool false,.bool false,.bool false,.bool false,.bool false,.bool false] T2)).alloc (.cells #[.slice none 0 0] T3)) N (st0 s)
  /\Below N wr ((((wr.setCell ⟨N,s,none⟩ (.int .i64 0)).alloc (.cells #[.int .i64 0,.int .i64 0,.int .i64 0,.int .i64 0,.int .i64 0,.int .i64 0,.int .i64 0,.int .i64 0,.int .i64 0,.int .i64 0,.int .i64 0,.int .i64 0] T1)).alloc (.cells #[.bool false,.bool false,.bool false,.bool false,.bool false,.bool false,.bool false,.bool false,.bool false,.bool false,.bool false,.bool false] T2)).alloc (.cells #[.slice none 0 0] T3)):=by
 have v0:=hv.set (m':=gI ((List.replicate 12 (1048577:Int)).set s 0)) hs 0 (fun a ha=>by
  rw[iP hs ha];by_cases e:a=s
  · rw[if_pos e,if_pos e.symm]
  · rw[if_neg e,if_neg (fun x=>e x.symm),if_pos ha])
 have b0:Below N wr (wr.setCell ⟨N,s,none⟩ (.int .i64 0)):=(zac N wr).setCell (p:=⟨N,s,none⟩) (zab _) _;have z0:(wr.setCell ⟨N,s,none⟩ (.int .i64 0)).heap.size=N+1:=by simp[World.setCell];exact hz
 generalize wr.setCell ⟨N,s,none⟩ (.int .i64 0)=w0 at*;have v1:=yO w0 T1 (N+1) z0.symm;have k1:=(zac w0.heap.size w0).alloc (zab _) (.cells #[.int .i64 0,.int .i64 0,.int .i64 0,.int .i64 0,.int .i64 0,.int .i64 0,.int .i64 0,.int .i64 0,.int .i64 0,.int .i64 0,.int .i64 0,.int .i64 0] T1);have z1:(w0.alloc (.cells #[.int .i64 0,.int .i64 0,.int .i64 0,.int .i64 0,.int .i64 0,.int .i64 0,.int .i64 0,.int .i64 0,.int .i64 0,.int .i64 0,.int .i64 0,.int .i64 0] T1)).heap.size=N+2:=by simp[z0]
 have v0':=v0.below k1;have b1:=b0.trans (k1.mono (by omega));generalize w0.alloc (.cells #[.int .i64 0,.int .i64 0,.int .i64 0,.int .i64 0,.int .i64 0,.int .i64 0,.int .i64 0,.int .i64 0,.int .i64 0,.int .i64 0,.int .i64 0,.int .i64 0] T1)=w1 at*;have v2:=rz w1 T2 (N+2) z1.symm;have k2:=(zac w1.heap.size w1).alloc (zab _) (.cells #[.bool false,.bool false,.bool false,.bool false,.bool false,.bool false,.bool false,.bool false,.bool false,.bool false,.bool false,.bool false] T2);have z2:(w1.alloc (.cells #[.bool false,.bool false,.bool false,.bool false,.bool false,.bool false,.bool false,.bool false,.bool false,.bool false,.bool false,.bool false] T2)).heap.size=N+3:=by simp[z1]
 have v0'':=v0'.below k2;have v1':=v1.below k2;have b2:=b1.trans (k2.mono (by omega));generalize w1.alloc (.cells #[.bool false,.bool false,.bool false,.bool false,.bool false,.bool false,.bool false,.bool false,.bool false,.bool false,.bool false,.bool false] T2)=w2 at*;have k3:=(zac w2.heap.size w2).alloc (zab _) (.cells #[.slice none 0 0] T3);refine⟨⟨v0''.below k3,(v1'.below k3).eq (fun a _=> ?_),(v2.below k3).eq (fun a _=>wN a),⟨⟨.slice none 0 0,?_,OwR.nil _ _ (by simp[z2])⟩,fun i=>zaL _ _ _ _ z2.symm,by omega⟩⟩,b2.trans (k3.mono (by omega))⟩
 · show((gN (List.replicate 12 0) a:Nat):Int)=0;rw[sx];rfl
 · rw[zah _ _ _ _ z2.symm];rfl
structure sI(w wr:World)(N s:Nat)(C:Nat->Nat->Nat)(D:Nat->Bool)(st:Ds):Prop where
 at_:gm wr N st
 bel:Below N w wr
 mu:mu st<=157
 inv:∃R,Inv C D s R st/\Cov C D s 0 12 R st
theorem Eu:cd (ini 0)=0:=by decide
theorem Ek(s:Nat):mu (ini s)=157:=by
 have h1:cd (ini s)=cd (ini 0):=rfl;have h2:(ini s).heap.length=1:=by unfold ini;simp only;rw[tI];rfl
 unfold mu;rw[h1,Eu,h2]
theorem jR{P Q:Nat->Prop}{m n:Nat}(hq:Q m)(hn:n=least P)(h:m<n):least Q<least P:=by
 rw[<-hn];exact Nat.lt_of_le_of_lt ((oU hq).2 m hq) h
theorem rP(vs:Array Value)(f:Nat->Int)(h:∀k,k<12->vs[k]? =some (.int .i64 (f k))){k:Nat}(hk:k<12)(w:World):
  (Instr.index 48 (.agg vs) (.int .i64 (k:Int))).run Tryz.prog w= .ok (.int .i64 (f k)) w:=by
 have hv:=h k hk;have z3:=Tryz.sizeOf3;have a3:=Tryz.isAgg3;have h0:(0:Int)<=(k:Int)/\(k:Int)<((12:Nat):Int):=by omega
 simp[Instr.index,run_underlying Tryz.underlying48,asIntOf,part,h0,hv,go_sem];intro h;omega
theorem tx{w:World}{G:Nat}{g:Gph}(h:Gr w G g){n:Nat}(hn:n<12):∃vs:List Value,(∀k,k<12->vs.toArray[k]? =some (.int .i64 (g.C n k)))/\
  (∀w':World,w'.heap[G]? =w.heap[G]? ->w'.rangeAt G (n*12) vs)/\(Tryz.prog.info? 48).map (·.size)=some vs.length:=by
 refine⟨((List.range 12).map fun k=>Value.int .i64 (g.C n k)),fun k hk=> ?_,fun w' hw=> ?_,by kernel_rfl⟩
 · rw[zaB,zbN,zcj hk];rfl
 · intro j v hv;have hj:j<12:=by
    have:=(zaT.1 hv).1;simpa using this
   rw[zbN,zcj hj]at hv;injection hv with hv;subst hv;exact(zav (w:=w) hw).trans (h.cost n j hn hj)
theorem vD{C:Nat->Nat->Nat}{D:Nat->Bool}{s:Nat}{st:Ds}(h:gD st.done (eR st)=true):ep C D s st={st with heap:=dJ st.heap}:=by
 unfold ep;rw[if_pos h]
theorem AU{C:Nat->Nat->Nat}{D:Nat->Bool}{s:Nat}{st:Ds}(h:gD st.done (eR st)=false)(h1:eR st≠s)(h2:D (eR st)=true):ep C D s st={st with heap:=dJ st.heap,done:=st.done.set (eR st) true}:=by
 unfold ep;rw[if_neg (by rw[h];simp),if_pos ⟨h1,h2⟩]
theorem ti{C:Nat->Nat->Nat}{D:Nat->Bool}{s:Nat}{st:Ds}(h:gD st.done (eR st)=false)(h1:eR st=s∨D (eR st)=false):ep C D s st=bP C s (eR st) {st with heap:=dJ st.heap,done:=st.done.set (eR st) true} 12:=by
 unfold ep;rw[if_neg (by rw[h];simp),if_neg];rintro⟨h2,h3⟩;rcases h1 with h1|h1
 · exact h2 h1
 · rw[h1]at h3;cases h3
theorem kM{w w':World}{N s:Nat}{C:Nat->Nat->Nat}{D:Nat->Bool}{st:Ds}(h:gm w' N (ep C D s st))(hb:Below N w w')(hm:mu st<=157)(hl:mu (ep C D s st)<mu st)(hi:∃R',Inv C D s R' (ep C D s st)/\Cov C D s 0 12 R' (ep C D s st)):sI w w' N s C D (ep C D s st):=
 ⟨h,hb,by omega,hi⟩
theorem El(w:World):(Instr.makeSlice 146 (.int .i64 12) (.int .i64 12)).run Tryz.prog w= .ok (.slice (some ⟨w.heap.size,0,none⟩) 12 12) (w.alloc (.cells #[.int .i64 0,.slice none 0 0,.int .i64 0,.slice none 0 0,.int .i64 0,.slice none 0 0,.int .i64 0,.slice none 0 0,.int .i64 0,.slice none 0 0,.int .i64 0,.slice none 0 0,.int .i64 0,.slice none 0 0,.int .i64 0,.slice none 0 0,.int .i64 0,.slice none 0 0,.int .i64 0,.slice none 0 0,.int .i64 0,.slice none 0 0,.int .i64 0,.slice none 0 0] 152)):=by kernel_rfl
theorem Bw(w:World)(T:TypeId)(B:Nat)(hB:B=w.heap.size)(f:Nat->Way):fc (w.alloc (.cells #[.int .i64 0,.slice none 0 0,.int .i64 0,.slice none 0 0,.int .i64 0,.slice none 0 0,.int .i64 0,.slice none 0 0,.int .i64 0,.slice none 0 0,.int .i64 0,.slice none 0 0,.int .i64 0,.slice none 0 0,.int .i64 0,.slice none 0 0,.int .i64 0,.slice none 0 0,.int .i64 0,.slice none 0 0,.int .i64 0,.slice none 0 0,.int .i64 0,.slice none 0 0] T)) B (B+1) 0 f:=by
 refine⟨fun j hj=>absurd hj (zce j),fun o ho=> ?_,fun o=>zaL _ _ _ _ hB,zbt B⟩;rw[zah _ _ _ _ hB]
 match o,ho with
 | 0,_|1,_|2,_|3,_|4,_|5,_|6,_|7,_|8,_|9,_|10,_|11,_|12,_|13,_|14,_|15,_|16,_|17,_|18,_|19,_|20,_|21,_|22,_|23,_=>exact⟨_,rfl⟩
 | n+24,h=>omega
theorem fc.wide{w:World}{O base base' i:Nat}{f:Nat->Way}(h:fc w O base i f)(hb:base<=base'):fc w O base' i f:=
 ⟨fun j hj=>by obtain⟨v,h1,h2,h3,h4⟩:=h.row j hj;exact⟨v,h1,h2,SlR.keep h3 (fun _ _=>rfl) (fun k hq=>⟨hq.1,by omega⟩),h4⟩,h.there,h.fz,by have:=h.lt;omega⟩
structure i8(w0 w:World)(O base k:Nat)(st:Ds)(j:Nat)(v:Value):Prop where
 c0:w.cell? ⟨O,k*2,none⟩=some (.int .i64 (fO st k))
 c1:w.cell? ⟨O,k*2+1,none⟩=some v
 ho:OwR aI 3 base w v (d8 (gN st.hops k) j)
 outs:fc w O base k (mT st)
 bel:Below O w0 w
theorem i8.step{w0 w w4:World}{O base k j:Nat}{st:Ds}{v v2:Value}{ob:Obj}(h:i8 w0 w O base k st j v)(hk:k<12)(hg:al (w.alloc ob) v w4 v2):
  w4.cell? ⟨O,k*2,none⟩=some (.int .i64 (fO st k))/\w4.cell? ⟨O,k*2+1,none⟩=some v/\(∀i,w4.frozen? ⟨O,i,none⟩=false)/\fc w4 O base k (mT st)/\Below O w0 w4:=by
 have hsz:base<=w.heap.size:=h.ho.choose_spec.2.2.2;have hO:O<base:=h.outs.lt;have hkeep:∀q,q<base->w4.heap[q]? =w.heap[q]? :=by
  intro q hq;rw[hg.grown.block q (by simp;omega) (fun e=>by have:=(h.ho.base_le q e.symm).1;omega)];exact zbf _ _ _ (by omega)
 have hs:=hkeep O hO;refine⟨(zav (w:=w) hs).trans h.c0,(zav (w:=w) hs).trans h.c1,fun i=>(zaK (w:=w) hs).trans (h.outs.fz i),h.outs.keep (fun q h1 h2=>hkeep q h2),?_⟩;have hb:=h.bel.alloc (show O<=w.heap.size by omega) ob;exact hb.grown hg.grown (by simp;omega) (fun q e=>by have:=(h.ho.base_le q e).1;omega)
theorem i8.next{w0 w4:World}{O base k j:Nat}{st:Ds}{u:Value}(hk:k<12){A:Option Addr}{n c:Nat}(h0:w4.cell? ⟨O,k*2,none⟩=some (.int .i64 (fO st k)))(h1:w4.cell? ⟨O,k*2+1,none⟩=some u)(ho:OwR aI 3 base w4 (.slice A n c) (d8 (gN st.hops k) j))(hu:fc w4 O base k (mT st))(hb:Below O w0 w4):
  i8 w0 (w4.setCell ⟨O,k*2+1,none⟩ (.slice A n c)) O base k st j (.slice A n c):=
 ⟨by rw[zaj _ _ _ _ (by intro e;injection e with _ e _;omega)];exact h0,
  zaJ w4 _ _ (by rw[h1];rfl),
  dW ho (p:=⟨O,k*2+1,none⟩) (by have:=hu.lt;exact this) _ (fun _ _ h=>h),hu.set (by omega) (by omega) _,hb.setCell (p:=⟨O,k*2+1,none⟩) (zab O) _⟩
theorem i8.done{w0 w:World}{O base k:Nat}{st:Ds}{v:Value}(h:i8 w0 w O base k st 12 v)(hr:inR (fO st k)):fc w O w.heap.size (k+1) (mT st):=by
 have hsz:base<=w.heap.size:=h.ho.choose_spec.2.2.2;refine h.outs.step h.c0 h.c1 (SlR.keep h.ho.slF (fun _ _=>rfl) (fun q hq=>⟨by have:=h.outs.lt;omega,hq.1⟩)) hr hsz
theorem fc.setLo{w:World}{O i:Nat}{f:Nat->Way}(h:fc w O w.heap.size i f)(hi:i<12)(u:Value):fc (w.setCell ⟨O,i*2,none⟩ u) O (w.setCell ⟨O,i*2,none⟩ u).heap.size i f/\(w.setCell ⟨O,i*2,none⟩ u).cell? ⟨O,i*2,none⟩=some u:=
 ⟨(h.set (by omega) (by omega) u).wide (by simp[World.setCell]),by obtain⟨x,hx⟩:=h.there (i*2) (by omega);exact zaJ w _ u (by rw[hx];rfl)⟩
theorem fc.setHi{w:World}{O i:Nat}{f:Nat->Way}(h:fc w O w.heap.size i f)(hi:i<12)(u:Value):fc (w.setCell ⟨O,i*2+1,none⟩ u) O (w.setCell ⟨O,i*2+1,none⟩ u).heap.size i f/\(w.setCell ⟨O,i*2+1,none⟩ u).cell? ⟨O,i*2+1,none⟩=some u:=
 ⟨(h.set (by omega) (by omega) u).wide (by simp[World.setCell]),by obtain⟨x,hx⟩:=h.there (i*2+1) (by omega);exact zaJ w _ u (by rw[hx];rfl)⟩
theorem Eg{w0 w:World}{O k:Nat}{st:Ds}(h:fc w O w.heap.size k (mT st))(hk:k<12)(hb:Below O w0 w)(hc:fO st k= -1):
  ∃base,i8 w0 ((w.setCell ⟨O,k*2,none⟩ (.int .i64 (-1))).setCell ⟨O,k*2+1,none⟩ (.slice none 0 0)) O base k st 0 (.slice none 0 0):=by
 obtain⟨h1,c1⟩:=h.setLo hk (.int .i64 (-1));have b1:=hb.setCell (p:=⟨O,k*2,none⟩) (zab O) (.int .i64 (-1));generalize w.setCell ⟨O,k*2,none⟩ (.int .i64 (-1))=w1 at*;obtain⟨h2,c2⟩:=h1.setHi hk (.slice none 0 0);have b2:=b1.setCell (p:=⟨O,k*2+1,none⟩) (zab O) (.slice none 0 0);refine⟨_,?_,c2,OwR.nil _ _ (zab _),h2,b2⟩;rw[zaj _ _ _ _ (by intro e;injection e with _ e _;omega),hc];exact c1
theorem C9{w0 w:World}{O k:Nat}{st:Ds}(h:fc w O w.heap.size k (mT st))(hk:k<12)(hb:Below O w0 w){x:Int}(hc:fO st k=x):
  ∃base,i8 w0 (((w.setCell ⟨O,k*2,none⟩ (.int .i64 (-1))).setCell ⟨O,k*2+1,none⟩ (.slice none 0 0)).setCell ⟨O,k*2,none⟩ (.int .i64 x)) O base k st 0 (.slice none 0 0):=by
 obtain⟨h1,_⟩:=h.setLo hk (.int .i64 (-1));have b1:=hb.setCell (p:=⟨O,k*2,none⟩) (zab O) (.int .i64 (-1));generalize w.setCell ⟨O,k*2,none⟩ (.int .i64 (-1))=w1 at*;obtain⟨h2,c2⟩:=h1.setHi hk (.slice none 0 0);have b2:=b1.setCell (p:=⟨O,k*2+1,none⟩) (zab O) (.slice none 0 0);generalize w1.setCell ⟨O,k*2+1,none⟩ (.slice none 0 0)=w2 at*;obtain⟨h3,c3⟩:=h2.setLo hk (.int .i64 x);have b3:=b2.setCell (p:=⟨O,k*2,none⟩) (zab O) (.int .i64 x);refine⟨_,?_,?_,OwR.nil _ _ (zab _),h3,b3⟩
 · rw[hc];exact c3
 · rw[zaj _ _ _ _ (by intro e;injection e with _ e _;omega)];exact c2
theorem Cs(st:Ds)(k:Nat)(h0:0<=gI st.cost k):inR (fO st k):=by unfold fO inR;split<;>omega
theorem zL(N G:Nat)(g:Gph)(C:Nat->Nat->Nat)(s:Nat)(w:World)(h:WIn w N G g C)(hs:s<12):
  Calls Tryz.prog 110 #[.pointer (some ⟨G,0,none⟩),.int .i64 s] w fun e w'=>∃v st R,e= .returned v/\Sl pM w' v ((List.range 12).map (mT st))/\Below N w w'/\Inv C g.D s R st/\Cov C g.D s 0 12 R st/\st.heap=[]:=by
 have hmk:=fun w=>BJ w;have HG:=zaa h;have hNS:N=w.heap.size:=h.sz;clear h;go_enter Tryz.func110,Tryz.ntmps110
 go_wp2_with fail
 rw[<-hNS];have HV0:=zaa (sR w N hNS);have HB0:=zaa ((zac N w).alloc (zbG hNS) (.cells #[.int .i64 0,.int .i64 0,.int .i64 0,.int .i64 0,.int .i64 0,.int .i64 0,.int .i64 0,.int .i64 0,.int .i64 0,.int .i64 0,.int .i64 0,.int .i64 0] 3));have HZ0:=zaa (show(w.alloc (.cells #[.int .i64 0,.int .i64 0,.int .i64 0,.int .i64 0,.int .i64 0,.int .i64 0,.int .i64 0,.int .i64 0,.int .i64 0,.int .i64 0,.int .i64 0,.int .i64 0] 3)).heap.size=N+1 by simp[hNS]);have HNS:=zaa hNS;clear hNS hmk;obtain⟨W,hW⟩:∃x,x=w.alloc (.cells #[.int .i64 0,.int .i64 0,.int .i64 0,.int .i64 0,.int .i64 0,.int .i64 0,.int .i64 0,.int .i64 0,.int .i64 0,.int .i64 0,.int .i64 0,.int .i64 0] 3):=⟨_,rfl⟩;rw[<-hW]at HV0 HB0 HZ0;rw[<-hW];clear hW;go_loopw [20] (fun i wr=>∃k:Nat,k<=12/\i= .int .i64 k/\Vec wr N (fun a=>if a<k then 1048577 else 0)/\Below N w wr/\wr.heap.size=N+1) (fun i _=>12-(intOf i).toNat)
 case atStart=>exact⟨0,zap _,rfl,HV0.out.eq (fun a _=>if_neg (zce a)),HB0.out,HZ0.out⟩
 case round=>
  clear HV0 HB0 HZ0;obtain⟨k,hk,rfl,hv,hb,hz⟩:=hrel;have HV:=zaa hv;have HB:=zaa hb;have HZ:=zaa hz;clear hv hb hz;by_cases hlt:k<12
  · (have hki:(k:Int)<12:=by omega);have c1:=HV.out.cell k hlt;have c2:=HV.out.fz k;(go_wp2_with fail);(go_roundw);(case rel=>exact⟨k+1,by omega,by go_num,HV.out.set hlt _ (fun a _=>wM hlt a),HB.out.setCell (p:=⟨N,k,none⟩) (zab _) _,by simp[World.setCell];exact HZ.out⟩);case measure=>simp[intOf];omega
  · (have hki:¬ (k:Int)<12:=by omega);(obtain rfl:k=12:=by omega);have c1:=HV.out.cell s hs;have c2:=HV.out.fz s;(have hsi:(s:Int)<12:=by omega);have hs0:(0:Int)<=(s:Int):=zai s;have HST:=zaa (Cj hs HV.out HZ.out 48 175 224);have HPU:=zaa (oE (N+3) (N+4) [] s 0 _ HST.out.1.p (by unfold inR;omega) (by unfold inR;omega) (zap _));(go_wp2_with fail);rw[HZ.out,show N+1+1+1=N+3 from rfl,show N+1+1=N+2 from rfl];clear c1 c2;refine HPU.out.mono ?_;rintro e w3 ⟨rfl,hp3,hb3⟩;have HD3:=zaa (show gm w3 N (ini s)from HST.out.1.turn hb3 hp3);have HB3:=zaa ((HB.out.trans HST.out.2).trans (hb3.mono (by omega)));clear HST HPU hp3 hb3 HV HB HZ;have HGL:=zaa (show G<N from HG.out.lt);(have hGN2:¬ (G=N+2):=by have:=HG.out.lt;omega);(have hGN2':¬ (N+2=G):=by have:=HG.out.lt;omega);(go_wp2_with fail);(go_loopw [] (fun wr=>∃st,sI w wr N s C g.D st) (fun wr=>least (fun n=>∃st,sI w wr N s C g.D st/\mu st=n)));(case atStart=>exact⟨ini s,HD3.out,HB3.out,zbG (Ek s),_,yi C g.D hs⟩);case round=>
     clear HD3 HB3;obtain⟨st',hst'⟩:=hrel;obtain⟨⟨st,hst,hmu⟩,-⟩:=oU (P:=fun n=>∃st,sI w wr N s C g.D st/\mu st=n) ⟨st',hst',rfl⟩;clear hst' st';have HST:=zaa hst;have HMU:=zaa hmu;obtain⟨R,hinv,hcov⟩:=hst.inv;have HIN:=zaa hinv;have HCO:=zaa hcov;obtain⟨hv0,hc0,ho0⟩:=hst.at_.p.row;obtain⟨A0,q0,rfl⟩:=(ho0.sl (by decide)).form;clear hst hmu hinv hcov ho0;have HLE:=zaa (show st.heap.length<=157 by have:=HST.out.mu;unfold mu at this;omega);obtain⟨len,hlen⟩:∃n,n=st.heap.length:=⟨_,rfl⟩;rw[<-hlen]at hc0 HLE;have HLN:=zaa hlen;clear hlen;(have hlb:(len:Int)<=157:=by have:=HLE.out;omega);rcases zaG len with h0|h0
     · subst h0;have HSN:=zaa (show st.heap=[]from zaH HLN.out.symm);have hmk2:=fun w=>El w;have HNW:=zaa (show N+4<=wr.heap.size from HST.out.at_.p.row.choose_spec.2.choose_spec.2.2.2);(go_wp2_with fail);obtain⟨O,hO⟩:∃x,x=wr.heap.size:=⟨_,rfl⟩;have HOU:=zaa (Bw wr 152 O hO (mT st));have HBO:=zaa ((zac O wr).alloc (zbG hO) (.cells #[.int .i64 0,.slice none 0 0,.int .i64 0,.slice none 0 0,.int .i64 0,.slice none 0 0,.int .i64 0,.slice none 0 0,.int .i64 0,.slice none 0 0,.int .i64 0,.slice none 0 0,.int .i64 0,.slice none 0 0,.int .i64 0,.slice none 0 0,.int .i64 0,.slice none 0 0,.int .i64 0,.slice none 0 0,.int .i64 0,.slice none 0 0,.int .i64 0,.slice none 0 0] 152));have HZO:=zaa (show O+1<=(wr.alloc (.cells #[.int .i64 0,.slice none 0 0,.int .i64 0,.slice none 0 0,.int .i64 0,.slice none 0 0,.int .i64 0,.slice none 0 0,.int .i64 0,.slice none 0 0,.int .i64 0,.slice none 0 0,.int .i64 0,.slice none 0 0,.int .i64 0,.slice none 0 0,.int .i64 0,.slice none 0 0,.int .i64 0,.slice none 0 0,.int .i64 0,.slice none 0 0,.int .i64 0,.slice none 0 0] 152)).heap.size by simp[hO]);obtain⟨W1,hW1⟩:∃x,x=wr.alloc (.cells #[.int .i64 0,.slice none 0 0,.int .i64 0,.slice none 0 0,.int .i64 0,.slice none 0 0,.int .i64 0,.slice none 0 0,.int .i64 0,.slice none 0 0,.int .i64 0,.slice none 0 0,.int .i64 0,.slice none 0 0,.int .i64 0,.slice none 0 0,.int .i64 0,.slice none 0 0,.int .i64 0,.slice none 0 0,.int .i64 0,.slice none 0 0,.int .i64 0,.slice none 0 0] 152):=⟨_,rfl⟩;rw[<-hW1]at HOU HBO HZO;rw[<-hW1,<-hO];(have hNO:N<O:=by have:=HNW.out;omega);(have hNO1:N+1<O:=by have:=HNW.out;omega);(have hn1:¬ O=N:=by omega);(have hn2:¬ O=N+1:=by omega);(have hn3:¬ N=O:=by omega);(have hn4:¬ N+1=O:=by omega);have HOE:=zaa hO;clear hW1 hO hmk2 hc0 hlb HLE HMU;obtain⟨WW,hWW⟩:∃x,x=wr:=⟨_,rfl⟩;subst hWW;(go_loopw [148] (fun i wr2=>∃k:Nat,k<=12/\i= .int .i64 k/\fc wr2 O wr2.heap.size k (mT st)/\Below O WW wr2) (fun i _=>12-(intOf i).toNat));(case atStart=>exact⟨0,zap _,rfl,HOU.out.wide HZO.out,HBO.out⟩);case round=>
        obtain⟨k,hk,rfl,hou,hbo⟩:=hrel;have HU:=zaa hou;have HV:=zaa hbo;clear hou hbo HOU HBO HZO;by_cases hlt:k<12
        · (have hki:(k:Int)<12:=by omega);have hk0:(0:Int)<=(k:Int):=zai k;have HD:=zaa (HST.out.at_.below (HOE.out▸HV.out));have c1:=HD.out.c.cell k hlt;have c2:=HD.out.h.cell k hlt;obtain⟨u0,y0⟩:=HU.out.there (k*2) (by omega);obtain⟨u1,y1⟩:=HU.out.there (k*2+1) (by omega);have y2:=HU.out.fz (k*2);have y3:=HU.out.fz (k*2+1);have hx1:gI st.cost k<=1048577:=HIN.out.hi hlt;have hx0:0<=gI st.cost k:=HIN.out.nn hlt;have HCI:=zaa (Cs st k hx0);have HF12:=zaa (show gN st.hops k<4096 from HIN.out.h12 k);by_cases hmx:gI st.cost k<=1048576
          · obtain⟨base,hrow⟩:=C9 HU.out hlt HV.out (x:=gI st.cost k) (by unfold fO;rw[if_pos hmx]);have HR:=zaa hrow;clear hrow;(go_wp2_with fail);obtain⟨W2,hW2⟩:∃x,x=(((wr.setCell ⟨O,k*2,none⟩ (.int .i64 (-1))).setCell ⟨O,k*2+1,none⟩ (.slice none 0 0)).setCell ⟨O,k*2,none⟩ (.int .i64 (gI st.cost k))):=⟨_,rfl⟩;rw[<-hW2]at HR;rw[<-hW2];clear hW2 c1 c2 y0 y1 y2 y3 HD HU HV hmx hx1 hx0;(go_loopw [168] (fun i wr3=>∃(j:Nat) (v:Value),j<=12/\i= .int .i64 j/\i8 WW wr3 O base k st j v) (fun i _=>12-(intOf i).toNat));(case atStart=>exact⟨0,_,zap _,rfl,HR.out⟩);case round=>
             obtain⟨j,v,hj,rfl,hr⟩:=hrel;clear HR;have HR:=zaa hr;clear hr;have HD:=zaa (HST.out.at_.below (HOE.out▸HR.out.bel));have c2:=HD.out.h.cell k hlt;have y0:=HR.out.c0;have y1:=HR.out.c1;have y3:=HR.out.outs.fz (k*2+1);obtain⟨A3,n3,c3,rfl⟩:=ap HR.out.ho (by decide);clear HD;by_cases hjl:j<12
             · (have hji:(j:Int)<12:=by omega);have hj0:(0:Int)<=(j:Int):=zai j;have hsh:=xN (gN st.hops k) j;have had:=u7 (gN st.hops k/2^j) (Cl _ _ HF12.out);obtain⟨q,hq⟩:∃q,q=gN st.hops k/2^j:=⟨_,rfl⟩;obtain⟨r,hr⟩:∃r,r=q%2:=⟨_,rfl⟩;rw[<-hq]at hsh had;rw[<-hr]at had;have HQR:=zaa (show gN st.hops k/2^j%2=r by rw[<-hq,<-hr]);clear hq hr;have HLN3:=zaa (show(d8 (gN st.hops k) j).length+1<=1000000000000 by have:=kE (gN st.hops k) j;omega);by_cases hb1:r=1
               · have HBT:=zaa (pA (HQR.out.trans hb1));(have hbe:((r:Int)==1)=true:=by rw[hb1];rfl);have HJR:=zaa (show inR (j:Int)by unfold inR;omega);(go_wp2_with (at_builtin;refine aR (base:=base) fD rfl (.tmp 184) (.tmp 186) rfl (au HR.out.ho _) (aN (r:=aI) (cs:=[.int .i64 j]) (x:=(j:Int)) rfl ⟨rfl,HJR.out⟩) (fun _ _ h=>h) rfl rfl HLN3.out (by decide) ?_;intro v5 w5 ho5 hg5;obtain⟨A9,n9,c9,rfl⟩:=ap ho5 (by decide);have HG5:=zaa hg5;obtain⟨x0,x1,x2,x3,x4⟩:=HR.out.step hlt hg5;have x5:=x2 (k*2+1);have X:=zaa (And.intro x0 (And.intro x1 (And.intro x3 x4)));have HO5:=zaa ho5;clear hg5 x0 x2 x3 x4 ho5));(go_roundw);(case rel=>exact⟨j+1,_,by omega,by go_num,i8.next hlt X.out.1 X.out.2.1 (by rw[HBT.out];exact HO5.out) X.out.2.2.1 X.out.2.2.2⟩);case measure=>simp[intOf];omega
               · have HBT:=zaa (rA (fun e=>hb1 (HQR.out.symm.trans e)));(have hbe:((r:Int)==1)=false:=by rw[beq_eq_false_iff_ne];omega);(go_wp2_with fail);(go_roundw);(case rel=>exact⟨j+1,_,by omega,by go_num,HR.out.c0,HR.out.c1,(by rw[HBT.out];exact HR.out.ho),HR.out.outs,HR.out.bel⟩);case measure=>simp[intOf];omega
             · (obtain rfl:j=12:=by omega);have HU:=zaa (HR.out.done HCI.out);have HV:=zaa HR.out.bel;(go_wp2_with fail);(go_roundw);(case rel=>exact⟨k+1,by omega,by go_num,HU.out,HV.out⟩);case measure=>simp[intOf];omega
          · obtain⟨base,hrow⟩:=Eg HU.out hlt HV.out (by unfold fO;rw[if_neg hmx]);have HR:=zaa hrow;clear hrow;(go_wp2_with fail);obtain⟨W2,hW2⟩:∃x,x=((wr.setCell ⟨O,k*2,none⟩ (.int .i64 (-1))).setCell ⟨O,k*2+1,none⟩ (.slice none 0 0)):=⟨_,rfl⟩;rw[<-hW2]at HR;rw[<-hW2];clear hW2 c1 c2 y0 y1 y2 y3 HD HU HV hmx hx1 hx0;(go_loopw [168] (fun i wr3=>∃(j:Nat) (v:Value),j<=12/\i= .int .i64 j/\i8 WW wr3 O base k st j v) (fun i _=>12-(intOf i).toNat));(case atStart=>exact⟨0,_,zap _,rfl,HR.out⟩);case round=>
             obtain⟨j,v,hj,rfl,hr⟩:=hrel;clear HR;have HR:=zaa hr;clear hr;have HD:=zaa (HST.out.at_.below (HOE.out▸HR.out.bel));have c2:=HD.out.h.cell k hlt;have y0:=HR.out.c0;have y1:=HR.out.c1;have y3:=HR.out.outs.fz (k*2+1);obtain⟨A3,n3,c3,rfl⟩:=ap HR.out.ho (by decide);clear HD;by_cases hjl:j<12
             · (have hji:(j:Int)<12:=by omega);have hj0:(0:Int)<=(j:Int):=zai j;have hsh:=xN (gN st.hops k) j;have had:=u7 (gN st.hops k/2^j) (Cl _ _ HF12.out);obtain⟨q,hq⟩:∃q,q=gN st.hops k/2^j:=⟨_,rfl⟩;obtain⟨r,hr⟩:∃r,r=q%2:=⟨_,rfl⟩;rw[<-hq]at hsh had;rw[<-hr]at had;have HQR:=zaa (show gN st.hops k/2^j%2=r by rw[<-hq,<-hr]);clear hq hr;have HLN3:=zaa (show(d8 (gN st.hops k) j).length+1<=1000000000000 by have:=kE (gN st.hops k) j;omega);by_cases hb1:r=1
               · have HBT:=zaa (pA (HQR.out.trans hb1));(have hbe:((r:Int)==1)=true:=by rw[hb1];rfl);have HJR:=zaa (show inR (j:Int)by unfold inR;omega);(go_wp2_with (at_builtin;refine aR (base:=base) fD rfl (.tmp 184) (.tmp 186) rfl (au HR.out.ho _) (aN (r:=aI) (cs:=[.int .i64 j]) (x:=(j:Int)) rfl ⟨rfl,HJR.out⟩) (fun _ _ h=>h) rfl rfl HLN3.out (by decide) ?_;intro v5 w5 ho5 hg5;obtain⟨A9,n9,c9,rfl⟩:=ap ho5 (by decide);have HG5:=zaa hg5;obtain⟨x0,x1,x2,x3,x4⟩:=HR.out.step hlt hg5;have x5:=x2 (k*2+1);have X:=zaa (And.intro x0 (And.intro x1 (And.intro x3 x4)));have HO5:=zaa ho5;clear hg5 x0 x2 x3 x4 ho5));(go_roundw);(case rel=>exact⟨j+1,_,by omega,by go_num,i8.next hlt X.out.1 X.out.2.1 (by rw[HBT.out];exact HO5.out) X.out.2.2.1 X.out.2.2.2⟩);case measure=>simp[intOf];omega
               · have HBT:=zaa (rA (fun e=>hb1 (HQR.out.symm.trans e)));(have hbe:((r:Int)==1)=false:=by rw[beq_eq_false_iff_ne];omega);(go_wp2_with fail);(go_roundw);(case rel=>exact⟨j+1,_,by omega,by go_num,HR.out.c0,HR.out.c1,(by rw[HBT.out];exact HR.out.ho),HR.out.outs,HR.out.bel⟩);case measure=>simp[intOf];omega
             · (obtain rfl:j=12:=by omega);have HU:=zaa (HR.out.done HCI.out);have HV:=zaa HR.out.bel;(go_wp2_with fail);(go_roundw);(case rel=>exact⟨k+1,by omega,by go_num,HU.out,HV.out⟩);case measure=>simp[intOf];omega
        · (obtain rfl:k=12:=by omega);have HFI:=zaa (HU.out.sl (c:=12) (zab _) (zab _) (by unfold maxLen;omega));have HFB:=zaa (HST.out.bel.trans (HV.out.mono (zbh hNO)));(go_wp2_with fail);(go_ret);exact⟨_,st,R,rfl,HFI.out,HFB.out,HIN.out,HCO.out,HSN.out⟩
     · (have hl0:(0:Int)<(len:Int):=by omega);have HPO:=zaa (Dh (N+3) (N+4) st.heap wr HST.out.at_.p (by rw[<-HLN.out];exact h0) (by rw[<-HLN.out];have:=HLE.out;omega));obtain⟨ht,htn,hsi,hml,hcu⟩:=tg HG.out.le hs HIN.out HCO.out (by rw[<-HLN.out];exact h0);obtain⟨t,hte⟩:∃t,t=eR st:=⟨_,rfl⟩;rw[<-hte]at ht htn hcu;rw[htn]at HPO;have HTE:=zaa hte;have HSI:=zaa hsi;have HML:=zaa hml;have HCU:=zaa hcu;clear hte htn hsi hml hcu;(go_wp2_with fail);refine HPO.out.mono ?_;rintro e w1 ⟨rfl,hp1,hb1⟩;have HD1:=zaa (show gm w1 N {st with heap:=dJ st.heap}from HST.out.at_.turn hb1 hp1);have HB1:=zaa (HST.out.bel.trans (hb1.mono (by omega)));clear HPO hp1 hb1 hc0 h0 hl0 hlb HLE HLN;(have hti:(t:Int)<12:=by omega);have ht0:(0:Int)<=(t:Int):=zai t;have d2:=HD1.out.d.fz t;have d1:w1.cell? ⟨N+2,t,none⟩=some (.bool (gD st.done t)):=HD1.out.d.cell t ht;have HG1:=zaa (show Gr w1 G g from HG.out.gr.below (HNS.out▸HB1.out));have d3:=HG1.out.drn t ht;(have d4:w1.cell? ⟨G,t+144,none⟩=some (.bool (g.D t)):=by rw[Nat.add_comm];exact d3);rcases hd:gD st.done t with _|_
       · rw[hd]at d1;have HDN:=zaa hd;clear hd;have HB2:=zaa (HB1.out.setCell (p:=⟨N+2,t,none⟩) (by show N<=N+2;omega) (.bool true));by_cases hts:t=s
         · have hok:t=s∨g.D t=false:= .inl hts;subst hts;have HCU1:=zaa (HCU.out HDN.out hok);have HGO:=zaa (show ep C g.D t st=bP C t t {st with heap:=dJ st.heap,done:=st.done.set t true} 12 by have e:=HTE.out;rw[e]at hok;rw[e];exact ti (e▸HDN.out) hok);have HPL:=zaa (show(dJ st.heap).length<=157 by have h1:=k6 st.heap;have h2:=HST.out.mu;unfold mu at h2;omega);have HBS:=zaa (HB1.out.setCell (p:=⟨N+2,t,none⟩) (by show N<=N+2;omega) (.bool true));clear HCU;obtain⟨st1,hst1⟩:∃q:Ds,q={st with heap:=dJ st.heap,done:=st.done.set t true}:=⟨_,rfl⟩;have HD2:=zaa (show gm (w1.setCell ⟨N+2,t,none⟩ (.bool true)) N st1 by rw[hst1];exact HD1.out.setD ht HIN.out.ld);have HPL2:=zaa (show st1.heap.length<=157 by rw[hst1];exact HPL.out);rw[<-hst1]at HCU1 HGO;obtain⟨vs,hvs,hrow,hinf⟩:=tx HG1.out ht;have HLD:=zaa (hrow (w1.setCell ⟨N+2,t,none⟩ (.bool true)) (zao _ _ _ _ (by show G≠N+2;omega)));have HVS:=zaa hvs;have HIF:=zaa hinf;clear hrow hvs hst1 hok hinf;(go_wp2_with (refine wpList_load_mid rfl 48 (.tmp 64) rfl G (t*12) rfl vs _ HLD.out Tryz.underlying48 rfl HIF.out ?_));(go_loopw [66] (fun i wr2=>∃k:Nat,k<=12/\i= .int .i64 k/\gm wr2 N (bP C t t st1 k)/\Below N w wr2) (fun i _=>12-(intOf i).toNat));(case atStart=>exact⟨0,zap _,rfl,HD2.out,HBS.out⟩);case round=>
            clear HD2 HBS HB2 d1 d2 d3 d4 HLD HIF;obtain⟨k,hk,rfl,hd2,hb2⟩:=hrel;have HB2:=zaa hb2;by_cases hlt:k<12
            · obtain⟨R1,hi1,hcu1,hco1⟩:=HCU1.out;obtain⟨⟨R2,hi2,-⟩,hcu2,-,hle2⟩:=jV HG.out.le hs hi1 hcu1 hco1 k hk;obtain⟨st2,hst2⟩:∃q,q=bP C t t st1 k:=⟨_,rfl⟩;have HNX:=zaa (show bP C t t st1 (k+1)=g8 C t t st2 k by rw[hst2];rfl);rw[<-hst2]at hd2 hi2 hcu2 hle2;have HD2:=zaa hd2;have HI2:=zaa hi2;have HLH:=zaa (show st2.heap.length<=100000 by have:=HPL2.out;omega);(have hki:(k:Int)<12:=by omega);have hk0:(0:Int)<=(k:Int):=zai k;have c1:=hd2.c.cell t ht;have c2:=hd2.c.cell k hlt;have c3:=hd2.h.cell t ht;have c4:=hd2.h.cell k hlt;have c5:=hd2.c.fz k;have c6:=hd2.h.fz k;have hx1:gI st2.cost t<=1048576:=(hi2.dle t ht hcu2.dn).1;have hx0:0<=gI st2.cost t:=hi2.nn ht;have hy1:gI st2.cost k<=1048577:=hi2.hi hlt;have hy0:0<=gI st2.cost k:=hi2.nn hlt;have HF12:=zaa (show gN st2.hops k<4096 from hi2.h12 k);have HFT:=zaa (show ip t t k st2<4096 from B8 hi2 hlt);have hcc:C t k<=1000:=HG.out.le t k;(have hix:∀w',(Instr.index 48 (.agg vs.toArray) (.int .i64 (k:Int))).run Tryz.prog w'= .ok (.int .i64 (C t k:Nat)) w':=fun w'=>by rw[<-HG.out.c t k ht hlt];exact rP vs.toArray (g.C t) HVS.out hlt w');clear hi1 hcu1 hco1 hi2 hcu2 hle2 hst2 hd2 hb2;have E1:=fun h=>yq (C:=C) (s:=t) (n:=t) (k:=k) (st:=st2) h;have E2:=fun h h1=>uA (C:=C) (s:=t) (n:=t) (k:=k) (st:=st2) h h1;have E3:=fun h h1=>yp (C:=C) (s:=t) (n:=t) (k:=k) (st:=st2) h h1;have E4:=fun h1=>re (C:=C) (s:=t) (n:=t) (k:=k) (st:=st2) h1;have HE1:=zaa E1;have HE2:=zaa E2;have HE3:=zaa E3;have HE4:=zaa E4;clear E1 E2 E3 E4;generalize C t k=cc at*;generalize gI st2.cost t=x at*;generalize gI st2.cost k=y at*;by_cases e0:cc=0
              · (have g0:((cc:Int)==0)=true:=by rw[beq_iff_eq];omega);rw[HE1.out (.inl e0)]at HNX;subst e0;(go_wp2_with fail);(go_roundw);(case rel=>exact⟨k+1,by omega,by go_num,by rw[HNX.out];exact⟨HD2.out,HB2.out⟩⟩);case measure=>simp[intOf];omega
              · (have g0:((cc:Int)==0)=false:=by rw[beq_eq_false_iff_ne];omega);(have hcp:(0:Int)<(cc:Int):=by omega);by_cases e1:1048576<x+cc
                · rw[HE1.out (.inr (.inl e1))]at HNX;clear e0;(go_wp2_with fail);(go_roundw);(case rel=>exact⟨k+1,by omega,by go_num,by rw[HNX.out];exact⟨HD2.out,HB2.out⟩⟩);case measure=>simp[intOf];omega
                · (have e1':x+cc<=1048576:=by omega);by_cases e2:k=t
                  · rw[HE1.out (.inr (.inr e2))]at HNX;(have g2:((k:Int)==(t:Int))=true:=by rw[beq_iff_eq];omega);clear e0 e2;(go_wp2_with fail);(go_roundw);(case rel=>exact⟨k+1,by omega,by go_num,by rw[HNX.out];exact⟨HD2.out,HB2.out⟩⟩);case measure=>simp[intOf];omega
                  · (have g2:((k:Int)==(t:Int))=false:=by rw[beq_eq_false_iff_ne];omega);have HNO:=zaa (show ¬ (cc=0∨1048576<x+cc∨k=t)by omega);clear e0 e2;obtain⟨f,hf⟩:∃f,f=2^k:=⟨_,rfl⟩;have HFS:=zaa (show ip t t k st2=f by rw[hf];unfold ip;rw[if_pos rfl]);(have hp1:IntKind.i64.wrap ((2:Int)^k)=(f:Int):=by rw[hf];exact Df hlt);(have hf12:f<4096:=by have:=HFT.out;rw[HFS.out]at this;exact this);clear hf;(have hfi:(f:Int)<4096:=by omega);have hf0:(0:Int)<=(f:Int):=zai f;by_cases l1:x+cc<y
                    · rw[HE2.out HNO.out l1,HFS.out]at HNX;(go_wp2_with fail);(go_quiet (fail));obtain⟨q1,rfl⟩:∃m,m=nq:=⟨nq,rfl⟩;have HD3:=zaa (((HD2.out.below ((ag (zac wr.heap.size wr) q1))).setC hlt HI2.out.lc (x+cc)).setH hlt HI2.out.lh f);have HB3:=zaa (((ag HB2.out q1).setCell (p:=⟨N,k,none⟩) (zab N) (.int .i64 (x+cc))).setCell (p:=⟨N+1,k,none⟩) (by show N<=N+1;omega) (.int .i64 f));have HPU:=zaa (oE (N+3) (N+4) st2.heap k (x+cc) _ HD3.out.p (by unfold inR;omega) (by unfold inR;omega) HLH.out);(go_wp2_with fail);refine HPU.out.mono ?_;rintro e w5 ⟨rfl,hp5,hb5⟩;have HD5:=zaa (HD3.out.turn hb5 hp5);have HB5:=zaa (HB3.out.trans (hb5.mono (by omega)));clear HPU HD3 HB3 hp5 hb5;(go_wp2_with fail);(go_roundw);(case rel=>exact⟨k+1,by omega,by go_num,by rw[HNX.out];exact⟨HD5.out,HB5.out⟩⟩);case measure=>simp[intOf];omega
                    · by_cases l2:x+cc=y
                      · rw[HE3.out HNO.out l2,HFS.out]at HNX;(have g3:((x+cc:Int)==y)=true:=by rw[beq_iff_eq];exact l2);have HF12:=HF12.out;generalize gN st2.hops k=f2 at*;have hor:=By f2 f HF12 (by omega);(go_wp2_with fail);(go_quiet (fail));obtain⟨q1,rfl⟩:∃m,m=nq:=⟨nq,rfl⟩;(go_wp2_with fail);(go_quiet (fail));obtain⟨q2,rfl⟩:∃m,m=nq:=⟨nq,rfl⟩;have HD5:=zaa ((HD2.out.below (ag (zac wr.heap.size wr) (q1+q2))).setH hlt HI2.out.lh (f2|||f));have HB5:=zaa ((ag HB2.out (q1+q2)).setCell (p:=⟨N+1,k,none⟩) (by show N<=N+1;omega) (.int .i64 (f2|||f:Nat)));(go_wp2_with fail);(go_roundw);(case rel=>exact⟨k+1,by omega,by go_num,by rw[HNX.out];exact⟨HD5.out,HB5.out⟩⟩);case measure=>simp[intOf];omega
                      · rw[HE4.out (by omega)]at HNX;(have g3:((x+cc:Int)==y)=false:=by rw[beq_eq_false_iff_ne];exact l2);(go_wp2_with fail);(go_quiet (fail));obtain⟨q1,rfl⟩:∃m,m=nq:=⟨nq,rfl⟩;(go_wp2_with fail);(go_quiet (fail));obtain⟨q2,rfl⟩:∃m,m=nq:=⟨nq,rfl⟩;have HD5:=zaa (HD2.out.below (ag (zac wr.heap.size wr) (q1+q2)));have HB5:=zaa (ag HB2.out (q1+q2));(go_wp2_with fail);(go_roundw);(case rel=>exact⟨k+1,by omega,by go_num,by rw[HNX.out];exact⟨HD5.out,HB5.out⟩⟩);case measure=>simp[intOf];omega
            · (obtain rfl:k=12:=by omega);have HF:=zaa (kM (st:=st) (by rw[HGO.out];exact hd2) hb2 HST.out.mu HML.out HSI.out);clear hd2 hb2;(go_wp2_with fail);(go_roundw);(case rel=>exact⟨_,HF.out⟩);case measure=>exact jR ⟨_,HF.out,rfl⟩ HMU.out HML.out
         · (have htsi:((t:Int) !=(s:Int))=true:=by rw[bne_iff_ne];omega);(have htse:((t:Int)==(s:Int))=false:=by rw[beq_eq_false_iff_ne];omega);rcases hdr:g.D t with _|_
           · have hok:t=s∨g.D t=false:= .inr hdr;rw[hdr]at d3 d4;clear hdr;have HCU1:=zaa (HCU.out HDN.out hok);have HGO:=zaa (show ep C g.D s st=bP C s t {st with heap:=dJ st.heap,done:=st.done.set t true} 12 by have e:=HTE.out;rw[e]at hok;rw[e];exact ti (e▸HDN.out) hok);have HPL:=zaa (show(dJ st.heap).length<=157 by have h1:=k6 st.heap;have h2:=HST.out.mu;unfold mu at h2;omega);have HBS:=zaa (HB1.out.setCell (p:=⟨N+2,t,none⟩) (by show N<=N+2;omega) (.bool true));clear HCU;obtain⟨st1,hst1⟩:∃q:Ds,q={st with heap:=dJ st.heap,done:=st.done.set t true}:=⟨_,rfl⟩;have HD2:=zaa (show gm (w1.setCell ⟨N+2,t,none⟩ (.bool true)) N st1 by rw[hst1];exact HD1.out.setD ht HIN.out.ld);have HPL2:=zaa (show st1.heap.length<=157 by rw[hst1];exact HPL.out);rw[<-hst1]at HCU1 HGO;obtain⟨vs,hvs,hrow,hinf⟩:=tx HG1.out ht;have HLD:=zaa (hrow (w1.setCell ⟨N+2,t,none⟩ (.bool true)) (zao _ _ _ _ (by show G≠N+2;omega)));have HVS:=zaa hvs;have HIF:=zaa hinf;clear hrow hvs hst1 hok hinf;(go_wp2_with (refine wpList_load_mid rfl 48 (.tmp 64) rfl G (t*12) rfl vs _ HLD.out Tryz.underlying48 rfl HIF.out ?_));(go_loopw [66] (fun i wr2=>∃k:Nat,k<=12/\i= .int .i64 k/\gm wr2 N (bP C s t st1 k)/\Below N w wr2) (fun i _=>12-(intOf i).toNat));(case atStart=>exact⟨0,zap _,rfl,HD2.out,HBS.out⟩);case round=>
              clear HD2 HBS HB2 d1 d2 d3 d4 HLD HIF;obtain⟨k,hk,rfl,hd2,hb2⟩:=hrel;have HB2:=zaa hb2;by_cases hlt:k<12
              · obtain⟨R1,hi1,hcu1,hco1⟩:=HCU1.out;obtain⟨⟨R2,hi2,-⟩,hcu2,-,hle2⟩:=jV HG.out.le hs hi1 hcu1 hco1 k hk;obtain⟨st2,hst2⟩:∃q,q=bP C s t st1 k:=⟨_,rfl⟩;have HNX:=zaa (show bP C s t st1 (k+1)=g8 C s t st2 k by rw[hst2];rfl);rw[<-hst2]at hd2 hi2 hcu2 hle2;have HD2:=zaa hd2;have HI2:=zaa hi2;have HLH:=zaa (show st2.heap.length<=100000 by have:=HPL2.out;omega);(have hki:(k:Int)<12:=by omega);have hk0:(0:Int)<=(k:Int):=zai k;have c1:=hd2.c.cell t ht;have c2:=hd2.c.cell k hlt;have c3:=hd2.h.cell t ht;have c4:=hd2.h.cell k hlt;have c5:=hd2.c.fz k;have c6:=hd2.h.fz k;have hx1:gI st2.cost t<=1048576:=(hi2.dle t ht hcu2.dn).1;have hx0:0<=gI st2.cost t:=hi2.nn ht;have hy1:gI st2.cost k<=1048577:=hi2.hi hlt;have hy0:0<=gI st2.cost k:=hi2.nn hlt;have HF12:=zaa (show gN st2.hops k<4096 from hi2.h12 k);have HFT:=zaa (show ip s t k st2<4096 from B8 hi2 hlt);have hcc:C t k<=1000:=HG.out.le t k;(have hix:∀w',(Instr.index 48 (.agg vs.toArray) (.int .i64 (k:Int))).run Tryz.prog w'= .ok (.int .i64 (C t k:Nat)) w':=fun w'=>by rw[<-HG.out.c t k ht hlt];exact rP vs.toArray (g.C t) HVS.out hlt w');clear hi1 hcu1 hco1 hi2 hcu2 hle2 hst2 hd2 hb2;have E1:=fun h=>yq (C:=C) (s:=s) (n:=t) (k:=k) (st:=st2) h;have E2:=fun h h1=>uA (C:=C) (s:=s) (n:=t) (k:=k) (st:=st2) h h1;have E3:=fun h h1=>yp (C:=C) (s:=s) (n:=t) (k:=k) (st:=st2) h h1;have E4:=fun h1=>re (C:=C) (s:=s) (n:=t) (k:=k) (st:=st2) h1;have HE1:=zaa E1;have HE2:=zaa E2;have HE3:=zaa E3;have HE4:=zaa E4;clear E1 E2 E3 E4;generalize C t k=cc at*;generalize gI st2.cost t=x at*;generalize gI st2.cost k=y at*;by_cases e0:cc=0
                · (have g0:((cc:Int)==0)=true:=by rw[beq_iff_eq];omega);rw[HE1.out (.inl e0)]at HNX;subst e0;(go_wp2_with fail);(go_roundw);(case rel=>exact⟨k+1,by omega,by go_num,by rw[HNX.out];exact⟨HD2.out,HB2.out⟩⟩);case measure=>simp[intOf];omega
                · (have g0:((cc:Int)==0)=false:=by rw[beq_eq_false_iff_ne];omega);(have hcp:(0:Int)<(cc:Int):=by omega);by_cases e1:1048576<x+cc
                  · rw[HE1.out (.inr (.inl e1))]at HNX;clear e0;(go_wp2_with fail);(go_roundw);(case rel=>exact⟨k+1,by omega,by go_num,by rw[HNX.out];exact⟨HD2.out,HB2.out⟩⟩);case measure=>simp[intOf];omega
                  · (have e1':x+cc<=1048576:=by omega);by_cases e2:k=s
                    · rw[HE1.out (.inr (.inr e2))]at HNX;(have g2:((k:Int)==(s:Int))=true:=by rw[beq_iff_eq];omega);clear e0 e2;(go_wp2_with fail);(go_roundw);(case rel=>exact⟨k+1,by omega,by go_num,by rw[HNX.out];exact⟨HD2.out,HB2.out⟩⟩);case measure=>simp[intOf];omega
                    · (have g2:((k:Int)==(s:Int))=false:=by rw[beq_eq_false_iff_ne];omega);have HNO:=zaa (show ¬ (cc=0∨1048576<x+cc∨k=s)by omega);clear e0 e2;obtain⟨f,hf⟩:∃f,f=gN st2.hops t:=⟨_,rfl⟩;have HFS:=zaa (show ip s t k st2=f by rw[hf];unfold ip;rw[if_neg hts]);rw[<-hf]at c3;(have hf12:f<4096:=by have:=HFT.out;rw[HFS.out]at this;exact this);clear hf;(have hfi:(f:Int)<4096:=by omega);have hf0:(0:Int)<=(f:Int):=zai f;by_cases l1:x+cc<y
                      · rw[HE2.out HNO.out l1,HFS.out]at HNX;(go_wp2_with fail);(go_quiet (fail));obtain⟨q1,rfl⟩:∃m,m=nq:=⟨nq,rfl⟩;have HD3:=zaa (((HD2.out.below ((ag (zac wr.heap.size wr) q1))).setC hlt HI2.out.lc (x+cc)).setH hlt HI2.out.lh f);have HB3:=zaa (((ag HB2.out q1).setCell (p:=⟨N,k,none⟩) (zab N) (.int .i64 (x+cc))).setCell (p:=⟨N+1,k,none⟩) (by show N<=N+1;omega) (.int .i64 f));have HPU:=zaa (oE (N+3) (N+4) st2.heap k (x+cc) _ HD3.out.p (by unfold inR;omega) (by unfold inR;omega) HLH.out);(go_wp2_with fail);refine HPU.out.mono ?_;rintro e w5 ⟨rfl,hp5,hb5⟩;have HD5:=zaa (HD3.out.turn hb5 hp5);have HB5:=zaa (HB3.out.trans (hb5.mono (by omega)));clear HPU HD3 HB3 hp5 hb5;(go_wp2_with fail);(go_roundw);(case rel=>exact⟨k+1,by omega,by go_num,by rw[HNX.out];exact⟨HD5.out,HB5.out⟩⟩);case measure=>simp[intOf];omega
                      · by_cases l2:x+cc=y
                        · rw[HE3.out HNO.out l2,HFS.out]at HNX;(have g3:((x+cc:Int)==y)=true:=by rw[beq_iff_eq];exact l2);have HF12:=HF12.out;generalize gN st2.hops k=f2 at*;have hor:=By f2 f HF12 (by omega);(go_wp2_with fail);(go_quiet (fail));obtain⟨q1,rfl⟩:∃m,m=nq:=⟨nq,rfl⟩;(go_wp2_with fail);(go_quiet (fail));obtain⟨q2,rfl⟩:∃m,m=nq:=⟨nq,rfl⟩;have HD5:=zaa ((HD2.out.below (ag (zac wr.heap.size wr) (q1+q2))).setH hlt HI2.out.lh (f2|||f));have HB5:=zaa ((ag HB2.out (q1+q2)).setCell (p:=⟨N+1,k,none⟩) (by show N<=N+1;omega) (.int .i64 (f2|||f:Nat)));(go_wp2_with fail);(go_roundw);(case rel=>exact⟨k+1,by omega,by go_num,by rw[HNX.out];exact⟨HD5.out,HB5.out⟩⟩);case measure=>simp[intOf];omega
                        · rw[HE4.out (by omega)]at HNX;(have g3:((x+cc:Int)==y)=false:=by rw[beq_eq_false_iff_ne];exact l2);(go_wp2_with fail);(go_quiet (fail));obtain⟨q1,rfl⟩:∃m,m=nq:=⟨nq,rfl⟩;(go_wp2_with fail);(go_quiet (fail));obtain⟨q2,rfl⟩:∃m,m=nq:=⟨nq,rfl⟩;have HD5:=zaa (HD2.out.below (ag (zac wr.heap.size wr) (q1+q2)));have HB5:=zaa (ag HB2.out (q1+q2));(go_wp2_with fail);(go_roundw);(case rel=>exact⟨k+1,by omega,by go_num,by rw[HNX.out];exact⟨HD5.out,HB5.out⟩⟩);case measure=>simp[intOf];omega
              · (obtain rfl:k=12:=by omega);have HF:=zaa (kM (st:=st) (by rw[HGO.out];exact hd2) hb2 HST.out.mu HML.out HSI.out);clear hd2 hb2;(go_wp2_with fail);(go_roundw);(case rel=>exact⟨_,HF.out⟩);case measure=>exact jR ⟨_,HF.out,rfl⟩ HMU.out HML.out
           · rw[hdr]at d3 d4;have HF:=zaa (kM (st:=st) (w':=w1.setCell ⟨N+2,t,none⟩ (.bool true)) (by rw[AU (HTE.out▸HDN.out) (HTE.out▸hts) (HTE.out▸hdr),<-HTE.out];exact HD1.out.setD ht HIN.out.ld) HB2.out HST.out.mu HML.out HSI.out);clear hdr;(go_wp2_with fail);(go_roundw);(case rel=>exact⟨_,HF.out⟩);case measure=>exact jR ⟨_,HF.out,rfl⟩ HMU.out HML.out
       · rw[hd]at d1;have HF:=zaa (kM (st:=st) (w':=w1) (by rw[vD (HTE.out▸hd)];exact HD1.out) HB1.out HST.out.mu HML.out HSI.out);clear hd;(go_wp2_with fail);(go_roundw);(case rel=>exact⟨_,HF.out⟩);case measure=>exact jR ⟨_,HF.out,rfl⟩ HMU.out HML.out
end
end Go.Proofs.YtojojpjldkpmoaaGreatDoor
