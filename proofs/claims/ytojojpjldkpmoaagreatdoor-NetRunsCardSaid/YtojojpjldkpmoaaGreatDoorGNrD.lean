/-
  
-/
import Derived.Test.YtojojpjldkpmoaaGreatDoorGNtN
import Derived.Test.YtojojpjldkpmoaaGreatDoorGNwG
import Derived.Test.YtojojpjldkpmoaaGreatDoorGTbG
import Derived.Test.YtojojpjldkpmoaaGreatDoorGNwC
import Derived.Test.YtojojpjldkpmoaaGreatDoorGStE
import Derived.Test.YtojojpjldkpmoaaGreatDoorGTaB
import Derived.Lib.QuietBelow
import Derived.Test.YtojojpjldkpmoaaGreatDoorGTkL
set_option linter.unusedVariables false
set_option linter.unusedSimpArgs false
set_option maxHeartbeats 16000000
set_option maxRecDepth 100000
namespace Go.Proofs.YtojojpjldkpmoaaGreatDoor
section
open Go Go.RowKit Go.Deep
def SlX{α:Type}(r:Rep α)(X:Nat->Prop)(w:World)(v:Value)(xs:List α):Prop:=SlR r w (fun k=>k<w.heap.size/\¬ X k) v xs
theorem SlX.sl{α:Type}{r:Rep α}{X:Nat->Prop}{w:World}{v:Value}{xs:List α}(h:SlX r X w v xs):Sl r w v xs:=SlR.keep h (fun _ _=>rfl) (fun _ hk=>hk.1)
theorem SlX.nil{α:Type}(r:Rep α)(X:Nat->Prop)(w:World):SlX r X w (.slice none 0 0) []:=⟨none,0,rfl,zab _,zap _,fun i x h=>by simp at h⟩
theorem SlX.below{α:Type}{r:Rep α}{X:Nat->Prop}{w w':World}{v:Value}{xs:List α}(h:SlX r X w v xs)(hb:Below w.heap.size w w'):SlX r X w' v xs:=SlR.keep h (fun k hk=>hb.block k hk.1) (fun k hk=>⟨zas hk.1 hb.size,hk.2⟩)
theorem SlX.grow{α:Type}{r:Rep α}{X X':Nat->Prop}{w w':World}{row:Option Nat}{v:Value}{xs:List α}(h:SlX r X w v xs)(hX:∀k,row=some k->X k)(hg:w.grownBy w' row)(hX':∀k,X' k->X k∨w.heap.size<=k):SlX r X' w' v xs:=
 SlR.keep h (fun k hk=>hg.block k hk.1 (fun e=>hk.2 (hX k e.symm))) (fun k hk=>⟨zas hk.1 hg.size,fun e=>(hX' k e).elim hk.2 (fun e=>by have:=hk.1;omega)⟩)
theorem SlF.toX{α:Type}{r:Rep α}{b:Nat}{X:Nat->Prop}{w:World}{v:Value}{xs:List α}(h:SlF r b w v xs)(h2:∀k,b<=k->¬ X k):SlX r X w v xs:=SlR.keep h (fun _ _=>rfl) (fun k hk=>⟨hk.1,h2 k hk.2⟩)
structure bZ(X:Nat->Prop)(w:World)(vs:List Value)(x:Net):Prop where
 len:vs.length=192
 one:∀v∈vs,v.oneCell'=true
 st:∀a,a<12->∃v,vs[a*16]? =some v/\SlX aW X w v (x.nd a).st
 dr:∀a,a<12->vs[a*16+1]? =some (.bool (x.nd a).dr)
 pf:∀a,a<12->∃v,vs[a*16+2]? =some v/\SlX aA X w v (x.nd a).pf
 tb:∀a,a<12->∃v,vs[a*16+3]? =some v/\SlX aB X w v (x.nd a).tb
 co:∀a b,a<12->b<12->vs[a*16+4+b]? =some (.int .i64 (x.co a b))
theorem bZ.below{X:Nat->Prop}{w w':World}{vs:List Value}{x:Net}(h:bZ X w vs x)(hb:Below w.heap.size w w'):bZ X w' vs x:=
 ⟨h.len,h.one,fun a ha=>by obtain⟨v,h1,h2⟩:=h.st a ha;exact⟨v,h1,h2.below hb⟩,h.dr,fun a ha=>by obtain⟨v,h1,h2⟩:=h.pf a ha;exact⟨v,h1,h2.below hb⟩,
  fun a ha=>by obtain⟨v,h1,h2⟩:=h.tb a ha;exact⟨v,h1,h2.below hb⟩,h.co⟩
theorem bZ.grow{X X':Nat->Prop}{w w':World}{row:Option Nat}{vs:List Value}{x:Net}(h:bZ X w vs x)(hX:∀k,row=some k->X k)(hg:w.grownBy w' row)(hX':∀k,X' k->X k∨w.heap.size<=k):bZ X' w' vs x:=
 ⟨h.len,h.one,fun a ha=>by obtain⟨v,h1,h2⟩:=h.st a ha;exact⟨v,h1,h2.grow hX hg hX'⟩,h.dr,fun a ha=>by obtain⟨v,h1,h2⟩:=h.pf a ha;exact⟨v,h1,h2.grow hX hg hX'⟩,
  fun a ha=>by obtain⟨v,h1,h2⟩:=h.tb a ha;exact⟨v,h1,h2.grow hX hg hX'⟩,h.co⟩
theorem SlX.keepB{α:Type}{r:Rep α}{X X':Nat->Prop}{w w':World}{v:Value}{xs:List α}(h:SlX r X w v xs)(hk:∀k,k<w.heap.size->¬ X k->w'.heap[k]? =w.heap[k]?)(hs:w.heap.size<=w'.heap.size)(hX:∀k,k<w.heap.size->X' k->X k):SlX r X' w' v xs:=
 SlR.keep h (fun k hk'=>hk k hk'.1 hk'.2) (fun k hk'=>⟨zas hk'.1 hs,fun e=>hk'.2 (hX k hk'.1 e)⟩)
theorem bZ.keepB{X X':Nat->Prop}{w w':World}{vs:List Value}{x:Net}(h:bZ X w vs x)(hk:∀k,k<w.heap.size->¬ X k->w'.heap[k]? =w.heap[k]?)(hs:w.heap.size<=w'.heap.size)(hX:∀k,k<w.heap.size->X' k->X k):bZ X' w' vs x:=
 ⟨h.len,h.one,fun a ha=>by obtain⟨v,h1,h2⟩:=h.st a ha;exact⟨v,h1,h2.keepB hk hs hX⟩,h.dr,fun a ha=>by obtain⟨v,h1,h2⟩:=h.pf a ha;exact⟨v,h1,h2.keepB hk hs hX⟩,
  fun a ha=>by obtain⟨v,h1,h2⟩:=h.tb a ha;exact⟨v,h1,h2.keepB hk hs hX⟩,h.co⟩
def Eo(X:Nat->Prop)(w w':World)(k:Nat):Prop:=X k∨(w.heap.size<=k/\k<w'.heap.size)
theorem bZ.gap{X:Nat->Prop}{w w':World}{vs:List Value}{x:Net}(h:bZ X w vs x)(hb:Below w.heap.size w w'):bZ (Eo X w w') w' vs x:=
 h.keepB (fun k hk _=>hb.block k hk) hb.size (fun k hk e=>e.elim id (fun e=>by omega))
theorem jM{vs:List Value}(h:∀v∈vs,v.oneCell'=true){i:Nat}{u:Value}(hu:u.oneCell'=true):∀v∈vs.set i u,v.oneCell'=true:=fun v hv=>by
 rcases zcx hv with hv|rfl
 · exact h v hv
 · exact hu
theorem bZ.setCo{X:Nat->Prop}{w:World}{vs:List Value}{x:Net}(h:bZ X w vs x){a b:Nat}(ha:a<12)(hb:b<12)(n:Int):bZ X w (vs.set (a*16+4+b) (.int .i64 n)) {x with co:=dN x.co a b n}:=by
 have hl:=h.len;refine⟨by rw[zbL];exact hl,jM h.one rfl,fun c hc=> ?_,fun c hc=> ?_,fun c hc=> ?_,fun c hc=> ?_,fun c d hc hd=> ?_⟩
 · obtain⟨v,h1,h2⟩:=h.st c hc;exact⟨v,by rw[zaF (by omega)];exact h1,h2⟩
 · rw[zaF (by omega)];exact h.dr c hc
 · obtain⟨v,h1,h2⟩:=h.pf c hc;exact⟨v,by rw[zaF (by omega)];exact h1,h2⟩
 · obtain⟨v,h1,h2⟩:=h.tb c hc;exact⟨v,by rw[zaF (by omega)];exact h1,h2⟩
 · show _=some (Value.int .i64 (dN x.co a b n c d));unfold dN;by_cases e:c=a/\d=b
   · rw[if_pos e,e.1,e.2,zbs (by omega)]
   · rw[if_neg e,zaF (by omega)];exact h.co c d hc hd
theorem db{x:Net}{a c:Nat}{y:Nd}(h:c≠a):(x.setN a y).nd c=x.nd c:=kn x y h
theorem bZ.setSt{X:Nat->Prop}{w:World}{vs:List Value}{x:Net}(h:bZ X w vs x){a:Nat}(ha:a<12){u:Value}{l:List ab}(hu:SlX aW X w u l):bZ X w (vs.set (a*16) u) (x.setN a {x.nd a with st:=l}):=by
 have hl:=h.len;refine⟨by rw[zbL];exact hl,jM h.one (by obtain⟨A,c,rfl,_⟩:=hu;rfl),fun c hc=> ?_,fun c hc=> ?_,fun c hc=> ?_,fun c hc=> ?_,fun c d hc hd=> ?_⟩
 · by_cases e:c=a
   · subst e;exact⟨u,by rw[zbs (by omega)],by rw[bo];exact hu⟩
   · obtain⟨v,h1,h2⟩:=h.st c hc;exact⟨v,by rw[zaF (by omega)];exact h1,by rw[db e];exact h2⟩
 · rw[zaF (by omega)];by_cases e:c=a
   · subst e;rw[bo];exact h.dr c hc
   · rw[db e];exact h.dr c hc
 · obtain⟨v,h1,h2⟩:=h.pf c hc;refine⟨v,by rw[zaF (by omega)];exact h1,?_⟩;by_cases e:c=a
   · subst e;rw[bo];exact h2
   · rw[db e];exact h2
 · obtain⟨v,h1,h2⟩:=h.tb c hc;refine⟨v,by rw[zaF (by omega)];exact h1,?_⟩;by_cases e:c=a
   · subst e;rw[bo];exact h2
   · rw[db e];exact h2
 · rw[zaF (by omega)];exact h.co c d hc hd
theorem bZ.setDr{X:Nat->Prop}{w:World}{vs:List Value}{x:Net}(h:bZ X w vs x){a:Nat}(ha:a<12)(d:Bool):bZ X w (vs.set (a*16+1) (.bool d)) (x.setN a {x.nd a with dr:=d}):=by
 have hl:=h.len;refine⟨by rw[zbL];exact hl,jM h.one rfl,fun c hc=> ?_,fun c hc=> ?_,fun c hc=> ?_,fun c hc=> ?_,fun c d hc hd=> ?_⟩
 · obtain⟨v,h1,h2⟩:=h.st c hc;refine⟨v,by rw[zaF (by omega)];exact h1,?_⟩;by_cases e:c=a
   · subst e;rw[bo];exact h2
   · rw[db e];exact h2
 · by_cases e:c=a
   · subst e;rw[bo,zbs (by omega)]
   · rw[db e,zaF (by omega)];exact h.dr c hc
 · obtain⟨v,h1,h2⟩:=h.pf c hc;refine⟨v,by rw[zaF (by omega)];exact h1,?_⟩;by_cases e:c=a
   · subst e;rw[bo];exact h2
   · rw[db e];exact h2
 · obtain⟨v,h1,h2⟩:=h.tb c hc;refine⟨v,by rw[zaF (by omega)];exact h1,?_⟩;by_cases e:c=a
   · subst e;rw[bo];exact h2
   · rw[db e];exact h2
 · rw[zaF (by omega)];exact h.co c d hc hd
theorem bZ.setPf{X:Nat->Prop}{w:World}{vs:List Value}{x:Net}(h:bZ X w vs x){a:Nat}(ha:a<12){u:Value}{l:List ae}(hu:SlX aA X w u l):bZ X w (vs.set (a*16+2) u) (x.setN a {x.nd a with pf:=l}):=by
 have hl:=h.len;refine⟨by rw[zbL];exact hl,jM h.one (by obtain⟨A,c,rfl,_⟩:=hu;rfl),fun c hc=> ?_,fun c hc=> ?_,fun c hc=> ?_,fun c hc=> ?_,fun c d hc hd=> ?_⟩
 · obtain⟨v,h1,h2⟩:=h.st c hc;refine⟨v,by rw[zaF (by omega)];exact h1,?_⟩;by_cases e:c=a
   · subst e;rw[bo];exact h2
   · rw[db e];exact h2
 · rw[zaF (by omega)];by_cases e:c=a
   · subst e;rw[bo];exact h.dr c hc
   · rw[db e];exact h.dr c hc
 · by_cases e:c=a
   · subst e;exact⟨u,by rw[zbs (by omega)],by rw[bo];exact hu⟩
   · obtain⟨v,h1,h2⟩:=h.pf c hc;exact⟨v,by rw[zaF (by omega)];exact h1,by rw[db e];exact h2⟩
 · obtain⟨v,h1,h2⟩:=h.tb c hc;refine⟨v,by rw[zaF (by omega)];exact h1,?_⟩;by_cases e:c=a
   · subst e;rw[bo];exact h2
   · rw[db e];exact h2
 · rw[zaF (by omega)];exact h.co c d hc hd
theorem bZ.setTb{X:Nat->Prop}{w:World}{vs:List Value}{x:Net}(h:bZ X w vs x){a:Nat}(ha:a<12){u:Value}{l:List af}(hu:SlX aB X w u l):bZ X w (vs.set (a*16+3) u) (x.setN a {x.nd a with tb:=l}):=by
 have hl:=h.len;refine⟨by rw[zbL];exact hl,jM h.one (by obtain⟨A,c,rfl,_⟩:=hu;rfl),fun c hc=> ?_,fun c hc=> ?_,fun c hc=> ?_,fun c hc=> ?_,fun c d hc hd=> ?_⟩
 · obtain⟨v,h1,h2⟩:=h.st c hc;refine⟨v,by rw[zaF (by omega)];exact h1,?_⟩;by_cases e:c=a
   · subst e;rw[bo];exact h2
   · rw[db e];exact h2
 · rw[zaF (by omega)];by_cases e:c=a
   · subst e;rw[bo];exact h.dr c hc
   · rw[db e];exact h.dr c hc
 · obtain⟨v,h1,h2⟩:=h.pf c hc;refine⟨v,by rw[zaF (by omega)];exact h1,?_⟩;by_cases e:c=a
   · subst e;rw[bo];exact h2
   · rw[db e];exact h2
 · by_cases e:c=a
   · subst e;exact⟨u,by rw[zbs (by omega)],by rw[bo];exact hu⟩
   · obtain⟨v,h1,h2⟩:=h.tb c hc;exact⟨v,by rw[zaF (by omega)];exact h1,by rw[db e];exact h2⟩
 · rw[zaF (by omega)];exact h.co c d hc hd
structure MeG(X:Nat->Prop)(w:World)(ms:List Value)(y:Nd)(co:Nat->Int):Prop where
 len:ms.length=16
 one:∀v∈ms,v.oneCell'=true
 st:∃v,ms[0]? =some v/\SlX aW X w v y.st
 dr:ms[1]? =some (.bool y.dr)
 pf:∃v,ms[2]? =some v/\SlX aA X w v y.pf
 tb:∃v,ms[3]? =some v/\SlX aB X w v y.tb
 co:∀b,b<12->ms[4+b]? =some (.int .i64 (co b))
theorem bZ.me{X:Nat->Prop}{w:World}{vs:List Value}{x:Net}(h:bZ X w vs x){a:Nat}(ha:a<12):MeG X w ((vs.drop (a*16)).take 16) (x.nd a) (x.co a):=by
 have hl:=h.len;have hg:∀j,j<16->((vs.drop (a*16)).take 16)[j]? =vs[a*16+j]? :=fun j hj=>by rw[zbo,if_pos hj,zbI]
 refine⟨by rw[zat,zaM];omega,fun v hv=>h.one v (zbl (zbk hv)),?_,?_,?_,?_,fun b hb=> ?_⟩
 · obtain⟨v,h1,h2⟩:=h.st a ha;exact⟨v,by rw[hg 0 (by decide)];exact h1,h2⟩
 · rw[hg 1 (by decide)];exact h.dr a ha
 · obtain⟨v,h1,h2⟩:=h.pf a ha;exact⟨v,by rw[hg 2 (by decide)];exact h1,h2⟩
 · obtain⟨v,h1,h2⟩:=h.tb a ha;exact⟨v,by rw[hg 3 (by decide)];exact h1,h2⟩
 · rw[hg (4+b) (by omega),<-Nat.add_assoc];exact h.co a b ha hb
structure bM(w:World)(B:Nat)(vs:List Value):Prop where
 cell:∀i v,vs[i]? =some v->w.cell? ⟨B,i,none⟩=some v
 fz:∀o,w.frozen? ⟨B,o,none⟩=false
 lt:B<w.heap.size
theorem bM.below{w w':World}{B:Nat}{vs:List Value}(h:bM w B vs)(hb:Below w.heap.size w w'):bM w' B vs:=
 ⟨fun i v hv=>aa hb (h.cell i v hv),fun o=>(bFz hb h.lt o).trans (h.fz o),zas h.lt hb.size⟩
theorem bM.set{w:World}{B:Nat}{vs:List Value}(h:bM w B vs){i:Nat}(hi:i<vs.length)(u:Value):bM (w.setCell ⟨B,i,none⟩ u) B (vs.set i u):=by
 refine⟨fun j v hv=> ?_,fun o=>by rw[zaz];exact h.fz o,by simpa [World.setCell]using h.lt⟩;by_cases e:j=i
 · subst e;rw[zbs hi]at hv;injection hv with hv;subst hv;exact zaJ _ _ _ (by rw[h.cell j _ (zad hi)];rfl)
 · rw[zaF (fun x=>e x.symm)]at hv;rw[zaj _ _ _ _ (by intro h9;injection h9 with _ h9 _;omega)];exact h.cell j v hv
theorem bM.other{w:World}{B C o:Nat}{vs:List Value}(h:bM w B vs)(hne:B≠C)(u:Value):bM (w.setCell ⟨C,o,none⟩ u) B vs:=
 ⟨fun i v hv=>(zav (zao _ _ _ _ (show B≠C from hne))).trans (h.cell i v hv),fun o=>by rw[zaz];exact h.fz o,by simpa [World.setCell]using h.lt⟩
theorem bM.box(w:World)(vs:List Value)(T:TypeId)(B:Nat)(hB:B=w.heap.size):bM (w.alloc (.cells vs.toArray T)) B vs:=by
 subst hB;exact⟨fun i v hv=>by rw[zah _ _ _ _ rfl,zaB];exact hv,fun o=>zaL _ _ _ _ rfl,by simp⟩
theorem bM.range{w:World}{B:Nat}{vs:List Value}(h:bM w B vs):w.rangeAt B 0 vs:=fun j v hj=>by rw[zbb];exact h.cell j v hj
theorem bM.mid{w:World}{B:Nat}{vs:List Value}(h:bM w B vs)(o n:Nat):w.rangeAt B o ((vs.drop o).take n):=fun j v hj=>by
 rw[zbo]at hj;split at hj
 · rw[zbI]at hj;exact h.cell _ v hj
 · cases hj
theorem bM.there{w:World}{B:Nat}{vs:List Value}(h:bM w B vs)(n:Nat)(hn:n<=vs.length):w.there B 0 n:=fun j hj=>by
 rw[zbb];exact⟨by rw[h.cell j _ (zad (show j<vs.length by omega))];rfl,h.fz j⟩
theorem bM.laid{w:World}{B n:Nat}{vs:List Value}(hl:vs.length=n)(ht:w.there B 0 n)(hf:∀o,w.frozen? ⟨B,o,none⟩=false)(hlt:B<w.heap.size):bM (w.setCells B 0 vs) B vs:=by
 have hr:=World.rangeAt_setCells_same w B 0 vs (by rw[hl];exact ht);exact⟨fun i v hv=>by have:=hr i v hv;rw[zbb]at this;exact this,fun o=>by rw[World.frozen?_setCells];exact hf o,by rw[aM];exact hlt⟩
end
section
open Go
theorem kX{x:Net}{c:ao}{a:Nat}(h:isN c.b=false∨¬ (1<=c.n/\c.n<=1000)):eQ x c a 1=(x,⟨2,[],0,[]⟩):=by
 rw[mp];by_cases h1:1<=c.n
 · rw[if_pos h1];have:bF x a c.b c.n=(x,2):=by
    unfold bF;rw[if_pos];rcases h with h|h
    · exact .inl h
    · exact .inr (.inr (by omega))
   rw[this]
 · rw[if_neg h1]
theorem tF{x:Net}{c:ao}{a:Nat}(h:isN c.b=false):eQ x c a 2=(x,⟨2,[],0,[]⟩):=by
 show((bF x a c.b 0).1,(⟨(bF x a c.b 0).2,[],0,[]⟩:Rpl))=_;have:bF x a c.b 0=(x,2):=by unfold bF;rw[if_pos (.inl h)]
 rw[this]
theorem oT{x:Net}{a:Nat}{b n:Int}(hb:isN b=true)(hn:0<=n/\n<=1000)(he:(a:Int)=b):bF x a b n=(x,4):=by
 unfold bF;rw[if_neg (by rw[hb];simp;omega),if_pos he]
theorem wC{x:Net}{a:Nat}{b:Int}(hb:isN b=true)(he:¬ (a:Int)=b)(hc:x.co a b.toNat=0):bF x a b 0=(x,6):=by
 unfold bF;rw[if_neg (by rw[hb];simp),if_neg he,if_pos ⟨rfl,hc⟩]
theorem tZ{x:Net}{a:Nat}{b n:Int}(hb:isN b=true)(hn:0<=n/\n<=1000)(he:¬ (a:Int)=b)(hc:¬ (n=0/\x.co a b.toNat=0)):bF x a b n=({x with co:=dN (dN x.co a b.toNat n) b.toNat a n},0):=by
 unfold bF;rw[if_neg (by rw[hb];simp;omega),if_neg he,if_neg hc]
theorem pV{x:Net}{c:ao}{a:Nat}(hb:isN c.b=true)(hn:1<=c.n/\c.n<=1000)(he:(a:Int)=c.b):eQ x c a 1=(x,⟨4,[],0,[]⟩):=by
 rw[mp,if_pos hn.1,oT hb ⟨by omega,hn.2⟩ he]
theorem rW{x:Net}{c:ao}{a:Nat}(hb:isN c.b=true)(he:(a:Int)=c.b):eQ x c a 2=(x,⟨4,[],0,[]⟩):=by
 show((bF x a c.b 0).1,(⟨(bF x a c.b 0).2,[],0,[]⟩:Rpl))=_;rw[oT hb ⟨by omega,by omega⟩ he]
theorem rV{x:Net}{c:ao}{a:Nat}(hb:isN c.b=true)(he:¬ (a:Int)=c.b)(hc:x.co a c.b.toNat=0):eQ x c a 2=(x,⟨6,[],0,[]⟩):=by
 show((bF x a c.b 0).1,(⟨(bF x a c.b 0).2,[],0,[]⟩:Rpl))=_;rw[wC hb he hc]
theorem tD{x:Net}{c:ao}{a:Nat}(hb:isN c.b=true)(hn:1<=c.n/\c.n<=1000)(he:¬ (a:Int)=c.b):eQ x c a 1=({x with co:=dN (dN x.co a c.b.toNat c.n) c.b.toNat a c.n},pP):=by
 rw[mp,if_pos hn.1,tZ hb ⟨by omega,hn.2⟩ he (by omega)];rfl
theorem vV{x:Net}{c:ao}{a:Nat}(hb:isN c.b=true)(he:¬ (a:Int)=c.b)(hc:¬ x.co a c.b.toNat=0):eQ x c a 2=({x with co:=dN (dN x.co a c.b.toNat 0) c.b.toNat a 0},pP):=by
 show((bF x a c.b 0).1,(⟨(bF x a c.b 0).2,[],0,[]⟩:Rpl))=_;rw[tZ hb ⟨by omega,by omega⟩ he (fun h=>hc h.2)];rfl
theorem mF{l:List ae}{p:ae}:((l.filter fun q=> !bA q p).length=l.length)↔inP l p=false:=by
 unfold inP;rw[List.length_filter_eq_length_iff,<-Bool.not_eq_true,zbp];constructor
 · rintro h ⟨q,hq,hs⟩;have:=h q hq;rw[hs]at this;cases this
 · intro h q hq;cases e:bA q p with
   | false=>rfl
   | true=>exact absurd ⟨q,hq,e⟩ h
theorem D0:((List.range 256).all fun n=>(if n%2=0 then(UInt8.ofNat n)+1 else(UInt8.ofNat n)-1)==(UInt8.ofNat n)^^^1)=true:=by decide+kernel
theorem zU{u:UInt8}(h:u.toNat%2=0):u+1=u^^^1:=by
 have h1:=zcm.1 D0 u.toNat (zbT.2 u.toNat_lt);rw[if_pos h,UInt8.ofNat_toNat]at h1;exact eq_of_beq h1
theorem B9{u:UInt8}(h:¬ u.toNat%2=0):u-1=u^^^1:=by
 have h1:=zcm.1 D0 u.toNat (zbT.2 u.toNat_lt);rw[if_neg h,UInt8.ofNat_toNat]at h1;exact eq_of_beq h1
structure jB(l:List ae)(p:ae)(k:Nat)(out:List ae)(done:Bool):Prop where
 no:done=false->out=l.take k/\∀j,(h:j<l.length)->j<k->ak p l[j]=false
 yes:done=true->out=ej (l.take k) p/\∃j,∃h:j<l.length,j<k/\ak p l[j]=true
theorem qP:∀{l:List ae} {p:ae},(∀q∈l,ak p q=false)->ej l p=l++[p]
 | [],_,_=>rfl
 | q::l,p,h=>by
   unfold ej;rw[if_neg (by rw[h q (by simp)];simp),qP (fun x hx=>h x (by simp[hx]))];rfl
theorem qO:∀{l:List ae} {p:ae} (m:List ae),(∃q∈l,ak p q=true)->ej (l++m) p=ej l p++m
 | [],_,_,⟨_,h,_⟩=>by cases h
 | q::l,p,m,⟨y,hy,h⟩=>by
   rw[zbX];unfold ej;by_cases e:ak p q=true
   · rw[if_pos e,if_pos e];rfl
   · rw[if_neg e,if_neg e,qO m (by
      rcases zaS.1 hy with rfl|hy
      · exact absurd h e
      · exact⟨y,hy,h⟩)]
     rfl
theorem wG{l:List ae}{p q:ae}(h:∀x∈l,ak p x=false)(hq:ak p q=true):ej (l++[q]) p=l++[p]++[q]:=by
 induction l with
 | nil=>rw[zcf];unfold ej;rw[if_pos hq];rfl
 | cons a l ih=>
   rw[zbX];unfold ej;rw[if_neg (by rw[h a (by simp)];simp),ih (fun x hx=>h x (by simp[hx]))];rfl
theorem sX{l:List ae}{p:ae}{k:Nat}(h:∀j,(h:j<l.length)->j<k->ak p l[j]=false):∀q∈l.take k,ak p q=false:=fun q hq=>by
 obtain⟨j,hj,rfl⟩:=zau hq;rw[zat]at hj;rw[zbS];exact h j (by omega) (by omega)
theorem rI{l:List ae}{p:ae}{k j:Nat}(h:j<l.length)(hk:j<k)(ho:ak p l[j]=true):∃q∈l.take k,ak p q=true:=
 ⟨l[j],by rw[List.mem_take_iff_getElem];exact⟨j,by omega,rfl⟩,ho⟩
theorem jB.start(l:List ae)(p:ae):jB l p 0 [] false:=⟨fun _=>⟨rfl,fun _ _ h=>absurd h (by omega)⟩,fun h=>by cases h⟩
theorem jB.put{l:List ae}{p:ae}{k:Nat}{out:List ae}(h:jB l p k out false)(hk:k<l.length)(ho:ak p l[k]=true):jB l p (k+1) (out++[p]++[l[k]]) true:=by
 obtain⟨h1,h2⟩:=h.no rfl;refine⟨fun e=>(by cases e),fun _=>⟨?_,k,hk,by omega,ho⟩⟩;rw[zar hk,wG (sX h2) ho,h1]
theorem jB.on{l:List ae}{p:ae}{k:Nat}{out:List ae}(h:jB l p k out false)(hk:k<l.length)(ho:ak p l[k]=false):jB l p (k+1) (out++[l[k]]) false:=by
 obtain⟨h1,h2⟩:=h.no rfl;refine⟨fun _=>⟨by rw[h1,zar hk],fun j hj hjk=> ?_⟩,fun e=>by cases e⟩;by_cases e:j=k
 · subst e;exact ho
 · exact h2 j hj (by omega)
theorem jB.past{l:List ae}{p:ae}{k:Nat}{out:List ae}(h:jB l p k out true)(hk:k<l.length):jB l p (k+1) (out++[l[k]]) true:=by
 obtain⟨h1,j,hj,hjk,ho⟩:=h.yes rfl;refine⟨fun e=>(by cases e),fun _=>⟨?_,j,hj,by omega,ho⟩⟩;rw[zar hk,qO _ (rI hj hjk ho),h1]
theorem jB.end_no{l:List ae}{p:ae}{out:List ae}(h:jB l p l.length out false):out++[p]=ej l p:=by
 obtain⟨h1,h2⟩:=h.no rfl;rw[zaN]at h1;rw[qP (fun q hq=>by obtain⟨j,hj,rfl⟩:=zau hq;exact h2 j hj hj),h1]
theorem jB.end_yes{l:List ae}{p:ae}{out:List ae}(h:jB l p l.length out true):out=ej l p:=by
 obtain⟨h1,_⟩:=h.yes rfl;rw[zaN]at h1;exact h1
theorem vA{st:List ab}(h:OkS st)(a:Nat)(key value:ByteArray):
  (∃i:Nat,∃hi:i<st.length,bU st key=i/\st[i].value=value/\st[i].origin=a/\cD st a key value=(st,[],0))∨
  (((∃i:Nat,∃hi:i<st.length,bU st key=i/\¬ (st[i].value=value/\st[i].origin=a))∨bU st key= -1)/\cD st a key value=if(dj st a key value).2≠0 then(st,[],(dj st a key value).2)else((dj st a key value).1,[key],0)):=by
 rcases ph (l:=st) (k:=key)with⟨h1,h2⟩|⟨i,h1,hi,h2⟩
 · right;refine⟨.inr h1,?_⟩;unfold cD;rw[if_neg];(have:iO st key=(kI,6):=by unfold iO;rw[if_pos h.check,h2]);rw[this];rintro⟨h3,_⟩;cases h3
 · (have hg:iO st key=(st[i],0):=by unfold iO;rw[if_pos h.check,h2]);by_cases e:st[i].value=value/\st[i].origin=a
   · left;exact⟨i,hi,h1,e.1,e.2,by unfold cD;rw[hg,if_pos ⟨rfl,e⟩]⟩
   · right;refine⟨.inl ⟨i,hi,h1,e⟩,?_⟩;unfold cD;rw[hg,if_neg (fun h=>e h.2)]
end
section
open Go Go.RowKit Go.Deep
def vl(X:Nat->Prop)(st:List ab)(a:Nat)(key value:ByteArray)(w:World)(e:Ending)(w':World):Prop:=
 ∃v b,e= .returned (.tuple #[v,.bool b,.int .i64 (cD st a key value).2.2])/\(∃A n c,v= .slice A n c)/\
  ((cD st a key value).2.2=0->SlX aW X w' v (cD st a key value).1/\(cD st a key value).2.1=if b=true then [key]else [])/\Below w.heap.size w w'
theorem nH{X:Nat->Prop}{st s2:List ab}{a:Nat}{key value:ByteArray}{n2:Int}{w w':World}{v:Value}(h:cD st a key value=if n2≠0 then(st,[],n2)else(s2,[key],0))(hv:∃A n c,v= .slice A n c)(hs:SlX aW X w' v s2)(hb:Below w.heap.size w w'):
  vl X st a key value w (.returned (.tuple #[v,.bool true,.int .i64 n2])) w':=by
 by_cases hn:n2=0
 · subst hn;rw[if_neg (by simp)]at h;exact⟨v,true,by rw[h],hv,fun _=>by rw[h];exact⟨hs,rfl⟩,hb⟩
 · rw[if_pos hn]at h;exact⟨v,true,by rw[h],hv,fun e=>absurd (by rw[h]at e;exact e) hn,hb⟩
theorem AM{X:Nat->Prop}{st:List ab}{a:Nat}{key value:ByteArray}{w w':World}{v:Value}(h:cD st a key value=(st,[],0))(hv:∃A n c,v= .slice A n c)(hs:SlX aW X w' v st)(hb:Below w.heap.size w w'):
 vl X st a key value w (.returned (.tuple #[v,.bool false,.int .i64 0])) w':=⟨v,false,by rw[h],hv,fun _=>by rw[h];exact⟨hs,rfl⟩,hb⟩
theorem sW{X:Nat->Prop}(v:Value)(st:List ab)(a:Nat)(key value:ByteArray)(w:World)(h:SlX aW X w v st)(ha:a<12)(hok:OkS st)(hk:key.size<=maxLen)(hv:value.size<=maxLen)(hX:∀k,w.heap.size<=k->¬ X k):
  Calls Tryz.prog 42 #[v,.int .i64 (a:Nat),.string key,.string value] w (vl X st a key value w):=by
 have HX:=zaa h;have HXX:=zaa hX;have hsl:=h.sl;obtain⟨A,c,rfl⟩:=hsl.form;have HPL:=zaa (lX _ st key w hsl);have HPU:=zaa (qv _ st (a:Int) key value w hsl (by unfold inR;omega) hk hv);have ha0:(0:Int)<=(a:Int):=zai a;obtain⟨s2,n2,hs2⟩:∃s2 n2,dj st (a:Int) key value=(s2,n2):=⟨_,_,rfl⟩;rcases vA hok a key value with⟨i,hi,hp,hva,hor,hpo⟩|⟨hcase,hpo⟩
 · have HPO:=zaa hpo;obtain⟨b,off,rfl,hb⟩:=hsl.at_ hi;obtain⟨f0,f1,f2,f3,_⟩:=hsl.ent hi;rw[hva]at f3;rw[hor]at f2;rw[hp]at HPL;have hi0:(0:Int)<=(i:Int):=zai i;(have hii:(i:Int)<(st.length:Int):=by omega);have hgb:=so (rfl:value=value);clear h hok hk hv hX hsl hpo hp hva hor HPU hs2 f0 f1;(go_enter Tryz.func42,Tryz.ntmps42);(go_wp2_with fail);refine HPL.out.mono ?_;rintro e w1 ⟨rfl,rfl⟩;(go_wp2_with fail);(go_ret3);exact AM HPO.out ⟨_,_,_,rfl⟩ HX.out (zac _ _)
 · have HPO:=zaa hpo;rw[hs2]at HPO;rcases hcase with⟨i,hi,hp,hne⟩|hp
   · obtain⟨b,off,rfl,hb⟩:=hsl.at_ hi;obtain⟨f0,f1,f2,f3,_⟩:=hsl.ent hi;rw[hp]at HPL;have hi0:(0:Int)<=(i:Int):=zai i;(have hii:(i:Int)<(st.length:Int):=by omega);by_cases hva:st[i].value=value
     · have hgb:=so hva;(have hob:(st[i].origin==(a:Int))=false:=by rw[beq_eq_false_iff_ne];exact fun e=>hne ⟨hva,e⟩);clear h hok hk hv hX hsl hpo hp hva hne f0 f1;(go_enter Tryz.func42,Tryz.ntmps42);(go_wp2_with fail);refine HPL.out.mono ?_;rintro e w1 ⟨rfl,rfl⟩;(go_wp2_with fail);refine HPU.out.mono ?_;rintro e w2 ⟨v2,rfl,ho2,hb2⟩;rw[hs2]at ho2⊢;obtain⟨A2,n3,c2,rfl⟩:=ap ho2 (by decide);have HSX:=zaa (SlF.toX (X:=X) (ho2.slG (by decide) (fun _ _ _ _ h=>h)) HXX.out);have HB2:=zaa hb2;clear ho2 hb2;(go_wp2_with fail);(go_ret3);exact nH HPO.out ⟨_,_,_,rfl⟩ HSX.out HB2.out
     · have hgb:=oX hva;clear h hok hk hv hX hsl hpo hp hva hne f0 f1 f2;(go_enter Tryz.func42,Tryz.ntmps42);(go_wp2_with fail);refine HPL.out.mono ?_;rintro e w1 ⟨rfl,rfl⟩;(go_wp2_with fail);refine HPU.out.mono ?_;rintro e w2 ⟨v2,rfl,ho2,hb2⟩;rw[hs2]at ho2⊢;obtain⟨A2,n3,c2,rfl⟩:=ap ho2 (by decide);have HSX:=zaa (SlF.toX (X:=X) (ho2.slG (by decide) (fun _ _ _ _ h=>h)) HXX.out);have HB2:=zaa hb2;clear ho2 hb2;(go_wp2_with fail);(go_ret3);exact nH HPO.out ⟨_,_,_,rfl⟩ HSX.out HB2.out
   · rw[hp]at HPL;clear h hok hk hv hX hsl hpo hp;(go_enter Tryz.func42,Tryz.ntmps42);(go_wp2_with fail);refine HPL.out.mono ?_;rintro e w1 ⟨rfl,rfl⟩;(go_wp2_with fail);refine HPU.out.mono ?_;rintro e w2 ⟨v2,rfl,ho2,hb2⟩;rw[hs2]at ho2⊢;obtain⟨A2,n3,c2,rfl⟩:=ap ho2 (by decide);have HSX:=zaa (SlF.toX (X:=X) (ho2.slG (by decide) (fun _ _ _ _ h=>h)) HXX.out);have HB2:=zaa hb2;clear ho2 hb2;(go_wp2_with fail);(go_ret3);exact nH HPO.out ⟨_,_,_,rfl⟩ HSX.out HB2.out
def EK(r:List ae)(w:World)(e:Ending)(w':World):Prop:=∃v',e= .returned v'/\OwR aA 32 w.heap.size w' v' r/\Below w.heap.size w w'
theorem nD(v:Value)(l:List ae)(p:ae)(w:World)(h:Sl aA w v l)(hl:l.length<=1000)(hp:inR p.addr/\inR p.bits):
  Calls Tryz.prog 38 #[v,.agg #[.int .i64 p.addr,.int .i64 p.bits]] w (EK (ej l p) w):=by
 obtain⟨A,c,rfl⟩:=h.form;have H:=zaa h;have HP:=zaa hp;have HLN:=zaa hl;have hal:=(zac w.heap.size w).alloc (zab _) (.cells #[.int .i64 p.addr,.int .i64 p.bits] 32);have HAL:=zaa hal;have bx:∀i,(w.alloc (.cells #[.int .i64 p.addr,.int .i64 p.bits] 32)).cell? ⟨w.heap.size,i,none⟩= #[Value.int .i64 p.addr,.int .i64 p.bits][i]? :=fun i=>zah _ _ _ _ rfl;have HBX:=zaa bx;have HSZ:=zaa (show(w.alloc (.cells #[.int .i64 p.addr,.int .i64 p.bits] 32)).heap.size=w.heap.size+1 by simp);clear h hp hal bx;go_enter Tryz.func38,Tryz.ntmps38
 go_wp2_with fail
 obtain⟨PB,hPB⟩:∃B,B=w.heap.size:=⟨_,rfl⟩;obtain⟨W,hW⟩:∃x,x=w.alloc (.cells #[.int .i64 p.addr,.int .i64 p.bits] 32):=⟨_,rfl⟩;rw[<-hW,<-hPB]at HBX HSZ;rw[<-hW]at HAL;rw[<-hW,<-hPB];have HPB:=zaa hPB;clear hW hPB;go_loopw [5,6,7] (fun o d i wr=>∃(k:Nat) (out:List ae) (done:Bool),k<=l.length/\out.length<=2*k/\i= .int .i64 k/\d= .bool done/\jB l p k out done/\OwR aA 32 W.heap.size wr o out/\Below W.heap.size W wr) (fun _ _ i _=>l.length-(intOf i).toNat)
 case atStart=>exact⟨0,[],false,zap _,zap _,rfl,rfl,jB.start l p,OwR.nil _ _ (zab _),zac _ _⟩
 case round=>
  obtain⟨k,out,done,hk,hol,rfl,rfl,hin,ho,hb⟩:=hrel;have HO:=zaa ho;have HB:=zaa hb;have HIN:=zaa hin;have HOL:=zaa hol;obtain⟨Ao,no,co,rfl⟩:=ap ho (by decide);have HPX:=zaa (fun w' (hb':Below W.heap.size W w')=>(⟨(hb'.cell (p:=⟨PB,0,none⟩) (by show PB<_;have:=HSZ.out;omega)).trans (HBX.out 0),(hb'.cell (p:=⟨PB,1,none⟩) (by show PB<_;have:=HSZ.out;omega)).trans (HBX.out 1)⟩:w'.cell? ⟨PB,0,none⟩=some (.int .i64 p.addr)/\w'.cell? ⟨PB,1,none⟩=some (.int .i64 p.bits)));clear ho hb hin hol;by_cases hlt:k<l.length
  · (have hki:(k:Int)<(l.length:Int):=by omega);have hk0:(0:Int)<=(k:Int):=zai k;obtain⟨b,off,rfl,hbq⟩:=H.out.at_ hlt;have HBQ:=zaa hbq;obtain⟨f1,f2,hwq⟩:=(H.out.below HAL.out).pref hlt;obtain⟨q,hq⟩:∃q,q=l[k]:=⟨_,rfl⟩;rw[<-hq]at f1 f2 hwq;have HQX:=zaa (fun w' (hb':Below W.heap.size W w')=>(⟨(hb'.cell (p:=⟨b,off+k*2,none⟩) (by show b<_;have:=HSZ.out;have:=HPB.out;have:=HBQ.out;omega)).trans f1,(hb'.cell (p:=⟨b,off+k*2+1,none⟩) (by show b<_;have:=HSZ.out;have:=HPB.out;have:=HBQ.out;omega)).trans f2⟩:w'.cell? ⟨b,off+k*2,none⟩=some (.int .i64 q.addr)/\w'.cell? ⟨b,off+k*2+1,none⟩=some (.int .i64 q.bits)));have HQE:=zaa hq;have HQ:=zaa hwq;clear hq hwq f1 f2 hbq;cases done with
    | true=>
      have HNX:=zaa (by have:=HIN.out.past hlt;rw[<-HQE.out]at this;exact this);obtain⟨f1,f2⟩:=HQX.out _ HB.out;obtain⟨b0,b1⟩:=HPX.out _ HB.out;(go_wp2_with fail);(go_quiet (fail));obtain⟨q1,rfl⟩:∃m,m=nq:=⟨nq,rfl⟩;have HB5:=zaa (ag (zac wr.heap.size wr) q1);clear f1 f2 b0 b1;generalize wr.drewN q1=w5 at HB5⊢;have HOP:=zaa (aN (r:=aA) (w:=w5) (B:=(w5).heap.size) (cs:=[.int .i64 q.addr,.int .i64 q.bits]) (x:=q) (E:=32) rfl ⟨rfl,HQ.out⟩);have HO9:=zaa (HO.out.keep HB5.out);have HB9:=zaa (HB.out.trans (HB5.out.mono HB.out.size));obtain⟨g1,g2⟩:=HQX.out _ HB9.out;(go_wp2_with (at_builtin;refine aR (base:=W.heap.size) cK rfl (.tmp 28) (.tmp 33) rfl (au HO9.out _) HOP.out (fun _ _ h=>h) rfl rfl (by have:=HOL.out;have:=HLN.out;simp;omega) (by decide) ?_;intro v6 w6 ho6 hg6));have HB6:=zaa ((au HO9.out _).below_grown (HB9.out.alloc HB9.out.size _) hg6.grown);clear g1 g2 HOP;(go_roundw);(case rel=>exact⟨k+1,_,true,by omega,by have:=HOL.out;simp;omega,by go_num,rfl,HNX.out,ho6,HB6.out⟩);case measure=>simp[intOf];omega
    | false=>
      obtain⟨f1,f2⟩:=HQX.out _ HB.out;obtain⟨b0,b1⟩:=HPX.out _ HB.out;have l1:=cell_regrown f1;have l2:=cell_regrown f2;have l3:=cell_regrown b0;have l4:=cell_regrown b1;have cS:∀d os,Calls Tryz.prog 71 #[.agg #[.int .i64 q.addr,.int .i64 q.bits],.agg #[.int .i64 p.addr,.int .i64 p.bits]] (Sort.grow (redrawn wr d) os) fun e w''=>e= .returned (.bool (ak p q))/\∃y:Regrown,w''=Sort.grow (redrawn wr y.d) y.os:=fun d os=>Calls.regrown_of (pD q p _);rcases hpo:ak p q with _|_
      · rw[hpo]at cS;have HNX:=zaa (by have:=HIN.out.on hlt (by rw[<-HQE.out];exact hpo);rw[<-HQE.out]at this;exact this);clear hpo f1 f2 b0 b1;(go_wp2_with fail);refine wp_region_quiet_below (by kernel_rfl) (by kernel_rfl) ?_;(repeat(quiet_step (fail)));(quiet_step (exact cS _ _));(repeat(quiet_step (fail)));refine wpQuiet_nil ?_;intro _ hw';obtain⟨⟨dq,osq⟩,hw''⟩:=hw';subst hw'';have HB5:=zaa (below_regrown wr dq osq);clear cS l1 l2 l3 l4;generalize Sort.grow (redrawn wr dq) osq=w5 at HB5⊢;have HOP:=zaa (aN (r:=aA) (w:=w5) (B:=(w5).heap.size) (cs:=[.int .i64 q.addr,.int .i64 q.bits]) (x:=q) (E:=32) rfl ⟨rfl,HQ.out⟩);have HO9:=zaa (HO.out.keep HB5.out);have HB9:=zaa (HB.out.trans (HB5.out.mono HB.out.size));obtain⟨g1,g2⟩:=HQX.out _ HB9.out;(go_wp2_with (at_builtin;refine aR (base:=W.heap.size) cK rfl (.tmp 28) (.tmp 33) rfl (au HO9.out _) HOP.out (fun _ _ h=>h) rfl rfl (by have:=HOL.out;have:=HLN.out;simp;omega) (by decide) ?_;intro v6 w6 ho6 hg6));have HB6:=zaa ((au HO9.out _).below_grown (HB9.out.alloc HB9.out.size _) hg6.grown);clear g1 g2 HOP;(go_roundw);(case rel=>exact⟨k+1,_,false,by omega,by have:=HOL.out;simp;omega,by go_num,rfl,HNX.out,ho6,HB6.out⟩);case measure=>simp[intOf];omega
      · rw[hpo]at cS;have HNX:=zaa (by have:=HIN.out.put hlt (by rw[<-HQE.out];exact hpo);rw[<-HQE.out]at this;exact this);clear hpo f1 f2 b0 b1;(go_wp2_with fail);refine wp_region_quiet_below (by kernel_rfl) (by kernel_rfl) ?_;(repeat(quiet_step (fail)));(quiet_step (exact cS _ _));(repeat(quiet_step (fail)));refine wpQuiet_nil ?_;intro _ hw';obtain⟨⟨dq,osq⟩,hw''⟩:=hw';subst hw'';have HB5:=zaa (below_regrown wr dq osq);clear cS l1 l2 l3 l4;generalize Sort.grow (redrawn wr dq) osq=w5 at HB5⊢;have HB7:=zaa (HB.out.trans (HB5.out.mono HB.out.size));have HOP:=zaa (aN (r:=aA) (w:=w5) (B:=w5.heap.size) (cs:=[.int .i64 p.addr,.int .i64 p.bits]) (x:=p) (E:=32) rfl ⟨rfl,HP.out⟩);have HO9:=zaa (HO.out.keep HB5.out);obtain⟨g1,g2⟩:=HPX.out _ HB7.out;go_wp2_with (first
         | (at_builtin;refine aR (base:=W.heap.size) cK rfl (.tmp 24) (.tmp 26) rfl (au HO9.out _) HOP.out (fun _ _ h=>h) rfl rfl (by have:=HOL.out;have:=HLN.out;simp;omega) (by decide) ?_;intro v7 w7 ho7 hg7;have HB8:=zaa ((au HO9.out _).below_grown (HB7.out.alloc HB7.out.size _) hg7.grown);have HO8:=zaa ho7;obtain⟨g3,g4⟩:=HQX.out _ HB8.out;have HOQ:=zaa (aN (r:=aA) (w:=w7) (B:=w7.heap.size) (cs:=[.int .i64 q.addr,.int .i64 q.bits]) (x:=q) (E:=32) rfl ⟨rfl,HQ.out⟩);clear ho7 hg7 g1 g2;obtain⟨A7,n7,c7,rfl⟩:=ap HO8.out (by decide))
         | (at_builtin;refine aR (base:=W.heap.size) cK rfl (.tmp 28) (.tmp 33) rfl (au HO8.out _) HOQ.out (fun _ _ h=>h) rfl rfl (by have:=HOL.out;have:=HLN.out;simp;omega) (by decide) ?_;intro v6 w6 ho6 hg6))
        have HB6:=zaa ((au HO8.out _).below_grown (HB8.out.alloc HB8.out.size _) hg6.grown);clear g3 g4 HOP;(go_roundw);(case rel=>exact⟨k+1,_,true,by omega,by have:=HOL.out;simp;omega,by go_num,rfl,HNX.out,ho6,HB6.out⟩);case measure=>simp[intOf];omega
  · (obtain rfl:k=l.length:=by omega);have hki:¬ (l.length:Int)<(l.length:Int):=by omega
    cases done with
    | true=>
      have HNX:=zaa HIN.out.end_yes;(go_wp2_with fail);(go_ret);exact⟨_,rfl,(by rw[<-HNX.out];exact HO.out.lower HAL.out.size),HAL.out.trans (HB.out.mono HAL.out.size)⟩
    | false=>
      have HNX:=zaa HIN.out.end_no;have HOP:=zaa (aN (r:=aA) (w:=wr) (B:=(wr).heap.size) (cs:=[.int .i64 p.addr,.int .i64 p.bits]) (x:=p) (E:=32) rfl ⟨rfl,HP.out⟩);have HO9:=zaa (HO.out);have HB9:=zaa (HB.out);obtain⟨g1,g2⟩:=HPX.out _ HB9.out;(go_wp2_with (at_builtin;refine aR (base:=W.heap.size) cK rfl (.tmp 37) (.tmp 39) rfl (au HO9.out _) HOP.out (fun _ _ h=>h) rfl rfl (by have:=HOL.out;have:=HLN.out;simp;omega) (by decide) ?_;intro v6 w6 ho6 hg6));have HB6:=zaa ((au HO9.out _).below_grown (HB9.out.alloc HB9.out.size _) hg6.grown);obtain⟨A6,n6,c6,rfl⟩:=ap ho6 (by decide);clear g1 g2 HOP;(go_ret);exact⟨_,rfl,(by rw[<-HNX.out];exact ho6.lower HAL.out.size),HAL.out.trans (HB6.out.mono HAL.out.size)⟩
end
section
open Go
theorem rT{x:Net}{c:ao}{a:Nat}(h:ai [c.pre]≠0):eQ x c a 4=(x,⟨ai [c.pre],[],0,[]⟩):=by
 show((ew x a c.pre).1,(⟨(ew x a c.pre).2,[],0,[]⟩:Rpl))=_;have:ew x a c.pre=(x,ai [c.pre]):=by unfold ew;rw[if_pos h]
 rw[this]
theorem pW{x:Net}{c:ao}{a:Nat}(h:ai [c.pre]=0)(h2:ai (ej (x.nd a).pf c.pre)≠0):eQ x c a 4=(x,⟨ai (ej (x.nd a).pf c.pre),[],0,[]⟩):=by
 show((ew x a c.pre).1,(⟨(ew x a c.pre).2,[],0,[]⟩:Rpl))=_;have:ew x a c.pre=(x,ai (ej (x.nd a).pf c.pre)):=by unfold ew;rw[if_neg (fun e=>e h),if_pos h2]
 rw[this]
theorem tE{x:Net}{c:ao}{a:Nat}(h:ai [c.pre]=0)(h2:ai (ej (x.nd a).pf c.pre)=0):eQ x c a 4=(x.setN a {x.nd a with pf:=ej (x.nd a).pf c.pre},pP):=by
 show((ew x a c.pre).1,(⟨(ew x a c.pre).2,[],0,[]⟩:Rpl))=_;have:ew x a c.pre=(x.setN a {x.nd a with pf:=ej (x.nd a).pf c.pre},0):=by unfold ew;rw[if_neg (fun e=>e h),if_neg (fun e=>e h2)]
 rw[this];rfl
theorem pT{x:Net}{c:ao}{a:Nat}(h:((x.nd a).pf.filter fun q=> !bA q c.pre).length=(x.nd a).pf.length):eQ x c a 5=(x,⟨6,[],0,[]⟩):=by
 show((fg x a c.pre).1,(⟨(fg x a c.pre).2,[],0,[]⟩:Rpl))=_;have:fg x a c.pre=(x,6):=by unfold fg;rw[if_neg (by rw[mF.1 h];simp)]
 rw[this]
theorem tC{x:Net}{c:ao}{a:Nat}(h:¬ ((x.nd a).pf.filter fun q=> !bA q c.pre).length=(x.nd a).pf.length):eQ x c a 5=(x.setN a {x.nd a with pf:=(x.nd a).pf.filter fun q=> !bA q c.pre},pP):=by
 show((fg x a c.pre).1,(⟨(fg x a c.pre).2,[],0,[]⟩:Rpl))=_;have h1:inP (x.nd a).pf c.pre=true:=by
  cases e:inP (x.nd a).pf c.pre with
  | true=>rfl
  | false=>exact absurd (mF.2 e) h
 have:fg x a c.pre=(x.setN a {x.nd a with pf:=(x.nd a).pf.filter fun q=> !bA q c.pre},0):=by unfold fg;rw[if_pos h1]
 rw[this];rfl
def j6(x:Net)(a:Nat):List ab × List ByteArray × Int:=cD (x.nd a).st a (bQ a) (dB x a)
def j5(x:Net)(a:Nat):List ab × List ByteArray × Int:=cD (j6 x a).1 a (dO a) (fe x a)
theorem vT{x:Net}{c:ao}{a:Nat}(h:(j6 x a).2.2≠0):eQ x c a 6=(x,⟨(j6 x a).2.2,[],0,[]⟩):=by
 show((dv x a).1,(⟨(dv x a).2.2,[],0,(dv x a).2.1⟩:Rpl))=_;have:dv x a=(x,[],(j6 x a).2.2):=by unfold dv;exact if_pos h
 rw[this]
theorem vS{x:Net}{c:ao}{a:Nat}(h:(j6 x a).2.2=0)(h2:(j5 x a).2.2≠0):eQ x c a 6=(x,⟨(j5 x a).2.2,[],0,[]⟩):=by
 show((dv x a).1,(⟨(dv x a).2.2,[],0,(dv x a).2.1⟩:Rpl))=_;have:dv x a=(x,[],(j5 x a).2.2):=by unfold dv;exact(if_neg (fun e=>e h)).trans (if_pos h2)
 rw[this]
theorem vR{x:Net}{c:ao}{a:Nat}(h:(j6 x a).2.2=0)(h2:(j5 x a).2.2=0):eQ x c a 6=(x.setN a {x.nd a with st:=(j5 x a).1},⟨0,[],0,(j6 x a).2.1++(j5 x a).2.1⟩):=by
 show((dv x a).1,(⟨(dv x a).2.2,[],0,(dv x a).2.1⟩:Rpl))=_;have:dv x a=(x.setN a {x.nd a with st:=(j5 x a).1},(j6 x a).2.1++(j5 x a).2.1,0):=by unfold dv;exact(if_neg (fun e=>e h)).trans (if_neg (fun e=>e h2))
 rw[this]
theorem ot{x:Net}{c:ao}{a:Nat}(h:isN c.b=false):eQ x c a 7=(x,⟨2,[],0,[]⟩):=by
 show((bT x a c.b c.n).1,(⟨(bT x a c.b c.n).2.2,[],0,(bT x a c.b c.n).2.1⟩:Rpl))=_;have:bT x a c.b c.n=(x,[],2):=by unfold bT;rw[if_pos h]
 rw[this]
theorem pU{x:Net}{c:ao}{a b:Nat}(hb:c.b=b)(h:isN c.b=true)(hc:x.co a b=0):eQ x c a 7=(x,⟨6,[],0,[]⟩):=by
 show((bT x a c.b c.n).1,(⟨(bT x a c.b c.n).2.2,[],0,(bT x a c.b c.n).2.1⟩:Rpl))=_;have:bT x a c.b c.n=(x,[],6):=by unfold bT;rw[if_neg (by rw[h];simp),if_pos (by rw[hb];exact hc)]
 rw[this]
theorem iH{x:Net}{c:ao}{a b:Nat}{l:List ab}{e:Int}(hb:c.b=b)(h:isN c.b=true)(hc:¬ x.co a b=0)(hd:eP (dt (x.nd a).st c.n)=(l,e))(he:e≠0):eQ x c a 7=(x,⟨e,[],0,[]⟩):=by
 show((bT x a c.b c.n).1,(⟨(bT x a c.b c.n).2.2,[],0,(bT x a c.b c.n).2.1⟩:Rpl))=_;have:bT x a c.b c.n=(x,[],e):=by unfold bT;rw[if_neg (by rw[h];simp),if_neg (by rw[hb];exact hc),hd,if_pos he]
 rw[this]
theorem jj{x:Net}{c:ao}{a b:Nat}{l s:List ab}{ks:List ByteArray}{e:Int}(hb:c.b=b)(h:isN c.b=true)(hc:¬ x.co a b=0)(hd:eP (dt (x.nd a).st c.n)=(l,0))(hm:cJ aH (x.nd b).st l=(s,ks,e)):
  eQ x c a 7=(x.setN b {x.nd b with st:=s},⟨0,[],0,ks⟩):=by
 show((bT x a c.b c.n).1,(⟨(bT x a c.b c.n).2.2,[],0,(bT x a c.b c.n).2.1⟩:Rpl))=_;have:bT x a c.b c.n=(x.setN b {x.nd b with st:=s},ks,0):=by
  unfold bT;rw[if_neg (by rw[h];simp),if_neg (by rw[hb];exact hc),hd,if_neg (by simp),hb];simp only[zaX,hm]
 rw[this]
theorem pS{x:Net}{c:ao}{a:Nat}{l:List ab}{e:Int}(hp:dj (x.nd a).st a c.key c.value=(l,e))(he:e≠0):eQ x c a 8=(x,⟨e,[],0,[]⟩):=by
 show((df x a c.key c.value).1,(⟨(df x a c.key c.value).2.2,[],0,(df x a c.key c.value).2.1⟩:Rpl))=_;have:df x a c.key c.value=(x,[],e):=by unfold df;rw[hp,if_pos he]
 rw[this]
theorem rS{x:Net}{c:ao}{a:Nat}{l:List ab}(hp:dj (x.nd a).st a c.key c.value=(l,0)):eQ x c a 8=(x.setN a {x.nd a with st:=l},⟨0,[],0,[c.key]⟩):=by
 show((df x a c.key c.value).1,(⟨(df x a c.key c.value).2.2,[],0,(df x a c.key c.value).2.1⟩:Rpl))=_;have:df x a c.key c.value=(x.setN a {x.nd a with st:=l},[c.key],0):=by unfold df;rw[hp,if_neg (by simp)]
 rw[this]
theorem vU(x:Net)(c:ao)(a:Nat):eQ x c a 9=(x.setN a {x.nd a with tb:=cH (x.nd a).st a 12},pP):=rfl
theorem Bh(x:Net)(c:ao)(a:Nat):eQ x c a 10=(x,⟨(du x a c.n c.m).2.2,(du x a c.n c.m).1,(du x a c.n c.m).2.1,[]⟩):=rfl
theorem pX{x:Net}{c:ao}{a:Nat}(h:¬ (0<=c.n/\c.n<=1)):eQ x c a 3=(x,⟨2,[],0,[]⟩):=by
 rw[mo,if_neg (by omega)]
theorem rU{x:Net}{c:ao}{a:Nat}(h:0<=c.n/\c.n<=1):eQ x c a 3=(x.setN a {x.nd a with dr:=c.n==1},pP):=by
 rw[mo,if_pos (by omega)]
end
section
open Go Go.RowKit Go.Deep
def ao.agG(c:ao):Value:= .agg #[.int .i64 c.kind,.int .i64 c.a,.int .i64 c.b,.int .i64 c.n,.int .i64 c.m,.int .i64 c.pre.addr,.int .i64 c.pre.bits,.string c.key,.string c.value]
theorem be(n:Int)(w:World){b:Bool}(hb:isN n=b):Calls Tryz.prog 37 #[.int .i64 n] w fun e w'=>e= .returned (.bool b)/\w=w':=by
 have HB:=zaa (show(decide ((0:Int)<=n)&&decide (n<=11))=b by rw[<-hb];unfold isN;congr 1;rw[decide_eq_decide];omega);have HI:=zaa (aU n 0 11 w);rw[HB.out]at HI;clear hb;go_enter Tryz.func37,Tryz.ntmps37
 go_wp2_with fail
 refine HI.out.mono ?_;rintro e w' ⟨rfl,rfl⟩;go_wp2_with fail
 go_ret
 exact⟨rfl,rfl⟩
def uR(X:Nat->Prop)(B:Nat)(k:Nat):Prop:=X k∨(B<=k/\k<B+6)
def ed(X:Nat->Prop)(r:Net × Rpl)(w:World)(e:Ending)(w':World):Prop:=
 ∃vs vp vk,e= .returned (.tuple #[.agg vs.toArray,.agg #[.int .i64 r.2.code,vp,.int .i64 r.2.cost,vk]])/\bZ X w' vs r.1/\SlF aI w.heap.size w' vp r.2.path/\SlF bs w.heap.size w' vk r.2.keys/\Below w.heap.size w w'
structure GS(X:Nat->Prop)(w W:World)(B A R Q O:Nat)(vs:List Value)(x:Net)(c:ao)(os:List Value):Prop where
 eq:B=w.heap.size
 ea:A=B+1
 er:R=B+2
 eq':Q=B+3
 eo:O=B+4
 b:Below w.heap.size w W
 sz:B+5<=W.heap.size
 n:bM W B vs
 a:bM W A c.cells
 rn:∃zs:List Value,zs.length=192/\bM W R zs
 rr:∃zs:List Value,zs.length=4/\bM W Q zs
 o:bM W O os
 ol:os.length=4
 oo:∀v∈os,v.oneCell'=true
 net:bZ (uR X B) W vs x
theorem GS.below{X:Nat->Prop}{w W W':World}{B A R Q O:Nat}{vs:List Value}{x:Net}{c:ao}{os:List Value}(h:GS X w W B A R Q O vs x c os)(hb:Below W.heap.size W W'):GS X w W' B A R Q O vs x c os:=
 ⟨h.eq,h.ea,h.er,h.eq',h.eo,h.b.trans (hb.mono h.b.size),zax h.sz hb.size,h.n.below hb,h.a.below hb,by obtain⟨zs,h1,h2⟩:=h.rn;exact⟨zs,h1,h2.below hb⟩,by obtain⟨zs,h1,h2⟩:=h.rr;exact⟨zs,h1,h2.below hb⟩,h.o.below hb,h.ol,h.oo,h.net.below hb⟩
theorem bZ.setBox{X:Nat->Prop}{w:World}{vs:List Value}{x:Net}{C o:Nat}(h:bZ X w vs x)(hC:X C)(u:Value):bZ X (w.setCell ⟨C,o,none⟩ u) vs x:=
 h.keepB (fun k _ hk=>zao _ _ _ _ (show k≠C from fun e=>hk (e▸hC))) (by simp[World.setCell]) (fun _ _ e=>e)
theorem SlX.setBox{α:Type}{r:Rep α}{X:Nat->Prop}{w:World}{v:Value}{xs:List α}{C o:Nat}(h:SlX r X w v xs)(hC:X C)(u:Value):SlX r X (w.setCell ⟨C,o,none⟩ u) v xs:=
 h.keepB (fun k _ hk=>zao _ _ _ _ (show k≠C from fun e=>hk (e▸hC))) (by simp[World.setCell]) (fun _ _ e=>e)
theorem lG{X:Nat->Prop}{B k:Nat}(h1:B<=k)(h2:k<B+6):uR X B k:= .inr ⟨h1,h2⟩
theorem cg(w:World)(p:Addr)(u:Value):(w.setCell p u).heap.size=w.heap.size:=by simp[World.setCell]
theorem GS.setO{X:Nat->Prop}{w W:World}{B A R Q O:Nat}{vs:List Value}{x:Net}{c:ao}{os:List Value}(h:GS X w W B A R Q O vs x c os){i:Nat}(hi:i<4){u:Value}(hu:u.oneCell'=true):GS X w (W.setCell ⟨O,i,none⟩ u) B A R Q O vs x c (os.set i u):=by
 have h1:=h.eq;have h2:=h.ea;have h3:=h.er;have h4:=h.eq';have h5:=h.eo;refine⟨h1,h2,h3,h4,h5,h.b.setCell (p:=⟨O,i,none⟩) (by show w.heap.size<=O;omega) _,by rw[cg];exact h.sz,h.n.other (by omega) _,h.a.other (by omega) _,?_,?_,h.o.set (by rw[h.ol];exact hi) _,by rw[zbL];exact h.ol,jM h.oo hu,h.net.setBox (lG (by omega) (by omega)) _⟩
 · obtain⟨zs,h6,h7⟩:=h.rn;exact⟨zs,h6,h7.other (by omega) _⟩
 · obtain⟨zs,h6,h7⟩:=h.rr;exact⟨zs,h6,h7.other (by omega) _⟩
theorem GS.setN{X:Nat->Prop}{w W:World}{B A R Q O:Nat}{vs:List Value}{x x':Net}{c:ao}{os:List Value}(h:GS X w W B A R Q O vs x c os){i:Nat}(hi:i<192){u:Value}(hn:bZ (uR X B) W (vs.set i u) x'):GS X w (W.setCell ⟨B,i,none⟩ u) B A R Q O (vs.set i u) x' c os:=by
 have h1:=h.eq;have h2:=h.ea;have h3:=h.er;have h4:=h.eq';have h5:=h.eo;refine⟨h1,h2,h3,h4,h5,h.b.setCell (p:=⟨B,i,none⟩) (by show w.heap.size<=B;omega) _,by rw[cg];exact h.sz,h.n.set (by rw[h.net.len];exact hi) _,h.a.other (by omega) _,?_,?_,h.o.other (by omega) _,h.ol,h.oo,hn.setBox (lG (by omega) (by omega)) _⟩
 · obtain⟨zs,h6,h7⟩:=h.rn;exact⟨zs,h6,h7.other (by omega) _⟩
 · obtain⟨zs,h6,h7⟩:=h.rr;exact⟨zs,h6,h7.other (by omega) _⟩
theorem iY(X:Nat->Prop)(w:World)(vs:List Value)(x:Net)(kd a b n m ad bt:Int)(key value:ByteArray)(h:bZ X w vs x):
  ∃W B A R Q O,B=w.heap.size/\A=w.heap.size+1/\R=w.heap.size+1+1/\Q=w.heap.size+1+1+1/\O=w.heap.size+1+1+1+1/\
  (((((w.alloc (.cells vs.toArray 51)).alloc (.cells #[.int .i64 kd,.int .i64 a,.int .i64 b,.int .i64 n,.int .i64 m,.int .i64 ad,.int .i64 bt,.string key,.string value] 34)).alloc (.cells Tryz.zeroCells51 51)).alloc (.cells #[.int .i64 0,.slice none 0 0,.int .i64 0,.slice none 0 0] 57)).alloc (.cells #[.int .i64 0,.slice none 0 0,.int .i64 0,.slice none 0 0] 57))=W/\W.heap.size=B+5/\
  GS X w W B A R Q O vs x ⟨kd,a,b,n,m,⟨ad,bt⟩,key,value⟩ [.int .i64 0,.slice none 0 0,.int .i64 0,.slice none 0 0]:=by
 refine⟨_,_,_,_,_,_,rfl,rfl,rfl,rfl,rfl,rfl,by simp,?_⟩;have z:Tryz.zeroCells51.toList.length=192:=by kernel_rfl
 have k1:=bM.box w vs 51 _ rfl;have b1:Below w.heap.size w (w.alloc (.cells vs.toArray 51)):=(zac _ _).alloc (zab _) _;have z1:(w.alloc (.cells vs.toArray 51)).heap.size=w.heap.size+1:=by simp
 generalize w.alloc (.cells vs.toArray 51)=w1 at*;have k2:=bM.box w1 [.int .i64 kd,.int .i64 a,.int .i64 b,.int .i64 n,.int .i64 m,.int .i64 ad,.int .i64 bt,.string key,.string value] 34 _ rfl;have b2:=(zac w1.heap.size w1).alloc (zab _) (.cells #[.int .i64 kd,.int .i64 a,.int .i64 b,.int .i64 n,.int .i64 m,.int .i64 ad,.int .i64 bt,.string key,.string value] 34);have z2:(w1.alloc (.cells #[.int .i64 kd,.int .i64 a,.int .i64 b,.int .i64 n,.int .i64 m,.int .i64 ad,.int .i64 bt,.string key,.string value] 34)).heap.size=w1.heap.size+1:=by simp
 generalize w1.alloc (.cells #[.int .i64 kd,.int .i64 a,.int .i64 b,.int .i64 n,.int .i64 m,.int .i64 ad,.int .i64 bt,.string key,.string value] 34)=w2 at*;have k3:=bM.box w2 Tryz.zeroCells51.toList 51 _ rfl;rw[Array.toArray_toList]at k3;have b3:=(zac w2.heap.size w2).alloc (zab _) (.cells Tryz.zeroCells51 51);have z3:(w2.alloc (.cells Tryz.zeroCells51 51)).heap.size=w2.heap.size+1:=by simp
 generalize w2.alloc (.cells Tryz.zeroCells51 51)=w3 at*;have k4:=bM.box w3 [.int .i64 0,.slice none 0 0,.int .i64 0,.slice none 0 0] 57 _ rfl;have b4:=(zac w3.heap.size w3).alloc (zab _) (.cells #[.int .i64 0,.slice none 0 0,.int .i64 0,.slice none 0 0] 57);have z4:(w3.alloc (.cells #[.int .i64 0,.slice none 0 0,.int .i64 0,.slice none 0 0] 57)).heap.size=w3.heap.size+1:=by simp
 generalize w3.alloc (.cells #[.int .i64 0,.slice none 0 0,.int .i64 0,.slice none 0 0] 57)=w4 at*;have k5:=bM.box w4 [.int .i64 0,.slice none 0 0,.int .i64 0,.slice none 0 0] 57 _ rfl;have b5:=(zac w4.heap.size w4).alloc (zab _) (.cells #[.int .i64 0,.slice none 0 0,.int .i64 0,.slice none 0 0] 57);have z5:(w4.alloc (.cells #[.int .i64 0,.slice none 0 0,.int .i64 0,.slice none 0 0] 57)).heap.size=w4.heap.size+1:=by simp
 generalize w4.alloc (.cells #[.int .i64 0,.slice none 0 0,.int .i64 0,.slice none 0 0] 57)=w5 at*;have e1:w1.heap.size=w.heap.size+1:=z1;have e2:w2.heap.size=w.heap.size+1+1:=by omega
 have e3:w3.heap.size=w.heap.size+1+1+1:=by omega
 have e4:w4.heap.size=w.heap.size+1+1+1+1:=by omega
 rw[e1]at k2;rw[e2]at k3;rw[e3]at k4;rw[e4]at k5;have b25:=b2.trans ((b3.trans ((b4.trans (b5.mono (by omega))).mono (by omega))).mono (by omega));have b35:=b3.trans ((b4.trans (b5.mono (by omega))).mono (by omega));have b45:=b4.trans (b5.mono (by omega));have b15:=b1.trans (b25.mono (by omega));refine⟨rfl,rfl,rfl,rfl,rfl,b15,by omega,k1.below b25,k2.below b35,⟨_,z,k3.below b45⟩,⟨_,rfl,k4.below b5⟩,k5,rfl,fun v hv=>by simp at hv;rcases hv with rfl|rfl|rfl|rfl<;>rfl,?_⟩;exact h.keepB (fun k hk _=>b15.block k hk) b15.size (fun k hk e=>e.elim id (fun e=>by omega))
theorem x8{W:World}{M:Nat}{zs ms:List Value}{T:TypeId}(hM:M=W.heap.size)(hz:zs.length=16)(hm:ms.length=16):
  bM ((W.alloc (.cells zs.toArray T)).setCells M 0 ms) M ms/\Below W.heap.size W ((W.alloc (.cells zs.toArray T)).setCells M 0 ms):=by
 have k:=bM.box W zs T M hM;have hb:=(zac W.heap.size W).alloc (zab _) (.cells zs.toArray T);exact⟨bM.laid hm (fun j hj=>k.there 16 (by omega) j hj) k.fz k.lt,bz (by omega) ms 0 _ hb⟩
theorem bS{n:Nat}(h:n=192):(Tryz.prog.info? 51).map (·.size)=some n:=by subst h;kernel_rfl
theorem gj{n:Nat}(h:n=4):(Tryz.prog.info? 57).map (·.size)=some n:=by subst h;kernel_rfl
theorem bu{n:Nat}(h:n=16):(Tryz.prog.info? 50).map (·.size)=some n:=by subst h;kernel_rfl
structure GM(X:Nat->Prop)(W:World)(B M q:Nat)(ms:List Value)(x:Net):Prop where
 em:M=B+5
 m:bM W M ms
 me:MeG (uR X B) W ms (x.nd q) (x.co q)
theorem GM.below{X:Nat->Prop}{W W':World}{B M q:Nat}{ms:List Value}{x:Net}(h:GM X W B M q ms x)(hb:Below W.heap.size W W'):GM X W' B M q ms x:=
 ⟨h.em,h.m.below hb,h.me.len,h.me.one,by obtain⟨v,h1,h2⟩:=h.me.st;exact⟨v,h1,h2.below hb⟩,h.me.dr,by obtain⟨v,h1,h2⟩:=h.me.pf;exact⟨v,h1,h2.below hb⟩,by obtain⟨v,h1,h2⟩:=h.me.tb;exact⟨v,h1,h2.below hb⟩,h.me.co⟩
theorem GM.set{X:Nat->Prop}{W:World}{B M q C o:Nat}{ms:List Value}{x:Net}(h:GM X W B M q ms x)(h1:B<=C)(h2:C<B+5)(u:Value):GM X (W.setCell ⟨C,o,none⟩ u) B M q ms x:=by
 have hC:uR X B C:=lG h1 (by omega);exact⟨h.em,h.m.other (by have:=h.em;omega) _,h.me.len,h.me.one,by obtain⟨v,h1,h2⟩:=h.me.st;exact⟨v,h1,h2.setBox hC _⟩,h.me.dr,by obtain⟨v,h1,h2⟩:=h.me.pf;exact⟨v,h1,h2.setBox hC _⟩,by obtain⟨v,h1,h2⟩:=h.me.tb;exact⟨v,h1,h2.setBox hC _⟩,h.me.co⟩
theorem kg{X:Nat->Prop}{w W:World}{B A R Q O q:Nat}{vs:List Value}{x:Net}{c:ao}{os:List Value}(g:GS X w W B A R Q O vs x c os)(hz:W.heap.size=B+5)(hq:q<12):
  ∃W2 M ms,M=W.heap.size/\ms=(vs.drop (q*16)).take 16/\ms.length=16/\(∀v∈ms,v.oneCell'=true)/\W.rangeAt B (q*16) ms/\
   (W.alloc (.cells #[.slice none 0 0,.bool false,.slice none 0 0,.slice none 0 0,.int .i64 0,.int .i64 0,.int .i64 0,.int .i64 0,.int .i64 0,.int .i64 0,.int .i64 0,.int .i64 0,.int .i64 0,.int .i64 0,.int .i64 0,.int .i64 0] 50)).there M 0 16/\
   (W.alloc (.cells #[.slice none 0 0,.bool false,.slice none 0 0,.slice none 0 0,.int .i64 0,.int .i64 0,.int .i64 0,.int .i64 0,.int .i64 0,.int .i64 0,.int .i64 0,.int .i64 0,.int .i64 0,.int .i64 0,.int .i64 0,.int .i64 0] 50)).setCells M 0 ms=W2/\
   GS X w W2 B A R Q O vs x c os/\GM X W2 B M q ms x/\B+6<=W2.heap.size:=by
 have hme:=g.net.me hq;refine⟨_,_,_,rfl,rfl,hme.len,hme.one,g.n.mid _ _,?_,rfl,?_,?_,?_⟩
 · exact(bM.box W [.slice none 0 0,.bool false,.slice none 0 0,.slice none 0 0,.int .i64 0,.int .i64 0,.int .i64 0,.int .i64 0,.int .i64 0,.int .i64 0,.int .i64 0,.int .i64 0,.int .i64 0,.int .i64 0,.int .i64 0,.int .i64 0] 50 _ rfl).there 16 (by simp)
 · exact g.below (x8 (zs:=[.slice none 0 0,.bool false,.slice none 0 0,.slice none 0 0,.int .i64 0,.int .i64 0,.int .i64 0,.int .i64 0,.int .i64 0,.int .i64 0,.int .i64 0,.int .i64 0,.int .i64 0,.int .i64 0,.int .i64 0,.int .i64 0]) (T:=50) rfl rfl hme.len).2
 · have hl:=x8 (W:=W) (zs:=[.slice none 0 0,.bool false,.slice none 0 0,.slice none 0 0,.int .i64 0,.int .i64 0,.int .i64 0,.int .i64 0,.int .i64 0,.int .i64 0,.int .i64 0,.int .i64 0,.int .i64 0,.int .i64 0,.int .i64 0,.int .i64 0]) (T:=50) rfl rfl hme.len;exact⟨hz,hl.1,hme.len,hme.one,by obtain⟨v,h1,h2⟩:=hme.st;exact⟨v,h1,h2.below hl.2⟩,hme.dr,by obtain⟨v,h1,h2⟩:=hme.pf;exact⟨v,h1,h2.below hl.2⟩,by obtain⟨v,h1,h2⟩:=hme.tb;exact⟨v,h1,h2.below hl.2⟩,hme.co⟩
 · rw[aM,zbq];omega
theorem aD{P:Program}{ops:Array Oper}{op:Oper}{a:Act}{w:World}{K:Act->World->Prop}{Q:Exit->Act->World->Prop}{E':Prop}(hgd:op.guard=none)(ty:TypeId)(x y:Operand)(ho:op.op= .store ty x y)
  (b o:Nat) (cells:Array Value) (hx:a.eval x= .pointer (some ⟨b,o,none⟩)) (hy:a.eval y= .agg cells)
  (ht:w.there b o cells.size) (hi:(P.info? ty).map (·.size)=some cells.size) (h1:cells.all (·.oneCell')=true)
  (h:K (a.put op.dst undef) (w.setCells b o cells.toList)):if Region.wanted op (yielded ops a.tmps)=true then Oper.wp P op a w K Q else E':=by
 have hw:Region.wanted op (yielded ops a.tmps)=true:=by simp[Region.wanted,hgd]
 rw[if_pos hw];exact wp_store_mid ty x y ho b o cells hx hy ht hi h1 h
theorem pR{P:Program}{fn:Func}{a b:Tmp}{t u:TypeId}(h:fn.results= #[.cell a t,.cell b u]){tmps:Array Value}{w:World}{ad bd:Addr}{v1 v2:Value}(hp:tmps.getD a undef= .pointer (some ad))(hq:tmps.getD b undef= .pointer (some bd))
  (hl:(loadVar t ad).run P w= .ok v1 w) (hm:(loadVar u bd).run P w= .ok v2 w):(results fn tmps).run P w= .ok (.tuple #[v1,v2]) w:=by
 have hp':tmps[a]?.getD undef= .pointer (some ad):=by simpa using hp
 have hq':tmps[b]?.getD undef= .pointer (some bd):=by simpa using hq
 simp[results,h,hp',hq',hl,hm,asAddr]
structure Aw(W W':World)(R Q:Nat)(vs os:List Value):Prop where
 keep:∀k,k≠R->k≠Q->W'.heap[k]? =W.heap[k]?
 size:W'.heap.size=W.heap.size
 eos:W'.os=W.os
 tape:W'.tape=W.tape
 output:W'.output=W.output
 r1:W'.rangeAt R 0 vs
 r2:W'.rangeAt Q 0 os
theorem bm{g k:Nat}(h:k≠g):∀(vs:List Value) (o:Nat) (w:World),(w.setCells g o vs).heap[k]? =w.heap[k]?
 | [],_,_=>rfl
 | v::r,o,w=>(bm h r (o+1) (w.setCell ⟨g,o,none⟩ v)).trans (zao _ _ _ _ (by exact h))
theorem gL(g:Nat):∀(vs:List Value) (o:Nat) (w:World),(w.setCells g o vs).os=w.os/\(w.setCells g o vs).tape=w.tape/\(w.setCells g o vs).output=w.output
 | [],_,_=>⟨rfl,rfl,rfl⟩
 | v::r,o,w=>gL g r (o+1) (w.setCell ⟨g,o,none⟩ v)
theorem dR{W:World}{g k o:Nat}{vs us:List Value}(h:k≠g)(hr:W.rangeAt k 0 us):(W.setCells g o vs).rangeAt k 0 us:=fun j v hj=>(zav (bm h vs o W)).trans (hr j v hj)
theorem cM{W:World}{g k o n:Nat}{vs:List Value}(h:k≠g)(hr:W.there k 0 n):(W.setCells g o vs).there k 0 n:=fun j hj=>by
 have hb:=bm (g:=g) h vs o W;exact⟨by rw[zav hb];exact(hr j hj).1,by rw[zaK hb];exact(hr j hj).2⟩
theorem Dk{W:World}{R Q:Nat}{vs us:List Value}(hne:R≠Q)(h1:W.there R 0 vs.length)(h2:W.there Q 0 us.length):Aw W ((W.setCells R 0 vs).setCells Q 0 us) R Q vs us:=by
 obtain⟨a1,a2,a3⟩:=gL R vs 0 W;obtain⟨b1,b2,b3⟩:=gL Q us 0 (W.setCells R 0 vs);exact⟨fun k h3 h4=>(bm h4 _ _ _).trans (bm h3 _ _ _),by rw[aM,aM],b1.trans a1,b2.trans a2,b3.trans a3,dR hne (World.rangeAt_setCells_same W R 0 vs h1),World.rangeAt_setCells_same _ Q 0 us (cM (fun e=>hne e.symm) h2)⟩
theorem GS.thereR{X:Nat->Prop}{w W:World}{B A R Q O:Nat}{vs:List Value}{x:Net}{c:ao}{os:List Value}(h:GS X w W B A R Q O vs x c os):W.there R 0 192:=by
 obtain⟨zs,h1,h2⟩:=h.rn;exact h2.there 192 (by omega)
theorem GS.thereQ{X:Nat->Prop}{w W:World}{B A R Q O:Nat}{vs:List Value}{x:Net}{c:ao}{os:List Value}(h:GS X w W B A R Q O vs x c os):W.there Q 0 4:=by
 obtain⟨zs,h1,h2⟩:=h.rr;exact h2.there 4 (by omega)
theorem Am{X:Nat->Prop}{w W W9:World}{B A R Q O:Nat}{vs os:List Value}{x:Net}{c:ao}{r:Net × Rpl}{code cost:Int}{vp vk:Value}{path:List Int}{keys:List ByteArray}(g:GS X w W B A R Q O vs x c os)(hf:Aw W W9 R Q vs os)(hos:os=[.int .i64 code,vp,.int .i64 cost,vk])(hr:r=(x,⟨code,path,cost,keys⟩))
  (hp:SlF aI (B+6) W vp path) (hk:SlF bs (B+6) W vk keys):ed X r w (.returned (.tuple #[.agg vs.toArray,.agg os.toArray])) W9:=by
 have h1:=g.eq;have h3:=g.er;have h4:=g.eq';have kk:∀k,k<w.heap.size->W9.heap[k]? =W.heap[k]? :=fun k hk=>hf.keep k (by omega) (by omega);refine⟨vs,vp,vk,by rw[hos,hr],?_,?_,?_,?_⟩
 · rw[hr];exact g.net.keepB (fun k _ hx=>hf.keep k (fun e=>hx (lG (by omega) (by omega))) (fun e=>hx (lG (by omega) (by omega)))) (by rw[hf.size];exact zab _) (fun k _ e=> .inl e)
 · rw[hr];exact SlR.keep hp (fun k hk=>hf.keep k (by have:=hk.2;omega) (by have:=hk.2;omega)) (fun k hk=>⟨by rw[hf.size];exact hk.1,by have:=hk.2;omega⟩)
 · rw[hr];exact SlR.keep hk (fun k hk=>hf.keep k (by have:=hk.2;omega) (by have:=hk.2;omega)) (fun k hk=>⟨by rw[hf.size];exact hk.1,by have:=hk.2;omega⟩)
 · exact⟨by rw[hf.eos];exact g.b.os,by rw[hf.tape];exact g.b.tape,by rw[hf.output];exact g.b.output,by rw[hf.size];exact g.b.size,fun k hk=>(kk k hk).trans (g.b.block k hk)⟩
section
variable {X:Nat->Prop} {w W:World} {B A R Q O:Nat} {vs:List Value} {x:Net} {c:ao} {os:List Value}
theorem GS.thereR'(h:GS X w W B A R Q O vs x c os):W.there R 0 vs.toArray.size:=by
 have e:vs.toArray.size=192:=by simpa using h.net.len
 rw[e];exact h.thereR
theorem GS.oneN(h:GS X w W B A R Q O vs x c os):vs.toArray.all (·.oneCell')=true:=all_oneCell_toArray h.net.one
theorem GS.oneO(h:GS X w W B A R Q O vs x c os):os.toArray.all (·.oneCell')=true:=all_oneCell_toArray h.oo
theorem GS.hiaN(h:GS X w W B A R Q O vs x c os):(Tryz.prog.info? 51).map (·.size)=some vs.toArray.size:=bS (by simpa using h.net.len)
theorem GS.hiaO(h:GS X w W B A R Q O vs x c os):(Tryz.prog.info? 57).map (·.size)=some os.toArray.size:=gj (by simpa using h.ol)
theorem GS.s1(h:GS X w W B A R Q O vs x c os):(W.setCells R 0 vs).rangeAt B 0 vs/\(W.setCells R 0 vs).rangeAt O 0 os:=by
 have h1:=h.er;have h2:=h.eo;exact⟨dR (by omega) h.n.range,dR (by omega) h.o.range⟩
theorem GS.th2(h:GS X w W B A R Q O vs x c os):(W.setCells R 0 vs).there Q 0 os.toArray.size:=by
 have h1:=h.er;have h2:=h.eq';have e:os.toArray.size=4:=by simpa using h.ol
 rw[e];exact cM (by omega) h.thereQ
theorem GS.s2(h:GS X w W B A R Q O vs x c os):((W.setCells R 0 vs).setCells Q 0 os).rangeAt B 0 vs/\((W.setCells R 0 vs).setCells Q 0 os).rangeAt O 0 os:=by
 have h1:=h.eq';have h2:=h.eo;exact⟨dR (by omega) h.s1.1,dR (by omega) h.s1.2⟩
theorem GS.out2(h:GS X w W B A R Q O vs x c os):Aw W ((W.setCells R 0 vs).setCells Q 0 os) R Q vs os:=by
 have h1:=h.er;have h2:=h.eq';exact Dk (by omega) (by rw[h.net.len];exact h.thereR) (by rw[h.ol];exact h.thereQ)
end
theorem fV{X:Nat->Prop}{B N:Nat}{w:World}(hX:∀k,w.heap.size<=k->¬ X k)(hB:B=w.heap.size)(hN:B+6<=N):∀k,N<=k->¬ uR X B k:=fun k hk e=>e.elim (hX k (by omega)) (fun e=>by omega)
theorem SlF.setG{α:Type}{r:Rep α}{b C o:Nat}{w:World}{u v:Value}{l:List α}(h:SlF r b w v l)(hC:C<b):SlF r b (w.setCell ⟨C,o,none⟩ u) v l:=
 SlR.keep h (fun k hk=>zao _ _ _ _ (show k≠C by have:=hk.2;omega)) (fun k hk=>⟨by rw[cg];exact hk.1,hk.2⟩)
theorem SlF.drewG{α:Type}{r:Rep α}{b:Nat}{w:World}{v:Value}{l:List α}(h:SlF r b w v l):SlF r b w.drew v l:=h.below ((zac _ _).drew)
theorem bM.eqB{w w':World}{B:Nat}{vs:List Value}(h:bM w B vs)(hk:w'.heap[B]? =w.heap[B]?)(hs:w.heap.size<=w'.heap.size):bM w' B vs:=
 ⟨fun i v hv=>(zav hk).trans (h.cell i v hv),fun o=>(zaK hk).trans (h.fz o),zas h.lt hs⟩
theorem GS.more{X:Nat->Prop}{w W:World}{B A R Q O:Nat}{vs:List Value}{x:Net}{c:ao}{os:List Value}(h:GS X w W B A R Q O vs x c os):GS (fun k=>X k∨W.heap.size<=k) w W B A R Q O vs x c os:=
 { h with net:=h.net.keepB (fun _ _ _=>rfl) (zab _) (fun k hk e=>e.elim (fun e=>e.elim (fun e=> .inl e) (fun e=>by omega)) (fun e=> .inr e))}
theorem ed.less{X X':Nat->Prop}{r:Net × Rpl}{w w':World}{e:Ending}(h:ed X' r w e w')(hX:∀k,X k->X' k):ed X r w e w':=by
 obtain⟨vs,vp,vk,h1,h2,h3,h4,h5⟩:=h;exact⟨vs,vp,vk,h1,h2.keepB (fun _ _ _=>rfl) (zab _) (fun k _ e=>hX k e),h3,h4,h5⟩
theorem GS.grow{X:Nat->Prop}{w W W':World}{B A R Q O:Nat}{vs:List Value}{x:Net}{c:ao}{os:List Value}{row:Option Nat}(h:GS X w W B A R Q O vs x c os)(hg:W.grownBy W' row)(hr:∀g,row=some g->X g/\B+6<=g):GS X w W' B A R Q O vs x c os:=by
 have h1:=h.eq;have h2:=h.ea;have h3:=h.er;have h4:=h.eq';have h5:=h.eo;have h6:=h.sz;have kb:∀k,k<B+5->W'.heap[k]? =W.heap[k]? :=fun k hk=>hg.block k (by omega) (fun e=>by have:=(hr k e.symm).2;omega);refine⟨h1,h2,h3,h4,h5,h.b.grown hg h.b.size (fun k hk=>by have:=(hr k hk).2;omega),zax h6 hg.size,h.n.eqB (kb _ (by omega)) hg.size,h.a.eqB (kb _ (by omega)) hg.size,?_,?_,h.o.eqB (kb _ (by omega)) hg.size,h.ol,h.oo,h.net.keepB (fun k hk hx=>hg.block k hk (fun e=>hx (.inl (hr k e.symm).1))) hg.size (fun _ _ e=>e)⟩
 · obtain⟨zs,h7,h8⟩:=h.rn;exact⟨zs,h7,h8.eqB (kb _ (by omega)) hg.size⟩
 · obtain⟨zs,h7,h8⟩:=h.rr;exact⟨zs,h7,h8.eqB (kb _ (by omega)) hg.size⟩
section
variable {X:Nat->Prop} {w W:World} {B A R Q O M q:Nat} {vs ms:List Value} {x x':Net} {kd a b n m ad bt:Int} {key value:ByteArray} {os:List Value} {k0 k1 k2 k3:Value}
theorem GS.ac(h:GS X w W B A R Q O vs x ⟨kd,a,b,n,m,⟨ad,bt⟩,key,value⟩ os):W.cell? ⟨A,0,none⟩=some (.int .i64 kd)/\W.cell? ⟨A,1,none⟩=some (.int .i64 a)/\W.cell? ⟨A,2,none⟩=some (.int .i64 b)/\W.cell? ⟨A,3,none⟩=some (.int .i64 n)/\W.cell? ⟨A,4,none⟩=some (.int .i64 m)/\
  W.cell? ⟨A,5,none⟩=some (.int .i64 ad)/\W.cell? ⟨A,6,none⟩=some (.int .i64 bt)/\W.cell? ⟨A,7,none⟩=some (.string key)/\W.cell? ⟨A,8,none⟩=some (.string value):=
 ⟨h.a.cell 0 _ rfl,h.a.cell 1 _ rfl,h.a.cell 2 _ rfl,h.a.cell 3 _ rfl,h.a.cell 4 _ rfl,h.a.cell 5 _ rfl,h.a.cell 6 _ rfl,h.a.cell 7 _ rfl,h.a.cell 8 _ rfl⟩
theorem GS.oc{c:ao}(h:GS X w W B A R Q O vs x c [k0,k1,k2,k3]):W.cell? ⟨O,0,none⟩=some k0/\W.cell? ⟨O,1,none⟩=some k1/\W.cell? ⟨O,2,none⟩=some k2/\W.cell? ⟨O,3,none⟩=some k3/\W.frozen? ⟨O,0,none⟩=false/\W.frozen? ⟨O,1,none⟩=false/\W.frozen? ⟨O,2,none⟩=false/\W.frozen? ⟨O,3,none⟩=false:=
 ⟨h.o.cell 0 _ rfl,h.o.cell 1 _ rfl,h.o.cell 2 _ rfl,h.o.cell 3 _ rfl,h.o.fz 0,h.o.fz 1,h.o.fz 2,h.o.fz 3⟩
theorem GS.ne{c:ao}(h:GS X w W B A R Q O vs x c os)(g:GM X W B M q ms x'):¬ A=O/\¬ O=A/\¬ B=O/\¬ O=B/\¬ A=B/\¬ B=A/\¬ M=O/\¬ O=M/\¬ M=B/\¬ B=M:=by
 have h1:=h.ea;have h2:=h.eo;have h3:=g.em;refine⟨?_,?_,?_,?_,?_,?_,?_,?_,?_,?_⟩<;>omega
theorem GS.err{c:ao}(h:GS X w W B A R Q O vs x c [k0,k1,k2,k3])(n:Int):GS X w (W.setCell ⟨O,0,none⟩ (.int .i64 n)) B A R Q O vs x c [.int .i64 n,k1,k2,k3]:=h.setO (i:=0) (by decide) rfl
theorem GS.keys{c:ao}(h:GS X w W B A R Q O vs x c [k0,k1,k2,k3]){v:Value}(hv:v.oneCell'=true):GS X w (W.setCell ⟨O,3,none⟩ v) B A R Q O vs x c [k0,k1,k2,v]:=h.setO (i:=3) (by decide) hv
theorem GS.inO{c:ao}(h:GS X w W B A R Q O vs x c os):uR X B O:=lG (by have:=h.eo;omega) (by have:=h.eo;omega)
theorem GS.oLt{c:ao}(h:GS X w W B A R Q O vs x c os):O<B+6:=by have:=h.eo;omega
end
theorem eM{a:Act}{d j:Tmp}{v:Value}(h:j≠d):(a.put (some d) v).eval (.tmp j)=a.eval (.tmp j):=by
 show(a.tmps.setIfInBounds d v).getD j undef=a.tmps.getD j undef;simp only[Array.getD_eq_getD_getElem?,Array.getElem?_setIfInBounds];rw[if_neg (fun e=>h e.symm)]
theorem mG{a:Act}{d:Tmp}{v:Value}(h:d<a.tmps.size):(a.put (some d) v).eval (.tmp d)=v:=by
 show(a.tmps.setIfInBounds d v).getD d undef=v;simp[Array.getD_eq_getD_getElem?,Array.getElem?_setIfInBounds,h]
theorem aQ{X:Nat->Prop}{w W:World}{B A R Q O:Nat}{vs:List Value}{x:Net}{c:ao}{os:List Value}(g:GS X w W B A R Q O vs x c os){ops:Array Oper}{o0 o1 o2 o3:Oper}{id:Nat}{a:Act}{E:Exit->Act->World->Prop}(t0 t1:Tmp)
  (i0:ops[0]? =some o0) (i1:ops[1]? =some o1) (i2:ops[2]? =some o2) (i3:ops[3]? =some o3) (hz:ops.size=4)
  (k0:o0.op= .load 51 (.tmp 2)) (k1:o1.op= .load 57 (.tmp 6)) (k2:o2.op= .store 51 (.tmp 4) (.tmp t0)) (k3:o3.op= .store 57 (.tmp 5) (.tmp t1))
  (d0:o0.dst=some t0) (d1:o1.dst=some t1) (d2:o2.dst=none) (d3:o3.dst=none) (g0:o0.guard=none) (g1:o1.guard=none) (g2:o2.guard=none) (g3:o3.guard=none)
  (hs:Region.noSelect ops=true) (f0:Region.free .any ops #[false,false,false,false] 0=true) (r0:(Region.ready .any ops #[false,false,false,false]).contains 0=true)
  (f1:Region.free .any ops #[true,false,false,false] 1=true) (r1:(Region.ready .any ops #[true,false,false,false]).contains 1=true)
  (r2:Region.ready .any ops #[true,true,false,false]=[2]) (r3:Region.ready .any ops #[true,true,true,false]=[3]) (r4:Region.ready .any ops #[true,true,true,true]=[])
  (hE:∀c a d v w,E (.panic c) (Act.put a d v) w->E (.panic c) a w)
  (e2:a.eval (.tmp 2)= .pointer (some ⟨B,0,none⟩)) (e6:a.eval (.tmp 6)= .pointer (some ⟨O,0,none⟩)) (e4:a.eval (.tmp 4)= .pointer (some ⟨R,0,none⟩)) (e5:a.eval (.tmp 5)= .pointer (some ⟨Q,0,none⟩))
  (n0:t0<a.tmps.size) (n1:t1<a.tmps.size) (q0:(2:Tmp)≠t0/\(6:Tmp)≠t0/\(4:Tmp)≠t0/\(4:Tmp)≠t1/\(5:Tmp)≠t0/\(5:Tmp)≠t1/\t0≠t1)
  (fin:∀W9,Aw W.drew W9 R Q vs os->E .normal ((a.put (some t0) (.agg vs.toArray)).put (some t1) (.agg os.toArray)) W9):(Code.region id ops true).wp Tryz.prog E a W:=by
 obtain⟨q2,q6,q4,q4',q5,q5',q01⟩:=q0;have HD:=g.below ((zac _ _).drew);have hw:∀(o:Oper) (a:Act),o.guard=none->Region.wanted o (yielded ops a.tmps)=true:=fun o a h=>by simp[Region.wanted,h]
 have n1':t1<(a.put (some t0) (.agg vs.toArray)).tmps.size:=by show t1<(a.tmps.setIfInBounds t0 _).size;rw[Array.size_setIfInBounds];exact n1
 refine wp_region_held_drew (S:=fun w'=>w'.rangeAt B 0 vs/\w'.rangeAt O 0 os) (by kernel_rfl) ⟨HD.n.range,HD.o.range⟩ (fun hHeld=> ?_);rw[hz];refine wpAnyH_take (i:=0) (v:= .agg vs.toArray) i0 hs f0 r0 (fun c a w=>hE c a _ _ w) (yieldsIf_load_mid (hw _ _ g0) _ (.tmp 2) k0 B 0 e2 vs _ (fun _ h=>h.1) Tryz.underlying51 rfl (bS HD.net.len)) hHeld ?_;rw[d0];refine wpAnyH_take (i:=1) (v:= .agg os.toArray) i1 hs f1 r1 (fun c a w=>hE c a _ _ w) (yieldsIf_load_mid (hw _ _ g1) _ (.tmp 6) k1 O 0 ((eM q6).trans e6) os _ (fun _ h=>h.2) Tryz.underlying57 rfl (gj HD.ol)) hHeld ?_;rw[d1];refine wpAnyH_ready (rs:=[2]) r2 (by simp) (AllReadyH.cons i2 (fun K hK=> ?_) AllReadyH.nil);refine aD g2 _ (.tmp 4) (.tmp t0) k2 R 0 vs.toArray ((eM q4').trans ((eM q4).trans e4)) ((eM q01).trans (mG n0)) HD.thereR' HD.hiaN HD.oneN ?_;rw[zaE,d2];refine hK.out _ _ HD.s1 (fun hS2=> ?_);refine wpAnyH_ready (rs:=[3]) r3 (by simp) (AllReadyH.cons i3 (fun K hK=> ?_) AllReadyH.nil);refine aD g3 _ (.tmp 5) (.tmp t1) k3 Q 0 os.toArray ((eM q5').trans ((eM q5).trans e5)) (mG n1') HD.th2 HD.hiaO HD.oneO ?_;rw[zaE,d3];refine hK.out _ _ HD.s2 (fun hS3=> ?_);exact wpAnyH_done r4 (fin _ HD.out2) _
theorem ay{X:Nat->Prop}{w W W9:World}{B A R Q O:Nat}{vs:List Value}{x:Net}{c:ao}{os:List Value}{tmps:Array Value}
  (g:GS X w W B A R Q O vs x c os) (hf:Aw W.drew W9 R Q vs os) (h4:tmps.getD 4 undef= .pointer (some ⟨R,0,none⟩)) (h5:tmps.getD 5 undef= .pointer (some ⟨Q,0,none⟩)):
  (results Tryz.f22 tmps).run Tryz.prog W9= .ok (.tuple #[.agg vs.toArray,.agg os.toArray]) W9:=
 pR Tryz.results22 h4 h5 (run_loadVar_mid _ R 0 51 vs _ hf.r1 Tryz.underlying51 rfl (bS g.net.len)) (run_loadVar_mid _ Q 0 57 _ _ hf.r2 Tryz.underlying57 rfl (gj g.ol))
theorem az{X:Nat->Prop}{w W W9:World}{B A R Q O:Nat}{vs:List Value}{x:Net}{c:ao}{r:Net × Rpl}{code cost:Int}{vp vk:Value}{path:List Int}{keys:List ByteArray}
  (g:GS X w W B A R Q O vs x c [.int .i64 code,vp,.int .i64 cost,vk]) (hf:Aw W.drew W9 R Q vs [.int .i64 code,vp,.int .i64 cost,vk]) (hr:r=(x,⟨code,path,cost,keys⟩))
  (hp:SlF aI (B+6) W vp path) (hk:SlF bs (B+6) W vk keys) {Y:Nat->Prop} (hY:∀k,Y k->X k):ed Y r w (.returned (.tuple #[.agg vs.toArray,.agg #[.int .i64 code,vp,.int .i64 cost,vk]])) W9:=
 (Am (g.below ((zac _ _).drew)) hf rfl hr hp.drewG hk.drewG).less hY
end
end Go.Proofs.YtojojpjldkpmoaaGreatDoor
