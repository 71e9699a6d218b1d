/-
  
-/
import Derived.Test.YtojojpjldkpmoaaGreatDoorGMem
import Derived.Test.YtojojpjldkpmoaaGreatDoorGDoK
import Derived.Deep.RegionLaw
set_option linter.unusedVariables false
set_option linter.unusedSimpArgs false
set_option maxHeartbeats 16000000
set_option maxRecDepth 100000
namespace Go.Proofs.YtojojpjldkpmoaaGreatDoor
section
inductive Pth (C:Nat->Nat->Nat) (D:Nat->Bool) (s:Nat) (F:Nat->Prop):Nat->Nat->Prop
 | one (k:Nat):k<12->k≠s->C s k≠0->F k->Pth C D s F k (C s k)
 | step (a b c:Nat):Pth C D s F a c->D a=false->b<12->b≠s->C a b≠0->Pth C D s F b (c+C a b)
section
variable {C:Nat->Nat->Nat} {D:Nat->Bool} {s:Nat} {F:Nat->Prop}
theorem Pth.lt{i c:Nat}(h:Pth C D s F i c):i<12/\i≠s/\0<c:=by
 cases h with
 | one _ h1 h2 h3 _=>exact⟨h1,h2,by omega⟩
 | step a _ c _ _ h1 h2 h3=>exact⟨h1,h2,by omega⟩
theorem Pth.mono{G:Nat->Prop}(hg:∀k,F k->G k){i c:Nat}(h:Pth C D s F i c):Pth C D s G i c:=by
 induction h with
 | one k h1 h2 h3 h4=>exact .one k h1 h2 h3 (hg k h4)
 | step a b c _ h1 h2 h3 h4 ih=>exact .step a b c ih h1 h2 h3 h4
theorem Pth.first{i c:Nat}(h:Pth C D s F i c):∃k,F k/\k<12/\k≠s/\C s k≠0/\Pth C D s (·=k) i c:=by
 induction h with
 | one k h1 h2 h3 h4=>exact⟨k,h4,h1,h2,h3,.one k h1 h2 h3 rfl⟩
 | step a b c _ h1 h2 h3 h4 ih=>
   obtain⟨k,hk,h5,h6,h7,hp⟩:=ih;exact⟨k,hk,h5,h6,h7,.step a b c hp h1 h2 h3 h4⟩
def Mn(C:Nat->Nat->Nat)(D:Nat->Bool)(s:Nat)(F:Nat->Prop)(i m:Nat):Prop:=Pth C D s F i m/\∀c,Pth C D s F i c->m<=c
theorem x7{i:Nat}:∀(n c:Nat),c<n->Pth C D s F i c->∃m,m<=c/\Mn C D s F i m
 | 0,c,h,_=>by omega
 | n+1,c,h,hp=>by
   by_cases hc:∃d,d<c/\Pth C D s F i d
   · obtain⟨d,hd,hpd⟩:=hc;obtain⟨m,hm,hM⟩:=x7 n d (by omega) hpd;exact⟨m,by omega,hM⟩
   · refine⟨c,zab _,hp,fun d hd=> ?_⟩;rcases zbF d c with h1|h1
     · exact absurd ⟨d,h1,hd⟩ hc
     · exact h1
theorem Mn.uniq{i m m':Nat}(h:Mn C D s F i m)(h':Mn C D s F i m'):m=m':=Nat.le_antisymm (h.2 _ h'.1) (h'.2 _ h.1)
theorem uG{α:Type}{p q:α->Bool}:∀{l:List α},(∀x∈l,p x=true->q x=true)->(∃x∈l,q x=true/\p x=false)->l.countP p<l.countP q
 | [],_,⟨x,h,_⟩=>by simp at h
 | y::l,h,⟨x,hx,hq,hp⟩=>by
   have hle:l.countP p<=l.countP q:=List.countP_mono_left fun z hz=>h z (by simp[hz]);rcases zaS.1 hx with rfl|hx
   · simp only[List.countP_cons,hq,hp];simp;omega
   · have:=uG (l:=l) (fun z hz=>h z (by simp[hz])) ⟨x,hx,hq,hp⟩;have hy:=h y (by simp);simp only[List.countP_cons];rcases e:p y with _|_
     · simp;omega
     · simp[hy e];omega
noncomputable def rank (C:Nat->Nat->Nat) (D:Nat->Bool) (s:Nat) (F:Nat->Prop) (m:Nat):Nat:=(List.range 12).countP fun j=> @decide (∃c,c<m/\Pth C D s F j c) (Classical.propDecidable _)
theorem Dc(m:Nat):rank C D s F m<=12:=by
 have:=List.countP_le_length (p:=fun j=> @decide (∃c,c<m/\Pth C D s F j c) (Classical.propDecidable _)) (l:=List.range 12);simpa [rank]using this
theorem xR{a m n:Nat}(h:Mn C D s F a m)(hmn:m<n):rank C D s F m<rank C D s F n:=by
 unfold rank;apply uG
 · intro x _ hx;simp only[decide_eq_true_eq]at hx⊢;obtain⟨c,hc,hp⟩:=hx;exact⟨c,by omega,hp⟩
 · refine⟨a,by simpa using h.1.lt.1,?_,?_⟩
   · simp only[decide_eq_true_eq];exact⟨m,hmn,h.1⟩
   · simp only[decide_eq_false_iff_not];rintro⟨c,hc,hp⟩;have:=h.2 c hp;omega
end
def gI(l:List Int)(i:Nat):Int:=l.getD i (-1)
theorem g7(l:List Int)(i j:Nat)(v:Int)(h:i<l.length):gI (l.set i v) j=if i=j then v else gI l j:=by
 unfold gI;rw[zay,zay,zcg];by_cases e:i=j
 · subst e;simp[h]
 · simp[e]
def ga(C:Nat->Nat->Nat)(D:Nat->Bool)(s:Nat)(l:List Int)(a b:Nat):List Int:=
 if a=s∨b=s∨gI l a<0∨D a=true∨C a b=0 then l
 else if gI l b<0∨gI l a+C a b<gI l b then l.set b (gI l a+C a b)else l
def b9(C:Nat->Nat->Nat)(D:Nat->Bool)(s:Nat)(l:List Int)(a:Nat):Nat->List Int
 | 0=>l
 | n+1=>ga C D s (b9 C D s l a n) a n
def di(C:Nat->Nat->Nat)(D:Nat->Bool)(s:Nat)(l:List Int):Nat->List Int
 | 0=>l
 | n+1=>b9 C D s (di C D s l n) n 12
def ib(C:Nat->Nat->Nat)(D:Nat->Bool)(s:Nat)(l:List Int):Nat->List Int
 | 0=>l
 | n+1=>di C D s (ib C D s l n) 12
def eV(C:Nat->Nat->Nat)(s:Nat)(F:Nat->Bool):List Int:=(List.range 12).map fun i=>if i≠s/\C s i≠0/\F i=true then(C s i:Int)else-1
section
variable {C:Nat->Nat->Nat} {D:Nat->Bool} {s:Nat} {F:Nat->Bool}
def Snd(C:Nat->Nat->Nat)(D:Nat->Bool)(s:Nat)(F:Nat->Bool)(l:List Int):Prop:=
 l.length=12/\∀i,-1<=gI l i/\(0<=gI l i->Pth C D s (fun k=>F k=true) i (gI l i).toNat)
def LeB(l m:List Int):Prop:=∀i,0<=gI l i->0<=gI m i/\gI m i<=gI l i
theorem LeB.rfl'(l:List Int):LeB l l:=fun _ h=>⟨h,zbZ _⟩
theorem LeB.trans{l m n:List Int}(h:LeB l m)(h':LeB m n):LeB l n:=fun i hi=>by
 obtain⟨h1,h2⟩:=h i hi;obtain⟨h3,h4⟩:=h' i h1;exact⟨h3,by omega⟩
theorem B0{l:List Int}{i:Nat}(h:l.length<=i):gI l i= -1:=by
 unfold gI;rw[zay,zbU h];rfl
theorem yY{l:List Int}(h:Snd C D s F l)(a b:Nat)(hb:b<12):Snd C D s F (ga C D s l a b):=by
 unfold ga;split
 · exact h
 · rename_i hc;split
   · refine⟨by simp[h.1],fun i=> ?_⟩;rw[g7 _ _ _ _ (by rw[h.1];exact hb)];have ha:0<=gI l a:=by
      rcases Int.lt_or_le (gI l a) 0 with e|e
      · exact absurd (.inr (.inr (.inl e))) hc
      · exact e
     split
     · rename_i e;subst e;refine⟨by omega,fun _=> ?_⟩;(have e2:(gI l a+(C a b:Int)).toNat=(gI l a).toNat+C a b:=by omega);rw[e2];refine .step a b _ ((h.2 a).2 ha) ?_ hb ?_ ?_
       · rcases e:D a with _|_
         · rfl
         · exact absurd (.inr (.inr (.inr (.inl e)))) hc
       · exact fun e=>hc (.inr (.inl e))
       · exact fun e=>hc (.inr (.inr (.inr (.inr e))))
     · exact h.2 i
   · exact h
theorem yZ{l:List Int}(a b:Nat):(ga C D s l a b).length=l.length:=by
 unfold ga;split
 · rfl
 · split<;>simp
theorem Bf{l:List Int}(a b:Nat)(hb:b<l.length):LeB l (ga C D s l a b):=by
 intro i hi;unfold ga;split
 · exact⟨hi,zbZ _⟩
 · rename_i hc;split
   · rename_i h2;rw[g7 _ _ _ _ hb];have ha:0<=gI l a:=by
      rcases Int.lt_or_le (gI l a) 0 with e|e
      · exact absurd (.inr (.inr (.inl e))) hc
      · exact e
     split
     · rename_i e;subst e;omega
     · exact⟨hi,zbZ _⟩
   · exact⟨hi,zbZ _⟩
theorem y8{l:List Int}{a b:Nat}(hb:b<l.length)(h1:a≠s)(h2:b≠s)(h3:0<=gI l a)(h4:D a=false)(h5:C a b≠0):
  0<=gI (ga C D s l a b) b/\gI (ga C D s l a b) b<=gI l a+C a b:=by
 unfold ga;rw[if_neg (by rw[h4];rintro(e|e|e|e|e)<;>first|exact h1 e|exact h2 e|omega|cases e|exact h5 e)];split
 · rw[g7 _ _ _ _ hb,if_pos rfl];omega
 · omega
theorem jI{l:List Int}(a:Nat):∀n,(b9 C D s l a n).length=l.length
 | 0=>rfl
 | n+1=>by unfold b9;rw[yZ,jI a n]
theorem qq{l:List Int}(h:Snd C D s F l)(a:Nat):∀n,n<=12->Snd C D s F (b9 C D s l a n)
 | 0,_=>h
 | n+1,hn=>yY (qq h a n (by omega)) a n (by omega)
theorem kU{l:List Int}(a k:Nat):∀n,k+n<=l.length->LeB (b9 C D s l a k) (b9 C D s l a (k+n))
 | 0,_=>LeB.rfl' _
 | n+1,hn=>(kU a k n (by omega)).trans (Bf a (k+n) (by rw[jI];omega))
theorem jJ{l:List Int}:∀n,(di C D s l n).length=l.length
 | 0=>rfl
 | n+1=>by unfold di;rw[jI,jJ n]
theorem qr{l:List Int}(h:Snd C D s F l):∀n,Snd C D s F (di C D s l n)
 | 0=>h
 | n+1=>qq (qr h n) n 12 (zab _)
theorem kW{l:List Int}(hl:l.length=12)(k:Nat):∀n,LeB (di C D s l k) (di C D s l (k+n))
 | 0=>LeB.rfl' _
 | n+1=>(kW hl k n).trans (by
    have:=kU (C:=C) (D:=D) (s:=s) (l:=di C D s l (k+n)) (k+n) 0 12 (by rw[jJ,hl];omega)
    exact this)
theorem Da{l:List Int}(hl:l.length=12){a b:Nat}(ha:a<12)(hb:b<12)(h1:a≠s)(h2:b≠s)(h3:0<=gI l a)(h4:D a=false)(h5:C a b≠0):
  0<=gI (di C D s l 12) b/\gI (di C D s l 12) b<=gI l a+C a b:=by
 have s1:=kW (C:=C) (D:=D) (s:=s) hl 0 a;rw[zbb]at s1;obtain⟨e1,e2⟩:=s1 a h3;have hl2:(di C D s l a).length=12:=by rw[jJ,hl]
 have s2:=kU (C:=C) (D:=D) (s:=s) (l:=di C D s l a) a 0 b (by omega);rw[zbb]at s2;obtain⟨e3,e4⟩:=s2 a e1;have s3:=y8 (C:=C) (D:=D) (s:=s) (l:=b9 C D s (di C D s l a) a b) (by rw[jI,hl2];exact hb) h1 h2 e3 h4 h5;have s4:=kU (C:=C) (D:=D) (s:=s) (l:=di C D s l a) a (b+1) (12-(b+1)) (by omega);rw[show b+1+(12-(b+1))=12 by omega]at s4;obtain⟨e5,e6⟩:=s4 b s3.1;have s5:=kW (C:=C) (D:=D) (s:=s) hl (a+1) (12-(a+1));rw[show a+1+(12-(a+1))=12 by omega]at s5;obtain⟨e7,e8⟩:=s5 b e5;refine⟨e7,?_⟩;have e9:gI (b9 C D s (di C D s l a) a (b+1)) b<=gI (b9 C D s (di C D s l a) a b) a+C a b:=s3.2;have e10:gI (di C D s l 12) b<=gI (b9 C D s (di C D s l a) a 12) b:=e8;have e12:gI (di C D s l 0) a=gI l a:=rfl;have e11:gI (b9 C D s (di C D s l a) a 0) a=gI (di C D s l a) a:=rfl;omega
theorem om{l:List Int}:∀n,(ib C D s l n).length=l.length
 | 0=>rfl
 | n+1=>by unfold ib;rw[jJ,om n]
theorem tA{l:List Int}(h:Snd C D s F l):∀n,Snd C D s F (ib C D s l n)
 | 0=>h
 | n+1=>qr (tA h n) 12
theorem xQ{l:List Int}(hl:l.length=12):∀n,LeB l (ib C D s l n)
 | 0=>LeB.rfl' _
 | n+1=>(xQ hl n).trans (by
    have:=kW (C:=C) (D:=D) (s:=s) (l:=ib C D s l n) (by rw[om,hl]) 0 12
    exact this)
theorem io:(eV C s F).length=12:=by simp[eV]
theorem lj{i:Nat}(h:i<12):gI (eV C s F) i=if i≠s/\C s i≠0/\F i=true then(C s i:Int)else-1:=by
 unfold gI eV;rw[zay,zbN,zcj h];rfl
theorem BT:Snd C D s F (eV C s F):=by
 refine⟨io,fun i=> ?_⟩;by_cases h:i<12
 · rw[lj h];split
   · rename_i hc;refine⟨by omega,fun _=> ?_⟩;rw[zaX];exact .one i h hc.1 hc.2.1 hc.2.2
   · exact⟨by omega,fun e=>absurd e (by omega)⟩
 · rw[B0 (by rw[io];omega)];exact⟨by omega,fun e=>absurd e (by omega)⟩
theorem Be:∀(r i m:Nat),Mn C D s (fun k=>F k=true) i m->rank C D s (fun k=>F k=true) m<=r->
  0<=gI (ib C D s (eV C s F) r) i/\gI (ib C D s (eV C s F) r) i<=m:=by
 intro r
 induction r with
 | zero=>
   intro i m hm hr;cases hm.1 with
   | one _ h1 h2 h3 h4=>
     show 0<=gI (eV C s F) i/\gI (eV C s F) i<=((C s i:Nat):Int);rw[lj h1,if_pos ⟨h2,h3,h4⟩];omega
   | step a _ c hp h1 h2 h3 h4=>
     obtain⟨ma,hma,hM⟩:=x7 (c+1) c (by omega) hp;have:=xR hM (n:=c+C a i) (by omega);omega
 | succ r ih=>
   intro i m hm hr;cases hm.1 with
   | one _ h1 h2 h3 h4=>
     have e:0<=gI (eV C s F) i/\gI (eV C s F) i<=((C s i:Nat):Int):=by
      rw[lj h1,if_pos ⟨h2,h3,h4⟩];omega
     have:=xQ (C:=C) (D:=D) (s:=s) (l:=eV C s F) io (r+1) i e.1;omega
   | step a _ c hp h1 h2 h3 h4=>
     obtain⟨ma,hma,hM⟩:=x7 (c+1) c (by omega) hp;have hlt:=xR hM (n:=c+C a i) (by omega);obtain⟨e1,e2⟩:=ih a ma hM (by omega);have:=Da (C:=C) (D:=D) (s:=s) (l:=ib C D s (eV C s F) r) (by rw[om,io]) hp.lt.1 h2 hp.lt.2.1 h3 e1 h1 h4;refine⟨this.1,Int.le_trans this.2 ?_⟩;omega
theorem gP(i:Nat):(gI (ib C D s (eV C s F) 12) i= -1/\∀c,¬ Pth C D s (fun k=>F k=true) i c)∨
  ∃m:Nat,gI (ib C D s (eV C s F) 12) i=m/\Mn C D s (fun k=>F k=true) i m:=by
 have hs:=tA (C:=C) (D:=D) (s:=s) (F:=F) BT 12;by_cases h:∃c,Pth C D s (fun k=>F k=true) i c
 · obtain⟨c,hc⟩:=h;obtain⟨m,_,hM⟩:=x7 (c+1) c (by omega) hc;obtain⟨e1,e2⟩:=Be 12 i m hM (Dc m);have e3:=hM.2 _ ((hs.2 i).2 e1);exact .inr ⟨m,by omega,hM⟩
 · left;have h':∀c,¬ Pth C D s (fun k=>F k=true) i c:=fun c hc=>h ⟨c,hc⟩;refine⟨?_,h'⟩;have h1:=hs.2 i;rcases Int.lt_or_le (gI (ib C D s (eV C s F) 12) i) 0 with e|e
   · omega
   · exact absurd (h1.2 e) (h' _)
end
end
section
open Go Go.RowKit
structure Mat(w:World)(B:Nat)(m:Nat->Nat->Int):Prop where
 cell:∀i j,i<12->j<12->w.cell? ⟨B,i*12+j,none⟩=some (.int .i64 (m i j))
 fz:∀o,w.frozen? ⟨B,o,none⟩=false
 lt:B<w.heap.size
structure Vec(w:World)(B:Nat)(g:Nat->Int):Prop where
 cell:∀i,i<12->w.cell? ⟨B,i,none⟩=some (.int .i64 (g i))
 fz:∀o,w.frozen? ⟨B,o,none⟩=false
 lt:B<w.heap.size
structure fS(w:World)(B:Nat)(g:Nat->Bool):Prop where
 cell:∀i,i<12->w.cell? ⟨B,i,none⟩=some (.bool (g i))
 fz:∀o,w.frozen? ⟨B,o,none⟩=false
 lt:B<w.heap.size
theorem Mat.keep{w w':World}{B:Nat}{m:Nat->Nat->Int}(h:Mat w B m)(hk:w'.heap[B]? =w.heap[B]?):Mat w' B m:=
 ⟨fun i j hi hj=>(zav (w:=w) hk).trans (h.cell i j hi hj),fun o=>(zaK (w:=w) hk).trans (h.fz o),dY h.lt hk⟩
theorem Vec.keep{w w':World}{B:Nat}{m:Nat->Int}(h:Vec w B m)(hk:w'.heap[B]? =w.heap[B]?):Vec w' B m:=
 ⟨fun i hi=>(zav (w:=w) hk).trans (h.cell i hi),fun o=>(zaK (w:=w) hk).trans (h.fz o),dY h.lt hk⟩
theorem fS.keep{w w':World}{B:Nat}{m:Nat->Bool}(h:fS w B m)(hk:w'.heap[B]? =w.heap[B]?):fS w' B m:=
 ⟨fun i hi=>(zav (w:=w) hk).trans (h.cell i hi),fun o=>(zaK (w:=w) hk).trans (h.fz o),dY h.lt hk⟩
theorem Mat.below{w w':World}{B:Nat}{m:Nat->Nat->Int}(h:Mat w B m)(hb:Below w.heap.size w w'):Mat w' B m:=h.keep (hb.block B h.lt)
theorem Vec.below{w w':World}{B:Nat}{m:Nat->Int}(h:Vec w B m)(hb:Below w.heap.size w w'):Vec w' B m:=h.keep (hb.block B h.lt)
theorem fS.below{w w':World}{B:Nat}{m:Nat->Bool}(h:fS w B m)(hb:Below w.heap.size w w'):fS w' B m:=h.keep (hb.block B h.lt)
theorem Mat.far{w:World}{B:Nat}{m:Nat->Nat->Int}(h:Mat w B m){p:Addr}(hp:p.block≠B)(v:Value):Mat (w.setCell p v) B m:=h.keep (zao _ _ _ _ (fun e=>hp e.symm))
theorem Vec.far{w:World}{B:Nat}{m:Nat->Int}(h:Vec w B m){p:Addr}(hp:p.block≠B)(v:Value):Vec (w.setCell p v) B m:=h.keep (zao _ _ _ _ (fun e=>hp e.symm))
theorem fS.far{w:World}{B:Nat}{m:Nat->Bool}(h:fS w B m){p:Addr}(hp:p.block≠B)(v:Value):fS (w.setCell p v) B m:=h.keep (zao _ _ _ _ (fun e=>hp e.symm))
theorem Mat.set{w:World}{B:Nat}{m m':Nat->Nat->Int}(h:Mat w B m){i j:Nat}(hi:i<12)(hj:j<12)(x:Int)(hm:∀a b,a<12->b<12->m' a b=if a=i/\b=j then x else m a b):Mat (w.setCell ⟨B,i*12+j,none⟩ (.int .i64 x)) B m':=by
 refine⟨fun a b ha hb=> ?_,fun o=>by rw[zaz];exact h.fz o,by simp[World.setCell];exact h.lt⟩;rw[hm a b ha hb];by_cases e:a=i/\b=j
 · obtain⟨rfl,rfl⟩:=e;rw[if_pos ⟨rfl,rfl⟩];exact zaJ w _ _ (by rw[h.cell a b ha hb];rfl)
 · rw[if_neg e,zaj w _ _ _ (by intro e2;injection e2 with _ e3 _;exact e (by omega))];exact h.cell a b ha hb
theorem Vec.set{w:World}{B:Nat}{m m':Nat->Int}(h:Vec w B m){i:Nat}(hi:i<12)(x:Int)(hm:∀a,a<12->m' a=if a=i then x else m a):Vec (w.setCell ⟨B,i,none⟩ (.int .i64 x)) B m':=by
 refine⟨fun a ha=> ?_,fun o=>by rw[zaz];exact h.fz o,by simp[World.setCell];exact h.lt⟩;rw[hm a ha];by_cases e:a=i
 · subst e;rw[if_pos rfl];exact zaJ w _ _ (by rw[h.cell a ha];rfl)
 · rw[if_neg e,zaj w _ _ _ (by intro e2;injection e2 with _ e3 _;exact e e3.symm)];exact h.cell a ha
theorem fS.set{w:World}{B:Nat}{m m':Nat->Bool}(h:fS w B m){i:Nat}(hi:i<12)(x:Bool)(hm:∀a,a<12->m' a=if a=i then x else m a):fS (w.setCell ⟨B,i,none⟩ (.bool x)) B m':=by
 refine⟨fun a ha=> ?_,fun o=>by rw[zaz];exact h.fz o,by simp[World.setCell];exact h.lt⟩;rw[hm a ha];by_cases e:a=i
 · subst e;rw[if_pos rfl];exact zaJ w _ _ (by rw[h.cell a ha];rfl)
 · rw[if_neg e,zaj w _ _ _ (by intro e2;injection e2 with _ e3 _;exact e e3.symm)];exact h.cell a ha
theorem Mat.eq{w:World}{B:Nat}{m m':Nat->Nat->Int}(h:Mat w B m)(hm:∀a b,a<12->b<12->m' a b=m a b):Mat w B m':=⟨fun i j hi hj=>by rw[hm i j hi hj];exact h.cell i j hi hj,h.fz,h.lt⟩
theorem Vec.eq{w:World}{B:Nat}{m m':Nat->Int}(h:Vec w B m)(hm:∀a,a<12->m' a=m a):Vec w B m':=⟨fun i hi=>by rw[hm i hi];exact h.cell i hi,h.fz,h.lt⟩
theorem fS.eq{w:World}{B:Nat}{m m':Nat->Bool}(h:fS w B m)(hm:∀a,a<12->m' a=m a):fS w B m':=⟨fun i hi=>by rw[hm i hi];exact h.cell i hi,h.fz,h.lt⟩
theorem Mat.drewN{w:World}{B:Nat}{m:Nat->Nat->Int}(h:Mat w B m)(n:Nat):Mat (w.drewN n) B m:=h.keep rfl
theorem Vec.drewN{w:World}{B:Nat}{m:Nat->Int}(h:Vec w B m)(n:Nat):Vec (w.drewN n) B m:=h.keep rfl
theorem fS.drewN{w:World}{B:Nat}{m:Nat->Bool}(h:fS w B m)(n:Nat):fS (w.drewN n) B m:=h.keep rfl
theorem Az:Tryz.zeroCells68=Array.replicate 144 (.int .i64 0):=by kernel_rfl
theorem BI(w:World)(T:TypeId)(B:Nat)(hB:B=w.heap.size):Mat (w.alloc (.cells Tryz.zeroCells68 T)) B (fun _ _=>0):=by
 refine⟨fun i j hi hj=> ?_,fun o=>zaL _ _ _ _ hB,by simp[hB]⟩;rw[zah _ _ _ _ hB,Az,Array.getElem?_replicate,if_pos (by omega)]
theorem rz(w:World)(T:TypeId)(B:Nat)(hB:B=w.heap.size):fS (w.alloc (.cells #[.bool false,.bool false,.bool false,.bool false,.bool false,.bool false,.bool false,.bool false,.bool false,.bool false,.bool false,.bool false] T)) B (fun _=>false):=by
 refine⟨fun i hi=> ?_,fun o=>zaL _ _ _ _ hB,by simp[hB]⟩;rw[zah _ _ _ _ hB];have:∀i,i<12->(#[Value.bool false,.bool false,.bool false,.bool false,.bool false,.bool false,.bool false,.bool false,.bool false,.bool false,.bool false,.bool false])[i]? =some (.bool false):=by
  intro i hi
  match i,hi with
  | 0,_|1,_|2,_|3,_|4,_|5,_|6,_|7,_|8,_|9,_|10,_|11,_=>rfl
  | n+12,h=>omega
 exact this i hi
theorem zW(d:Bool)(A:Option Addr)(n c:Nat)(w:World):(Instr.field 97 (.agg #[.bool d,.slice A n c]) 0).run Tryz.prog w= .ok (.bool d) w:=by
 simp[Instr.field,asAgg,go_sem,Tryz.underlying97]
theorem sR(w:World)(B:Nat)(hB:B=w.heap.size):Vec (w.alloc (.cells #[.int .i64 0,.int .i64 0,.int .i64 0,.int .i64 0,.int .i64 0,.int .i64 0,.int .i64 0,.int .i64 0,.int .i64 0,.int .i64 0,.int .i64 0,.int .i64 0] 3)) B (fun _=>0):=by
 refine⟨fun i hi=> ?_,fun o=>zaL _ _ _ _ hB,by simp[hB]⟩;rw[zah _ _ _ _ hB]
 match i,hi with
 | 0,_|1,_|2,_|3,_|4,_|5,_|6,_|7,_|8,_|9,_|10,_|11,_=>rfl
 | n+12,h=>omega
theorem BJ(w:World):(Instr.makeSlice 54 (.int .i64 12) (.int .i64 12)).run Tryz.prog w= .ok (.slice (some ⟨w.heap.size,0,none⟩) 12 12) (w.alloc (.cells #[.int .i64 0,.int .i64 0,.int .i64 0,.int .i64 0,.int .i64 0,.int .i64 0,.int .i64 0,.int .i64 0,.int .i64 0,.int .i64 0,.int .i64 0,.int .i64 0] 3)):=by kernel_rfl
def Bd(n:Nat)(l:List Int):Prop:=l.length=12/\∀i,-1<=gI l i/\gI l i<=1000*n
theorem Bd.mono{n m:Nat}{l:List Int}(h:Bd n l)(hm:n<=m):Bd m l:=⟨h.1,fun i=>⟨(h.2 i).1,by have:=(h.2 i).2;omega⟩⟩
section
variable {C:Nat->Nat->Nat} {D:Nat->Bool} {s:Nat} {F:Nat->Bool}
theorem Bg(hC:∀a b,C a b<=1000){n:Nat}{l:List Int}(h:Bd n l)(a b:Nat)(hb:b<12):Bd (n+1) (ga C D s l a b):=by
 unfold ga;split
 · exact h.mono (by omega)
 · rename_i hc;split
   · refine⟨by simp[h.1],fun i=> ?_⟩;rw[g7 _ _ _ _ (by rw[h.1];exact hb)];have:=h.2 a;have:=hC a b;split
     · refine⟨?_,by omega⟩;have:¬ gI l a<0:=fun e=>hc (.inr (.inr (.inl e)));omega
     · have:=h.2 i;omega
   · exact h.mono (by omega)
theorem oe(hC:∀a b,C a b<=1000){n:Nat}{l:List Int}(h:Bd n l)(a:Nat):∀k,k<=12->Bd (n+k) (b9 C D s l a k)
 | 0,_=>h
 | k+1,hk=>Bg hC (oe hC h a k (by omega)) a k (by omega)
theorem oq(hC:∀a b,C a b<=1000){n:Nat}{l:List Int}(h:Bd n l):∀k,Bd (n+12*k) (di C D s l k)
 | 0=>h
 | k+1=>(oe hC (oq hC h k) k 12 (zab _)).mono (by omega)
theorem rR(hC:∀a b,C a b<=1000){n:Nat}{l:List Int}(h:Bd n l):∀k,Bd (n+144*k) (ib C D s l k)
 | 0=>h
 | k+1=>(oq hC (rR hC h k) 12).mono (by omega)
theorem yj(hC:∀a b,C a b<=1000):Bd 1 (eV C s F):=by
 refine⟨io,fun i=> ?_⟩;by_cases hi:i<12
 · rw[lj hi];have:=hC s i;split<;>omega
 · rw[B0 (by rw[io];omega)];omega
end
def eW(f:Int)(i:Nat):Bool:=decide (f<0)||decide (f=i)
def fY(xs:List ab)(s:Nat)(f:Int)(r:Nat):List Int:=ib (bB xs) (fun a=>(aP xs a).1) s (eV (bB xs) s (eW f)) r
theorem wH{w:World}{B i:Nat}{l:List Int}(h:Vec w B (fun a=>if a<i then gI l a else 0))(hi:i<12)(e:gI l i= -1):Vec (w.setCell ⟨B,i,none⟩ (.int .i64 (-1))) B (fun a=>if a<i+1 then gI l a else 0):=by
 refine h.set hi _ (fun a _=> ?_);by_cases e1:a=i
 · subst e1;rw[if_pos (by omega),if_pos rfl,e]
 · rw[if_neg e1];by_cases e2:a<i
   · rw[if_pos e2,if_pos (by omega)]
   · rw[if_neg e2,if_neg (by omega)]
theorem yh{w:World}{B i:Nat}{l:List Int}{x y:Int}(h:Vec w B (fun a=>if a<i then gI l a else 0))(hi:i<12)(e:gI l i=x):Vec ((w.setCell ⟨B,i,none⟩ (.int .i64 y)).setCell ⟨B,i,none⟩ (.int .i64 x)) B (fun a=>if a<i+1 then gI l a else 0):=by
 refine(h.set (m':=fun a=>if a=i then y else if a<i then gI l a else 0) hi y (fun a _=>rfl)).set hi _ (fun a _=> ?_);by_cases e1:a=i
 · subst e1;rw[if_pos (by omega),if_pos rfl,e]
 · rw[if_neg e1,if_neg e1];by_cases e2:a<i
   · rw[if_pos e2,if_pos (by omega)]
   · rw[if_neg e2,if_neg (by omega)]
theorem vK{M:List Int}(h:M.length=12){b x:Nat}(hb:b<12)(v:Int):gI (M.set b v) x=if x=b then v else gI M x:=by
 rw[g7 _ _ _ _ (by omega)];by_cases e:x=b
 · rw[if_pos e,if_pos e.symm]
 · rw[if_neg e,if_neg (fun e2=>e e2.symm)]
theorem ji{C:Nat->Nat->Nat}{D:Nat->Bool}{s:Nat}{L:List Int}{a b:Nat}(h:a=s∨b=s∨gI (b9 C D s L a b) a<0∨D a=true∨C a b=0):b9 C D s L a (b+1)=b9 C D s L a b:=if_pos h
theorem vQ{C:Nat->Nat->Nat}{D:Nat->Bool}{s:Nat}{L:List Int}{a b:Nat}(h:¬ (gI (b9 C D s L a b) b<0∨gI (b9 C D s L a b) a+C a b<gI (b9 C D s L a b) b)):b9 C D s L a (b+1)=b9 C D s L a b:=by
 show ga C D s (b9 C D s L a b) a b=_;unfold ga;rw[if_neg h];split<;>rfl
theorem qs{C:Nat->Nat->Nat}{D:Nat->Bool}{s:Nat}{L:List Int}{a b:Nat}(h0:¬ (a=s∨b=s∨gI (b9 C D s L a b) a<0∨D a=true∨C a b=0))(h:gI (b9 C D s L a b) b<0∨gI (b9 C D s L a b) a+C a b<gI (b9 C D s L a b) b):b9 C D s L a (b+1)=(b9 C D s L a b).set b (gI (b9 C D s L a b) a+C a b):=by
 show ga C D s (b9 C D s L a b) a b=_;unfold ga;rw[if_neg h0,if_pos h]
theorem y9(v:Value)(xs:List ab)(s:Nat)(q:Nat)(f:Int)(w:World)(h:Sl aW w v xs)(hs:s<12)(hq:q<12)(hv:∀e∈xs,e.value.size<4294967281)(hE:Env w):
  Calls Tryz.prog 124 #[v,.int .i64 s,.int .i64 q,.int .i64 f] w fun e w'=>e= .returned (.int .i64 (gI (fY xs s f 12) q))/\Below w.heap.size w w':=by
 have hmk:=fun w=>BJ w;have hl:=h.len_le;obtain⟨A,c,rfl⟩:=h.form;have HIN:=zaa (fun n hn w' (hb:Below w.heap.size w w')=>rE (.slice A xs.length c) xs n w' (h.below hb) hn hv (hE.below hb));have HLK:=zaa (fun a b ha hb w' (hb':Below w.heap.size w w')=>BM (.slice A xs.length c) xs a b w' (h.below hb') ha hb hv (hE.below hb'));clear h hE hv;have hfr:=fun d A n c w=>zW d A n c w;go_enter Tryz.func124,Tryz.ntmps124
 go_wp2_with fail
 go_loopw [11] (fun i wr=>∃k:Nat,k<=12/\i= .int .i64 k/\Mat wr w.heap.size (fun a b=>if a<k then(bB xs a b:Nat)else 0)/\fS wr (w.heap.size+1) (fun a=>if a<k then(aP xs a).1 else false)/\Below w.heap.size w wr) (fun i _=>12-(intOf i).toNat)
 case atStart=>
  have hb:=(zac w.heap.size w).alloc (zab _) (.cells Tryz.zeroCells68 68);refine⟨0,zap _,rfl,?_,?_,hb.alloc hb.size _⟩
  · exact((BI w 68 w.heap.size rfl).below ((zac _ _).alloc (zab _) _)).eq (fun a b _ _=>if_neg (zce a))
  · exact(rz _ _ _ (by simp)).eq (fun a _=>if_neg (zce a))
 case round=>
  obtain⟨k,hk,rfl,hm,hd,hB⟩:=hrel;have HM:=zaa hm;have HD:=zaa hd;have HB:=zaa hB;clear hm hd hB;by_cases hlt:k<12
  · (have hki:(k:Int)<12:=by omega);have HA:=zaa (HIN.out k hlt);(go_wp2_with (go_at_call 158;refine(HA.out _ HB.out).mono ?_;rintro e w1 ⟨⟨v1,rfl,hv1⟩,hb1⟩;obtain⟨A1,c1,rfl⟩:=hv1.form;have HM1:=zaa (HM.out.below hb1);have HD1:=zaa (HD.out.below hb1);have HB1:=zaa (HB.out.trans (hb1.mono HB.out.size));have d1:=HD1.out.cell k hlt;have d2:=HD1.out.fz k;clear hb1 hv1));(go_loopw [12] (fun j wr=>∃b:Nat,b<=12/\j= .int .i64 b/\Mat wr w.heap.size (fun x y=>if x<k∨(x=k/\y<b)then(bB xs x y:Nat)else 0)/\fS wr (w.heap.size+1) (fun a=>if a<k+1 then(aP xs a).1 else false)/\Below w.heap.size w wr) (fun j _=>12-(intOf j).toNat));case atStart=>
     refine⟨0,zap _,rfl,?_,?_,HB1.out.setCell (p:=⟨w.heap.size+1,k,none⟩) (by show w.heap.size<=w.heap.size+1;omega) _⟩
     · refine(HM1.out.far (p:=⟨w.heap.size+1,k,none⟩) (by show w.heap.size+1≠w.heap.size;omega) _).eq (fun a b _ _=> ?_);simp
     · refine HD1.out.set hlt _ (fun a _=> ?_);by_cases e:a=k
       · subst e;simp
       · rw[if_neg e];by_cases e2:a<k
         · rw[if_pos e2,if_pos (by omega)]
         · rw[if_neg e2,if_neg (by omega)]
    case round=>
     obtain⟨b,hb,rfl,hm,hd,hB⟩:=hrel;have HM2:=zaa hm;have HD2:=zaa hd;have HB2:=zaa hB;clear hm hd hB;by_cases hltb:b<12
     · (have hbi:(b:Int)<12:=by omega);have HL:=zaa (HLK.out k b hlt hltb);(go_wp2_with fail);(go_region_with (go_at_call 159;refine(HL.out _ (HB2.out.drew)).mono ?_;rintro e w3 ⟨rfl,hb3⟩;have HM3:=zaa (HM2.out.below (Below.trans (zac _ _).drew hb3));have HD3:=zaa (HD2.out.below (Below.trans (zac _ _).drew hb3));have HB3:=zaa (HB2.out.trans ((Below.trans (zac _ _).drew hb3).mono HB2.out.size));have m1:=HM3.out.cell k b hlt hltb;have m2:=HM3.out.fz (k*12+b);clear hb3));all_goals
        (go_wp2_with fail);(go_roundw);case rel=>
         refine⟨b+1,by omega,by go_num,?_,HD3.out.far (p:=⟨w.heap.size,k*12+b,none⟩) (by show w.heap.size≠w.heap.size+1;omega) _,HB3.out.setCell (p:=⟨w.heap.size,k*12+b,none⟩) (zab _) _⟩;refine HM3.out.set hlt hltb _ (fun x y _ _=> ?_);by_cases e:x=k/\y=b
         · obtain⟨rfl,rfl⟩:=e;simp
         · rw[if_neg e];by_cases e2:x<k∨(x=k/\y<b)
           · rw[if_pos e2,if_pos (by omega)]
           · rw[if_neg e2,if_neg (by omega)]
        case measure=>simp[intOf];omega
     · (have hbi:¬ (b:Int)<12:=by omega);(go_wp2_with fail);(go_roundw);case rel=>
        refine⟨k+1,by omega,by go_num,HM2.out.eq (fun x y _ hy=> ?_),HD2.out,HB2.out⟩;by_cases e:x<k+1
        · rw[if_pos e,if_pos (by omega)]
        · rw[if_neg e,if_neg (by omega)]
       case measure=>simp[intOf];omega
  · (have hki:¬ (k:Int)<12:=by omega);have HM0:=zaa (HM.out.eq (m':=fun a b=>(bB xs a b:Nat)) (fun a b ha _=>(if_pos (by omega)).symm));have HD0:=zaa (HD.out.eq (m':=fun a=>(aP xs a).1) (fun a ha=>(if_pos (by omega)).symm));clear HM HD;(go_wp2_with fail);have hsz:=HD0.out.lt;(have hBw:w.heap.size<=wr.heap.size:=by omega);(have hBM:wr.heap.size≠w.heap.size:=by omega);(have hBD:wr.heap.size≠w.heap.size+1:=by omega);have hal:=(zac wr.heap.size wr).alloc (zab _) (.cells #[.int .i64 0,.int .i64 0,.int .i64 0,.int .i64 0,.int .i64 0,.int .i64 0,.int .i64 0,.int .i64 0,.int .i64 0,.int .i64 0,.int .i64 0,.int .i64 0] 3);have HV0:=zaa (sR wr wr.heap.size rfl);have HM1:=zaa (HM0.out.below hal);have HD1:=zaa (HD0.out.below hal);have HB1:=zaa (HB.out.trans (hal.mono HB.out.size));clear hal HM0 HD0 HB hsz HIN HLK hmk hfr;obtain⟨W,hW⟩:∃x,x=wr.alloc (.cells #[.int .i64 0,.int .i64 0,.int .i64 0,.int .i64 0,.int .i64 0,.int .i64 0,.int .i64 0,.int .i64 0,.int .i64 0,.int .i64 0,.int .i64 0,.int .i64 0] 3):=⟨_,rfl⟩;rw[<-hW]at HV0 HM1 HD1 HB1;rw[<-hW];clear hW;obtain⟨B,hBe⟩:∃x,x=wr.heap.size:=⟨_,rfl⟩;rw[<-hBe]at HV0 hBw hBM hBD;rw[<-hBe];clear hBe;obtain⟨C,hC⟩:∃x,x=bB xs:=⟨_,rfl⟩;obtain⟨D,hD⟩:∃x,x=fun a=>(aP xs a).1:=⟨_,rfl⟩;have HCB:=zaa (fun a b=>(by rw[hC];exact ij xs a b:C a b<=1000));have HBE:=zaa (fun r=>(by rw[hC,hD];rfl:fY xs s f r=ib C D s (eV C s (eW f)) r));rw[<-hC]at HM1;rw[<-hD]at HD1;clear hC hD;(go_loopw [14] (fun i wr=>∃k:Nat,k<=12/\i= .int .i64 k/\Vec wr B (fun a=>if a<k then gI (eV C s (eW f)) a else 0)/\Mat wr w.heap.size (fun a b=>(C a b:Nat))/\fS wr (w.heap.size+1) D/\Below w.heap.size w wr) (fun i _=>12-(intOf i).toNat));(case atStart=>exact⟨0,zap _,rfl,HV0.out.eq (fun a _=>if_neg (zce a)),HM1.out,HD1.out,HB1.out⟩);case round=>
     clear HV0 HM1 HD1 HB1;obtain⟨i,hi,rfl,hv,hm,hd,hb⟩:=hrel;have HV:=zaa hv;have HM2:=zaa hm;have HD2:=zaa hd;have HB2:=zaa hb;clear hv hm hd hb;by_cases hlt:i<12
     · (have hii:(i:Int)<12:=by omega);(have hsi:(s:Int)<12:=by omega);have c1:=HV.out.cell i hlt;have c2:=HV.out.fz i;have c3:=(HM2.out.far (p:=⟨B,i,none⟩) hBM (.int .i64 (-1))).cell s i hs hlt;have HG:=zaa (lj (C:=C) (s:=s) (F:=eW f) hlt);by_cases e1:i=s
       · (have f1:((i:Int) !=(s:Int))=false:=by rw[bne_eq_false_iff_eq];omega);have HE:=zaa (show gI (eV C s (eW f)) i= -1 by rw[HG.out,if_neg (fun h=>h.1 e1)]);clear e1;(go_wp2_with fail);(go_roundw);(case rel=>exact⟨i+1,by omega,by go_num,wH HV.out hlt HE.out,HM2.out.far (p:=⟨B,i,none⟩) hBM _,HD2.out.far (p:=⟨B,i,none⟩) hBD _,HB2.out.setCell (p:=⟨B,i,none⟩) hBw _⟩);case measure=>simp[intOf];omega
       · (have f1:((i:Int) !=(s:Int))=true:=by rw[bne_iff_ne];omega);by_cases e2:C s i=0
         · (have f2:decide (0<C s i)=false:=by rw[decide_eq_false_iff_not];omega);have HE:=zaa (show gI (eV C s (eW f)) i= -1 by rw[HG.out,if_neg (fun h=>h.2.1 e2)]);clear e1 e2;(go_wp2_with fail);(go_roundw);(case rel=>exact⟨i+1,by omega,by go_num,wH HV.out hlt HE.out,HM2.out.far (p:=⟨B,i,none⟩) hBM _,HD2.out.far (p:=⟨B,i,none⟩) hBD _,HB2.out.setCell (p:=⟨B,i,none⟩) hBw _⟩);case measure=>simp[intOf];omega
         · (have f2:decide (0<C s i)=true:=by rw[decide_eq_true_eq];omega);by_cases e3:f<0
           · have f3:decide (f<0)=true:=decide_eq_true e3;have HE:=zaa (show gI (eV C s (eW f)) i=(C s i:Int)by rw[HG.out,if_pos ⟨e1,e2,by unfold eW;simp[e3]⟩]);clear e1 e2 e3;(go_wp2_with fail);(go_roundw);(case rel=>exact⟨i+1,by omega,by go_num,yh HV.out hlt HE.out,(HM2.out.far (p:=⟨B,i,none⟩) hBM _).far (p:=⟨B,i,none⟩) hBM _,(HD2.out.far (p:=⟨B,i,none⟩) hBD _).far (p:=⟨B,i,none⟩) hBD _,(HB2.out.setCell (p:=⟨B,i,none⟩) hBw _).setCell (p:=⟨B,i,none⟩) hBw _⟩);case measure=>simp[intOf];omega
           · have f3:decide (f<0)=false:=decide_eq_false e3;by_cases e4:f=i
             · (have f4:(f==(i:Int))=true:=by rw[beq_iff_eq];exact e4);have HE:=zaa (show gI (eV C s (eW f)) i=(C s i:Int)by rw[HG.out,if_pos ⟨e1,e2,by unfold eW;simp[e4]⟩]);clear e1 e2 e3 e4;(go_wp2_with fail);(go_roundw);(case rel=>exact⟨i+1,by omega,by go_num,yh HV.out hlt HE.out,(HM2.out.far (p:=⟨B,i,none⟩) hBM _).far (p:=⟨B,i,none⟩) hBM _,(HD2.out.far (p:=⟨B,i,none⟩) hBD _).far (p:=⟨B,i,none⟩) hBD _,(HB2.out.setCell (p:=⟨B,i,none⟩) hBw _).setCell (p:=⟨B,i,none⟩) hBw _⟩);case measure=>simp[intOf];omega
             · (have f4:(f==(i:Int))=false:=by rw[beq_eq_false_iff_ne];exact e4);have HE:=zaa (show gI (eV C s (eW f)) i= -1 by rw[HG.out,if_neg (fun h=>by have h2:=h.2.2;unfold eW at h2;simp[e3,e4]at h2)]);clear e1 e2 e3 e4;(go_wp2_with fail);(go_roundw);(case rel=>exact⟨i+1,by omega,by go_num,wH HV.out hlt HE.out,HM2.out.far (p:=⟨B,i,none⟩) hBM _,HD2.out.far (p:=⟨B,i,none⟩) hBD _,HB2.out.setCell (p:=⟨B,i,none⟩) hBw _⟩);case measure=>simp[intOf];omega
     · (have hii:¬ (i:Int)<12:=by omega);have HV2:=zaa (HV.out.eq (m':=gI (fY xs s f 0)) (fun a ha=>by rw[if_pos (by omega),HBE.out];rfl));clear HV;(go_wp2_with fail);(go_loopw [15] (fun i wr=>∃r:Nat,r<=12/\i= .int .i64 r/\Vec wr B (gI (fY xs s f r))/\Mat wr w.heap.size (fun a b=>(C a b:Nat))/\fS wr (w.heap.size+1) D/\Below w.heap.size w wr) (fun i _=>12-(intOf i).toNat));(case atStart=>exact⟨0,zap _,rfl,HV2.out,HM2.out,HD2.out,HB2.out⟩);case round=>
        clear HV2 HM2 HD2 HB2;obtain⟨r,hr,rfl,hv,hm,hd,hb⟩:=hrel;have HV:=zaa hv;have HM2:=zaa hm;have HD2:=zaa hd;have HB2:=zaa hb;clear hv hm hd hb;by_cases hlr:r<12
        · (have hri:(r:Int)<12:=by omega);(go_wp2_with fail);(go_loopw [16] (fun i wr=>∃a:Nat,a<=12/\i= .int .i64 a/\Vec wr B (gI (di C D s (fY xs s f r) a))/\Mat wr w.heap.size (fun a b=>(C a b:Nat))/\fS wr (w.heap.size+1) D/\Below w.heap.size w wr) (fun i _=>12-(intOf i).toNat));(case atStart=>exact⟨0,zap _,rfl,HV.out,HM2.out,HD2.out,HB2.out⟩);case round=>
           clear HV HM2 HD2 HB2;obtain⟨a,ha,rfl,hv,hm,hd,hb⟩:=hrel;have HV:=zaa hv;have HM2:=zaa hm;have HD2:=zaa hd;have HB2:=zaa hb;clear hv hm hd hb;by_cases hla:a<12
           · (have hai:(a:Int)<12:=by omega);have HLB:=zaa (show Bd 3000 (di C D s (fY xs s f r) a)by rw[HBE.out];exact(oq HCB.out (rR HCB.out (yj HCB.out) r) a).mono (by omega));have HNX:=zaa (show di C D s (fY xs s f r) (a+1)=b9 C D s (di C D s (fY xs s f r) a) a 12 from rfl);obtain⟨L,hL⟩:∃x,x=di C D s (fY xs s f r) a:=⟨_,rfl⟩;rw[<-hL]at HLB HNX HV;clear hL;(go_wp2_with fail);(go_loopw [17,18] (fun i _ wr=>∃b:Nat,b<=12/\i= .int .i64 b/\Vec wr B (gI (b9 C D s L a b))/\Mat wr w.heap.size (fun a b=>(C a b:Nat))/\fS wr (w.heap.size+1) D/\Below w.heap.size w wr) (fun i _ _=>12-(intOf i).toNat));(case atStart=>exact⟨0,zap _,rfl,HV.out,HM2.out,HD2.out,HB2.out⟩);case round=>
              clear HV HM2 HD2 HB2;obtain⟨b,hbl,rfl,hv,hm,hd,hb⟩:=hrel;have HV:=zaa hv;have HM3:=zaa hm;have HD3:=zaa hd;have HB3:=zaa hb;clear hv hm hd hb;by_cases hb:b<12
              · (have hbi:(b:Int)<12:=by omega);have HRB:=oe (D:=D) (s:=s) HCB.out HLB.out a b (by omega);have x1:=(HRB.2 a).1;have x2:=(HRB.2 a).2;have y1:=(HRB.2 b).1;have y2:=(HRB.2 b).2;have HL:=zaa HRB.1;clear HRB;have x3:=HCB.out a b;have c1:=HV.out.cell a hla;have c2:=HV.out.cell b hb;have c3:=HV.out.fz b;have c4:=HM3.out.cell a b hla hb;have c5:=HD3.out.cell a hla;obtain⟨X,hX⟩:∃x,x=gI (b9 C D s L a b) a:=⟨_,rfl⟩;obtain⟨Y,hY⟩:∃x,x=gI (b9 C D s L a b) b:=⟨_,rfl⟩;have HX:=zaa hX;have HY:=zaa hY;rw[<-hX]at x1 x2 c1;rw[<-hY]at y1 y2 c2;by_cases e1:a=s
                · (have f1:((a:Int)==(s:Int))=true:=by rw[beq_iff_eq];omega);have HR:=zaa (ji (a:=a) (b:=b) (s:=s) (L:=L) (C:=C) (D:=D) (.inl e1));(go_wp2_with fail);(go_roundw);(case rel=>exact⟨b+1,by omega,by go_num,by rw[HR.out];exact HV.out,HM3.out,HD3.out,HB3.out⟩);case measure=>simp[intOf];omega
                · (have f1:((a:Int)==(s:Int))=false:=by rw[beq_eq_false_iff_ne];omega);by_cases e2:b=s
                  · (have f2:((b:Int)==(s:Int))=true:=by rw[beq_iff_eq];omega);have HR:=zaa (ji (a:=a) (b:=b) (s:=s) (L:=L) (C:=C) (D:=D) (.inr (.inl e2)));(go_wp2_with fail);(go_roundw);(case rel=>exact⟨b+1,by omega,by go_num,by rw[HR.out];exact HV.out,HM3.out,HD3.out,HB3.out⟩);case measure=>simp[intOf];omega
                  · (have f2:((b:Int)==(s:Int))=false:=by rw[beq_eq_false_iff_ne];omega);by_cases e3:X<0
                    · have f3:decide (X<0)=true:=decide_eq_true e3;have HR:=zaa (ji (a:=a) (b:=b) (s:=s) (L:=L) (C:=C) (D:=D) (.inr (.inr (.inl (hX▸e3)))));(go_wp2_with fail);(go_roundw);(case rel=>exact⟨b+1,by omega,by go_num,by rw[HR.out];exact HV.out,HM3.out,HD3.out,HB3.out⟩);case measure=>simp[intOf];omega
                    · have f3:decide (X<0)=false:=decide_eq_false e3;by_cases e4:D a=true
                      · rw[e4]at c5;have HR:=zaa (ji (a:=a) (b:=b) (s:=s) (L:=L) (C:=C) (D:=D) (.inr (.inr (.inr (.inl e4)))));(go_wp2_with fail);(go_roundw);(case rel=>exact⟨b+1,by omega,by go_num,by rw[HR.out];exact HV.out,HM3.out,HD3.out,HB3.out⟩);case measure=>simp[intOf];omega
                      · (have f4:D a=false:=by simpa using e4);rw[f4]at c5;by_cases e5:C a b=0
                        · (have f5:((C a b:Int)==0)=true:=by rw[beq_iff_eq];omega);have HR:=zaa (ji (a:=a) (b:=b) (s:=s) (L:=L) (C:=C) (D:=D) (.inr (.inr (.inr (.inr e5)))));(go_wp2_with fail);(go_roundw);(case rel=>exact⟨b+1,by omega,by go_num,by rw[HR.out];exact HV.out,HM3.out,HD3.out,HB3.out⟩);case measure=>simp[intOf];omega
                        · (have f5:((C a b:Int)==0)=false:=by rw[beq_eq_false_iff_ne];omega);have h0:=zaa (show ¬ (a=s∨b=s∨gI (b9 C D s L a b) a<0∨D a=true∨C a b=0)by rw[<-hX];rintro(e|e|e|e|e)<;>contradiction);clear e1 e2 e3 e4 e5;by_cases e6:Y<0
                          · have f6:decide (Y<0)=true:=decide_eq_true e6;have HR:=zaa (qs (a:=a) (b:=b) (s:=s) (L:=L) (C:=C) (D:=D) h0.out (.inl (hY▸e6)));clear hX hY;(go_wp2_with fail);(go_quiet (fail));(go_wp2_with fail);(go_roundw);(case rel=>exact⟨b+1,by omega,by go_num,(HV.out.drewN nq).set hb _ (fun x hx=>by rw[HR.out,vK HL.out hb,<-HX.out]),(HM3.out.drewN nq).far (p:=⟨B,b,none⟩) hBM _,(HD3.out.drewN nq).far (p:=⟨B,b,none⟩) hBD _,(ag HB3.out nq).setCell (p:=⟨B,b,none⟩) hBw _⟩);case measure=>simp[intOf];omega
                          · have f6:decide (Y<0)=false:=decide_eq_false e6;by_cases e7:X+C a b<Y
                            · have f7:decide (X+C a b<Y)=true:=decide_eq_true e7;have HR:=zaa (qs (a:=a) (b:=b) (s:=s) (L:=L) (C:=C) (D:=D) h0.out (.inr (hX▸hY▸e7)));clear hX hY;(go_wp2_with fail);(go_quiet (fail));(go_wp2_with fail);(go_roundw);(case rel=>exact⟨b+1,by omega,by go_num,(HV.out.drewN nq).set hb _ (fun x hx=>by rw[HR.out,vK HL.out hb,<-HX.out]),(HM3.out.drewN nq).far (p:=⟨B,b,none⟩) hBM _,(HD3.out.drewN nq).far (p:=⟨B,b,none⟩) hBD _,(ag HB3.out nq).setCell (p:=⟨B,b,none⟩) hBw _⟩);case measure=>simp[intOf];omega
                            · have f7:decide (X+C a b<Y)=false:=decide_eq_false e7;have HR:=zaa (vQ (b:=b) (a:=a) (s:=s) (L:=L) (C:=C) (D:=D) (by rw[<-hX,<-hY];rintro(e|e)<;>contradiction));clear hX hY;(go_wp2_with fail);(go_quiet (fail));(go_wp2_with fail);(go_roundw);(case rel=>exact⟨b+1,by omega,by go_num,by rw[HR.out];exact HV.out.drewN nq,HM3.out.drewN nq,HD3.out.drewN nq,ag HB3.out nq⟩);case measure=>simp[intOf];omega
              · (have hbi:¬ (b:Int)<12:=by omega);(obtain rfl:b=12:=by omega);(go_wp2_with fail);(go_roundw);(case rel=>exact⟨a+1,by omega,by go_num,by rw[HNX.out];exact HV.out,HM3.out,HD3.out,HB3.out⟩);case measure=>simp[intOf];omega
           · (have hai:¬ (a:Int)<12:=by omega);(obtain rfl:a=12:=by omega);(go_wp2_with fail);(go_roundw);(case rel=>exact⟨r+1,by omega,by go_num,by rw[HBE.out];rw[HBE.out]at HV;exact HV.out,HM2.out,HD2.out,HB2.out⟩);case measure=>simp[intOf];omega
        · (have hri:¬ (r:Int)<12:=by omega);(obtain rfl:r=12:=by omega);have c1:=HV.out.cell q hq;(have hqi:(q:Int)<12:=by omega);(go_wp2_with fail);(go_ret);exact⟨rfl,HB2.out⟩
end
end Go.Proofs.YtojojpjldkpmoaaGreatDoor
