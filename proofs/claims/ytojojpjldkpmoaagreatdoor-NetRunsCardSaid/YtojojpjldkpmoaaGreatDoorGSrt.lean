/-
  
-/
import Derived.Test.YtojojpjldkpmoaaGreatDoorGMem
set_option linter.unusedVariables false
set_option linter.unusedSimpArgs false
set_option maxHeartbeats 16000000
set_option maxRecDepth 100000
namespace Go.Proofs.YtojojpjldkpmoaaGreatDoor
section
open Go.RowKit
structure ab where
 key:ByteArray
 version:Int
 origin:Int
 value:ByteArray
def ltB(a b:ByteArray):Bool:=Op.bytesLess a.data.toList b.data.toList
theorem ry:∀a:List UInt8,Op.bytesLess a a=false
 | []=>rfl
 | a::r=>by simp[Op.bytesLess,ry r]
theorem uU:∀a b:List UInt8,Op.bytesLess a b=true->Op.bytesLess b a=false
 | [],[],h=>by simp[Op.bytesLess]at h
 | [],_::_,_=>by simp[Op.bytesLess]
 | _::_,[],h=>by simp[Op.bytesLess]at h
 | a::r,b::s,h=>by
   simp only[Op.bytesLess,Bool.or_eq_true,decide_eq_true_eq,Bool.and_eq_true,beq_iff_eq,Bool.or_eq_false_iff,decide_eq_false_iff_not,Bool.and_eq_false_iff,beq_eq_false_iff_ne]at h⊢;rcases h with h|⟨rfl,h⟩
   · refine⟨by rw[UInt8.lt_iff_toNat_lt]at*;omega,.inl fun e=> ?_⟩;subst e;rw[UInt8.lt_iff_toNat_lt]at h;omega
   · exact⟨by rw[UInt8.lt_iff_toNat_lt];omega,.inr (uU r s h)⟩
theorem uT:∀a b:List UInt8,Op.bytesLess a b=false->Op.bytesLess b a=false->a=b
 | [],[],_,_=>rfl
 | [],_::_,h,_=>by simp[Op.bytesLess]at h
 | _::_,[],_,h=>by simp[Op.bytesLess]at h
 | a::r,b::s,h,h'=>by
   simp only[Op.bytesLess,Bool.or_eq_false_iff,decide_eq_false_iff_not,Bool.and_eq_false_iff,beq_eq_false_iff_ne]at h h';have e:a=b:=by
    apply UInt8.toNat_inj.1;have h1:=h.1;have h2:=h'.1;rw[UInt8.lt_iff_toNat_lt]at h1 h2;omega
   subst e;rw[uT r s (h.2.resolve_left (by simp)) (h'.2.resolve_left (by simp))]
theorem uS:∀a b c:List UInt8,Op.bytesLess a b=true->Op.bytesLess b c=true->Op.bytesLess a c=true
 | _,[],_,h,_=>by simp[Op.bytesLess]at h
 | _,_::_,[],_,h=>by simp[Op.bytesLess]at h
 | [],_::_,_::_,_,_=>by simp[Op.bytesLess]
 | a::r,b::s,c::t,h,h'=>by
   simp only[Op.bytesLess,Bool.or_eq_true,decide_eq_true_eq,Bool.and_eq_true,beq_iff_eq,UInt8.lt_iff_toNat_lt]at h h'⊢;rcases h with h|⟨rfl,h⟩<;>rcases h' with h'|⟨rfl,h'⟩
   · left;omega
   · left;exact h
   · left;exact h'
   · right;exact⟨rfl,uS r s t h h'⟩
theorem cV(a:ByteArray):ltB a a=false:=ry _
theorem qK{a b:ByteArray}(h:ltB a b=true):ltB b a=false:=uU _ _ h
theorem jP{a b c:ByteArray}(h:ltB a b=true)(h':ltB b c=true):ltB a c=true:=uS _ _ _ h h'
theorem l9{a b:ByteArray}(h:ltB a b=false)(h':ltB b a=false):a=b:=by
 have e:=uT _ _ h h';exact ByteArray.ext (Array.toList_inj.1 e)
@[go_sem] theorem DV (P:Program) (w:World) (t:TypeId) (x y:ByteArray):(binOp .geq t (.string x) (.string y)).run P w= .ok (.bool (!ltB x y)) w:=by
  simp[binOp,Op.stringOp,zbw,ltB,pure,Sem.run]
theorem DW(x y:ByteArray):(!(ltB x y||x.data.toList==y.data.toList))=ltB y x:=by
 rcases e:ltB x y with _|_
 · rcases e2:ltB y x with _|_
   · have:=l9 e e2;subst this;simp
   · have:(x.data.toList==y.data.toList)=false:=by
      rw[beq_eq_false_iff_ne];intro h;have:x=y:=ByteArray.ext (Array.toList_inj.1 h);subst this;rw[cV]at e2;cases e2
     simp[this]
 · simp[qK e]
@[go_sem] theorem DU (P:Program) (w:World) (t:TypeId) (x y:ByteArray):(binOp .gtr t (.string x) (.string y)).run P w= .ok (.bool (ltB y x)) w:=by
  rw[<-DW];simp[binOp,Op.stringOp,zbw,ltB,pure,Sem.run]
@[go_sem] theorem DT (P:Program) (w:World) (t:TypeId) (x y:ByteArray):(binOp .leq t (.string x) (.string y)).run P w= .ok (.bool (!ltB y x)) w:=by
  rw[<-DW];simp[binOp,Op.stringOp,zbw,ltB,pure,Sem.run]
@[go_sem] theorem DS (P:Program) (w:World) (t:TypeId) (x y:ByteArray):(binOp .lss t (.string x) (.string y)).run P w= .ok (.bool (ltB x y)) w:=by
  simp[binOp,Op.stringOp,zbw,ltB,pure,Sem.run]
def jZ(c:UInt8):Bool:=(decide (97<=c.toNat)&&decide (c.toNat<=122))||(decide (48<=c.toNat)&&decide (c.toNat<=57))||c.toNat==58
def eu(s:ByteArray):Bool:=decide (1<=s.size)&&decide (s.size<=8)&&s.data.toList.all jZ
def bj(e:ab):Bool:=
 eu e.key&&decide (1<=e.version)&&decide (e.version<=1099511627776)&&decide (0<=e.origin)&&decide (e.origin<=11)&&decide (e.value.size<=120)
def chk(l:List ab):Nat->Nat->Int
 | 0,_=>0
 | n+1,k=>
   match l[k]? with
   | none=>0
   | some e=>if bj e=false then 4 else
     if(match k with|0=>false|j+1=>match l[j]? with|some p=> !ltB p.key e.key|none=>false)=true then 7 else chk l n (k+1)
def aj(l:List ab):Int:=if 60<l.length then 1 else chk l l.length 0
theorem yz(l:List ab)(k:Nat)(h:l.length<=k)(n:Nat):chk l n k=0:=by
 cases n with
 | zero=>rfl
 | succ n=>unfold chk;rw[zbU h]
theorem yA(l:List ab)(k:Nat)(hk:k<l.length)(h:bj l[k]=false):chk l (l.length-k) k=4:=by
 obtain⟨n,hn⟩:∃n,l.length-k=n+1:=⟨l.length-k-1,by omega⟩;rw[hn];unfold chk;rw[zad hk];simp[h]
theorem rt(l:List ab)(hk:0<l.length)(h:bj l[0]=true):chk l l.length 0=chk l (l.length-1) 1:=by
 obtain⟨n,hn⟩:∃n,l.length=n+1:=⟨l.length-1,by omega⟩;rw[show l.length-1=n by omega];rw[hn]
 conv=>lhs;unfold chk
 rw[zad hk];simp[h]
theorem rq(l:List ab)(j:Nat)(hk:j+1<l.length)(h:bj l[j+1]=true)(ho:ltB l[j].key l[j+1].key=false):chk l (l.length-(j+1)) (j+1)=7:=by
 obtain⟨n,hn⟩:∃n,l.length-(j+1)=n+1:=⟨l.length-(j+1)-1,by omega⟩;have h1:l[j]? =some l[j]:=zad (by omega);rw[hn];unfold chk;rw[zad hk];simp[h,ho,h1]
theorem uM(l:List ab)(j:Nat)(hk:j+1<l.length)(h:bj l[j+1]=true)(ho:ltB l[j].key l[j+1].key=true):chk l (l.length-(j+1)) (j+1)=chk l (l.length-(j+1+1)) (j+1+1):=by
 obtain⟨n,hn⟩:∃n,l.length-(j+1)=n+1:=⟨l.length-(j+1)-1,by omega⟩;rw[hn,show l.length-(j+1+1)=n by omega]
 conv=>lhs;unfold chk
 have h1:l[j]? =some l[j]:=zad (by omega);rw[zad hk];simp[h,ho,h1]
def ab.cells(e:ab):List Value:=[.string e.key,.int .i64 e.version,.int .i64 e.origin,.string e.value]
def ab.val(e:ab):Value:= .agg #[.string e.key,.int .i64 e.version,.int .i64 e.origin,.string e.value]
def ab.wf(e:ab):Prop:=e.key.size<=maxLen/\inR e.version/\inR e.origin/\e.value.size<=maxLen
def aW:Rep ab:=dw 4 ab.cells ab.wf (fun _=>rfl) (fun x u h=>by simp[ab.cells]at h;rcases h with rfl|rfl|rfl|rfl<;>rfl)
theorem Sl.ent{w:World}{b off c n:Nat}{xs:List ab}(h:Sl aW w (.slice (some ⟨b,off,none⟩) n c) xs){k:Nat}(hk:k<xs.length):
  w.cell? ⟨b,off+k*4,none⟩=some (.string xs[k].key)/\w.cell? ⟨b,off+k*4+1,none⟩=some (.int .i64 xs[k].version)/\
  w.cell? ⟨b,off+k*4+2,none⟩=some (.int .i64 xs[k].origin)/\w.cell? ⟨b,off+k*4+3,none⟩=some (.string xs[k].value)/\xs[k].wf:=by
 obtain⟨cs,⟨rfl,hw⟩,hc⟩:=h.cell hk;exact⟨hc 0 _ rfl,hc 1 _ rfl,hc 2 _ rfl,hc 3 _ rfl,hw⟩
def ltE(a b:ab):Prop:=ltB a.key b.key=true
structure OkS(l:List ab):Prop where
 len:l.length<=60
 ok:∀e∈l,bj e=true
 ord:l.Pairwise ltE
theorem if7:∀(b:Bool) (z:Int),(if b=true then 7 else z)=0->b=false/\z=0
 | true,_,h=>by simp at h
 | false,z,h=>⟨rfl,by simpa using h⟩
theorem Cw(l:List ab):∀n k,l.length<=n+k->chk l n k=0->∀j,k<=j->(h:j<l.length)->bj l[j]=true/\∀m,(hm:m+1=j)->ltB l[m].key l[j].key=true:=by
 intro n
 induction n with
 | zero=>intro k hk _ j hj h;omega
 | succ n ih=>
   intro k hk h0 j hj h;(have hkl:k<l.length:=by omega);unfold chk at h0;rw[zad hkl]at h0;simp only at h0;by_cases hok:bj l[k]=false
   · rw[if_pos hok]at h0;cases h0
   · rw[if_neg hok]at h0;(have hok':bj l[k]=true:=by simpa using hok);obtain⟨ho,h1⟩:=if7 _ _ h0;by_cases e:k=j
     · subst e;refine⟨hok',fun m hm=> ?_⟩;subst hm;have h1:l[m]? =some l[m]:=zad (by omega);simpa [h1]using ho
     · exact ih (k+1) (by omega) h1 j (by omega) h
theorem DC(l:List ab)(hok:∀j,(h:j<l.length)->bj l[j]=true)(ho:∀m,(h:m+1<l.length)->ltB l[m].key l[m+1].key=true):∀n k,chk l n k=0:=by
 intro n
 induction n with
 | zero=>intro k;rfl
 | succ n ih=>
   intro k;unfold chk;by_cases hk:k<l.length
   · rw[zad hk];simp only[hok k hk];rw[if_neg (by simp)];rw[if_neg ?_]
     · exact ih _
     · cases k with
       | zero=>simp
       | succ m=>
         have h1:l[m]? =some l[m]:=zad (by omega);simp[h1,ho m hk]
   · rw[zbU (by omega)]
theorem dX{l:List ab}(h:aj l=0):OkS l:=by
 unfold aj at h;split at h
 · cases h
 · rename_i h60;have hz:=Cw l l.length 0 (by omega) h;refine⟨by omega,fun e he=> ?_,?_⟩
   · obtain⟨j,hj,rfl⟩:=zau he;exact(hz j (by omega) hj).1
   · rw[zaR];intro i j hi hj hij;have key:∀d i,(h:i+d+1<l.length)->ltB l[i].key l[i+d+1].key=true:=by
      intro d
      induction d with
      | zero=>intro i h;exact(hz (i+1) (by omega) h).2 i rfl
      | succ d ih=>intro i h;exact jP (ih i (by omega)) ((hz (i+(d+1)+1) (by omega) h).2 (i+d+1) (by omega))
     have:=key (j-i-1) i (by omega);(have e:i+(j-i-1)+1=j:=by omega);unfold ltE;simpa only[e]using this
theorem OkS.check{l:List ab}(h:OkS l):aj l=0:=by
 unfold aj;rw[if_neg (by have:=h.len;omega)];refine DC l (fun j hj=>h.ok _ (zaw hj)) (fun m hm=> ?_) _ _;have:=zaR.1 h.ord m (m+1) (by omega) hm (by omega);exact this
theorem OkS.nil:OkS []:=⟨by simp,by simp,List.Pairwise.nil⟩
def lbE(l:List ab)(k:ByteArray):Nat:=(l.takeWhile fun e=>ltB e.key k).length
def dm(l:List ab)(k:ByteArray):Bool:=l.any fun e=>decide (e.key=k)
def bR(l:List ab)(k:ByteArray):Option ab:=l.find? fun e=>decide (e.key=k)
def bU(l:List ab)(k:ByteArray):Int:=match l.findIdx? fun e=>decide (e.key=k)with|some i=>i|none=> -1
theorem kx(l:List ab)(k:ByteArray):lbE l k<=l.length:=by
 unfold lbE
 induction l with
 | nil=>simp
 | cons a r ih=>rw[zbr];split<;>simp<;>omega
theorem kw:∀(l:List ab) (k:ByteArray) (j:Nat) (h:j<l.length),j<lbE l k->ltB l[j].key k=true
 | [],_,_,h,_=>by simp at h
 | a::r,k,j,h,hj=>by
   unfold lbE at hj;rw[zbr]at hj;split at hj
   · rename_i ha;cases j with
     | zero=>exact ha
     | succ j=>exact kw r k j (by simpa using h) (by simp at hj;exact hj)
   · simp at hj
theorem sm:∀(l:List ab) (k:ByteArray) (h:lbE l k<l.length),ltB l[lbE l k].key k=false
 | [],_,h=>by simp at h
 | a::r,k,h=>by
   unfold lbE at h⊢;rcases ha:ltB a.key k with _|_
   · simp only[zbr,ha];simpa using ha
   · simp only[zbr,ha]at h⊢;simp only[if_pos,zaD,zag];exact sm r k (by unfold lbE;simpa using h)
theorem BN:∀(l:List ab) (k:ByteArray) (i:Nat),i<=l.length->(∀j,(h:j<l.length)->j<i->ltB l[j].key k=true)->((h:i<l.length)->ltB l[i].key k=false)->lbE l k=i:=by
 intro l k i hi h1 h2;rcases Nat.lt_trichotomy (lbE l k) i with h|h|h
 · have:=h1 (lbE l k) (by omega) h;rw[sm l k (by omega)]at this;cases this
 · exact h
 · have hl:=kx l k;have:=kw l k i (by omega) h;rw[h2 (by omega)]at this;cases this
theorem fR{l:List ab}(h:l.Pairwise ltE){i j:Nat}(hij:i<j)(hj:j<l.length):ltB l[i].key l[j].key=true:=
 zaR.1 h i j (by omega) hj hij
theorem BK{l:List ab}(h:l.Pairwise ltE){k:ByteArray}{i j:Nat}(hij:i<=j)(hj:j<l.length)(hl:ltB l[j].key k=true):ltB l[i].key k=true:=by
 rcases Nat.lt_or_eq_of_le hij with e|e
 · exact jP (fR h e hj) hl
 · subst e;exact hl
theorem ns{l:List ab}(h:l.Pairwise ltE)(k:ByteArray){j:Nat}(hj:j<l.length)(he:l[j].key=k):lbE l k=j:=by
 refine BN l k j (by omega) (fun i hi hij=> ?_) (fun _=> ?_)
 · rw[<-he];exact fR h hij hj
 · rw[he];exact cV k
theorem cF{l:List ab}(h:l.Pairwise ltE)(k:ByteArray):dm l k=true↔∃hl:lbE l k<l.length,l[lbE l k].key=k:=by
 unfold dm;rw[zbp];constructor
 · rintro⟨e,he,hk⟩;obtain⟨j,hj,rfl⟩:=zau he;have hk':=of_decide_eq_true hk;have e1:=ns h k hj hk';exact⟨by omega,by simpa only[e1]using hk'⟩
 · rintro⟨hl,hk⟩;exact⟨_,zaw hl,decide_eq_true hk⟩
theorem dZ{l:List ab}(h:l.Pairwise ltE)(k:ByteArray)(hl:lbE l k<l.length)(hk:l[lbE l k].key=k):bR l k=some l[lbE l k]:=by
 unfold bR;rw[zci];refine⟨decide_eq_true hk,lbE l k,hl,rfl,fun j hj=> ?_⟩;have:=kw l k j (by omega) hj;simp only[Bool.not_eq_true',decide_eq_false_iff_not];intro e;rw[e,cV]at this;cases this
theorem gG{l:List ab}{k:ByteArray}(h:dm l k=false):bR l k=none:=by
 unfold bR;unfold dm at h;rw[zbQ];intro e he hk;have:=zch.1 h e he;exact this hk
theorem mw{l:List ab}(h:l.Pairwise ltE)(k:ByteArray)(hl:lbE l k<l.length)(hk:l[lbE l k].key=k):bU l k=lbE l k:=by
 unfold bU;have:(l.findIdx? fun e=>decide (e.key=k))=some (lbE l k):=by
  rw[zbv];refine⟨hl,decide_eq_true hk,fun j hj=> ?_⟩;have:=kw l k j (by omega) hj;intro e;rw[of_decide_eq_true e,cV]at this;cases this
 rw[this]
theorem gR{l:List ab}{k:ByteArray}(h:dm l k=false):bU l k= -1:=by
 unfold bU;unfold dm at h;have:(l.findIdx? fun e=>decide (e.key=k))=none:=by
  rw[zcc];intro e he;have h1:=zch.1 h e he;exact Bool.eq_false_iff.2 h1
 rw[this]
def cZ(l:List ab)(x:ab):List ab:=l.take (lbE l x.key)++x::l.drop (lbE l x.key+if dm l x.key then 1 else 0)
theorem lM{l:List ab}(h:l.Pairwise ltE)(x:ab):(cZ l x).length=l.length+if dm l x.key then 0 else 1:=by
 unfold cZ;have hle:=kx l x.key;rcases e:dm l x.key with _|_
 · simp;omega
 · obtain⟨hl,_⟩:=(cF h _).1 e;simp;omega
theorem lL{l:List ab}(h:l.Pairwise ltE)(x:ab):(cZ l x).Pairwise ltE:=by
 unfold cZ;have hle:=kx l x.key;rw[List.pairwise_append];refine⟨h.sublist (List.take_sublist _ _),?_,?_⟩
 · rw[zaP];refine⟨fun e he=> ?_,h.sublist (List.drop_sublist _ _)⟩;by_cases e':dm l x.key=true
   · obtain⟨hl,hk⟩:=(cF h _).1 e';rw[if_pos e']at he;obtain⟨j,hj,rfl⟩:=zau he;rw[zaM]at hj;have:=fR h (i:=lbE l x.key) (j:=lbE l x.key+1+j) (by omega) (by omega);rw[hk]at this;unfold ltE;rw[zbY];exact this
   · rw[if_neg e',zbH]at he;obtain⟨j,hj,rfl⟩:=zau he;rw[zaM]at hj;(have hlt:lbE l x.key<l.length:=by omega);have h0:=sm l x.key hlt;have hne:¬ l[lbE l x.key].key=x.key:=fun hk=>e' ((cF h x.key).2 ⟨hlt,hk⟩);have h1:ltB x.key l[lbE l x.key].key=true:=by
      rcases e2:ltB x.key l[lbE l x.key].key with _|_
      · exact absurd (l9 h0 e2) hne
      · rfl
     unfold ltE;rw[zbY];rcases zaG j with hz|hz
     · subst hz;simpa using h1
     · exact jP h1 (fR h (by omega) (by omega))
 · intro a ha b hb;obtain⟨i,hi,rfl⟩:=zau ha;rw[zat]at hi;rw[zbS];have h1:=kw l x.key i (by omega) (by omega);rw[zaS]at hb;rcases hb with rfl|hb
   · exact h1
   · obtain⟨j,hj,rfl⟩:=zau hb;rw[zaM]at hj;rw[zbY];exact fR h (by omega) (by omega)
theorem kJ{l:List ab}(h:OkS l){x:ab}(hx:bj x=true)(hroom:dm l x.key=true∨l.length<60):OkS (cZ l x):=by
 refine⟨?_,fun e he=> ?_,lL h.ord x⟩
 · rw[lM h.ord];have:=h.len;rcases hroom with e|e
   · simp[e];omega
   · split<;>omega
 · unfold cZ at he;rw[zbd,zaS]at he;rcases he with he|rfl|he
   · exact h.ok _ (zbk he)
   · exact hx
   · exact h.ok _ (zbl he)
end
end Go.Proofs.YtojojpjldkpmoaaGreatDoor
