/-
  
-/
import Derived.Test.YtojojpjldkpmoaaGreatDoorRows
import Derived.WalkKit
import Derived.Deep.QuietTactic
import Derived.BigQuiet
import Derived.Lib.Hide
import Derived.Laws.Rows
import Derived.Outline
import Derived.Deep.DeepCutAuto
import Derived.Deep.CutBlock
import Derived.Lib.ConvBytes
set_option linter.unusedVariables false
set_option linter.unusedSimpArgs false
set_option maxHeartbeats 16000000
set_option maxRecDepth 100000
namespace Go.Proofs.YtojojpjldkpmoaaGreatDoor
open Go.RowKit
abbrev zaa:= @Go.Lib.hid
abbrev zab:= @Nat.le_refl
abbrev zac:= @Go.RowKit.Below.refl
abbrev zad:= @List.getElem?_eq_getElem
abbrev zae:= @List.setIfInBounds_toArray
abbrev zaf:= @List.getElem_cons_zero
abbrev zag:= @List.getElem_cons_succ
abbrev zah:= @Go.World.cell?_alloc_at
abbrev zai:= @Int.natCast_nonneg
abbrev zaj:= @Go.World.cell?_setCell_other
abbrev zak:= @Nat.le_of_ble_eq_true
abbrev zal:= @List.getElem_toArray
abbrev zam:= @List.set_cons_succ
abbrev zan:= @List.set_cons_zero
abbrev zao:= @Go.RowKit.Below.heap_setCell
abbrev zap:= @Nat.zero_le
abbrev zaq:= @List.length_append
abbrev zar:= @List.take_succ_eq_append_getElem
abbrev zas:= @Nat.lt_of_lt_of_le
abbrev zat:= @List.length_take
abbrev zau:= @List.getElem_of_mem
abbrev zav:= @Go.World.cell?_of_block
abbrev zaw:= @List.getElem_mem
abbrev zax:= @Nat.le_trans
abbrev zay:= @List.getD_eq_getElem?_getD
abbrev zaz:= @Go.World.frozen?_setCell
abbrev zaA:= @List.getElem?_cons_succ
abbrev zaB:= @List.getElem?_toArray
abbrev zaC:= @List.getElem?_cons_zero
abbrev zaD:= @List.length_cons
abbrev zaE:= @List.toList_toArray
abbrev zaF:= @List.getElem?_set_ne
abbrev zaG:= @Nat.eq_zero_or_pos
abbrev zaH:= @List.eq_nil_of_length_eq_zero
abbrev zaI:= @List.length_map
abbrev zaJ:= @Go.World.cell?_setCell_same'
abbrev zaK:= @Go.World.frozen?_of_block
abbrev zaL:= @Go.World.frozen?_alloc_at
abbrev zaM:= @List.length_drop
abbrev zaN:= @List.take_length
abbrev zaO:= @List.take_of_length_le
abbrev zaP:= @List.pairwise_cons
abbrev zaQ:= @Array.size_modify
abbrev zaR:= @List.pairwise_iff_getElem
abbrev zaS:= @List.mem_cons
abbrev zaT:= @List.getElem?_eq_some_iff
abbrev zaU:= @List.flatten_cons
abbrev zaV:= @Go.World.grownBy.refl
abbrev zaW:= @List.length_nil
abbrev zaX:= @Int.toNat_natCast
abbrev zaY:= @Go.World.cell?_drew
abbrev zaZ:= @Int.eq_ofNat_of_zero_le
abbrev zba:= @List.getElem?_append_right
abbrev zbb:= @Nat.zero_add
abbrev zbc:= @List.map_cons
abbrev zbd:= @List.mem_append
abbrev zbe:= @List.map_append
abbrev zbf:= @Go.RowKit.Below.heap_alloc
abbrev zbg:= @List.take_append_of_le_length
abbrev zbh:= @Nat.le_of_lt
abbrev zbi:= @List.getElem?_append_left
abbrev zbj:= @Go.World.block_lt_of_cell?
abbrev zbk:= @List.mem_of_mem_take
abbrev zbl:= @List.mem_of_mem_drop
abbrev zbm:= @List.append_assoc
abbrev zbn:= @List.map_toArray
abbrev zbo:= @List.getElem?_take
abbrev zbp:= @List.any_eq_true
abbrev zbq:= @Go.World.size_alloc
abbrev zbr:= @List.takeWhile_cons
abbrev zbs:= @List.getElem?_set_self
abbrev zbt:= @Nat.lt_succ_self
abbrev zbu:= @List.mem_filter
abbrev zbv:= @List.findIdx?_eq_some_iff_getElem
abbrev zbw:= @Go.ByteArray.toList_eq
abbrev zbx:= @List.size_toArray
abbrev zby:= @Int.tmod_eq_emod_of_nonneg
abbrev zbz:= @List.take_succ_cons
abbrev zbA:= @List.drop_of_length_le
abbrev zbB:= @List.map_nil
abbrev zbC:= @List.length_filter_le
abbrev zbD:= @List.drop_succ_cons
abbrev zbE:= @List.getElem?_replicate
abbrev zbF:= @Nat.lt_or_ge
abbrev zbG:= @Nat.le_of_eq
abbrev zbH:= @Nat.add_zero
abbrev zbI:= @List.getElem?_drop
abbrev zbJ:= @Go.Sem.run_pure
abbrev zbK:= @Go.Sem.run_bind
abbrev zbL:= @List.length_set
abbrev zbM:= @List.append_nil
abbrev zbN:= @List.getElem?_map
abbrev zbO:= @Go.Calls.quiet_of_same
abbrev zbP:= @Go.World.cell?_setCell_same
abbrev zbQ:= @List.find?_eq_none
abbrev zbR:= @List.mem_map
abbrev zbS:= @List.getElem_take
abbrev zbT:= @List.mem_range
abbrev zbU:= @List.getElem?_eq_none
abbrev zbV:= @List.filter_append
abbrev zbW:= @List.getElem_map
abbrev zbX:= @List.cons_append
abbrev zbY:= @List.getElem_drop
abbrev zbZ:= @Int.le_refl
abbrev zca:= @List.head?_eq_getElem?
abbrev zcb:= @Array.getElem?_eq_none
abbrev zcc:= @List.findIdx?_eq_none_iff
abbrev zcd:= @Nat.mul_le_mul_right
abbrev zce:= @Nat.not_lt_zero
abbrev zcf:= @List.nil_append
abbrev zcg:= @List.getElem?_set
abbrev zch:= @List.any_eq_false
abbrev zci:= @List.find?_eq_some_iff_getElem
abbrev zcj:= @List.getElem?_range
abbrev zck:= @List.flatten_append
abbrev zcl:= @Array.length_toList
abbrev zcm:= @List.all_eq_true
abbrev zcn:= @List.mem_singleton
abbrev zco:= @Nat.succ_mul
abbrev zcp:= @List.take_append_drop
abbrev zcq:= @List.contains_iff_mem
abbrev zcr:= @List.foldl_append
abbrev zcs:= @List.filter_congr
abbrev zct:= @Int.lt_trichotomy
abbrev zcu:= @Go.RowKit.Below.mono
abbrev zcv:= @Nat.mul_le_mul
abbrev zcw:= @List.take_zero
abbrev zcx:= @List.mem_or_eq_of_mem_set
theorem eb{b c:Bool}(h:b=c):Ending.returned (.bool b)= .returned (.bool c):=by rw[h]
theorem ei{k:IntKind}{b c:Int}(h:b=c):Ending.returned (.int k b)= .returned (.int k c):=by rw[h]
theorem bAt{B:Nat}{w w':World}(h:Below B w w'){b:Nat}(hb:b<B):∀o,w'.cell? ⟨b,o,none⟩=w.cell? ⟨b,o,none⟩:=
 fun o=>h.cell (p:=⟨b,o,none⟩) hb
theorem bFz{B:Nat}{w w':World}(h:Below B w w'){b:Nat}(hb:b<B):∀o,w'.frozen? ⟨b,o,none⟩=w.frozen? ⟨b,o,none⟩:=
 fun o=>h.frozen (p:=⟨b,o,none⟩) hb
theorem aT{wr w1:World}{cs:Array Value}{t:TypeId}(h:Below (wr.alloc (.cells cs t)).heap.size (wr.alloc (.cells cs t)) w1):
  Below wr.heap.size wr w1/\(∀i,w1.cell? ⟨wr.heap.size,i,none⟩=cs[i]?)/\(∀i,w1.frozen? ⟨wr.heap.size,i,none⟩=false)/\wr.heap.size<w1.heap.size:=by
 have hz:=h.size;simp only[World.size_alloc]at hz;refine⟨((Below.refl _ _).alloc (Nat.le_refl _) _).trans (h.mono (by simp)),fun i=> ?_,fun i=> ?_,by omega⟩
 · rw[h.cell (p:=⟨wr.heap.size,i,none⟩) (by simp)];exact World.cell?_alloc_at _ _ _ _ rfl
 · rw[h.frozen (p:=⟨wr.heap.size,i,none⟩) (by simp)];exact World.frozen?_alloc_at _ _ _ _ rfl
theorem ag{B:Nat}{w w':World}(h:Below B w w')(n:Nat):Below B w (w'.drewN n):=⟨h.os,h.tape,h.output,h.size,h.block⟩
def iW(w:World)(b off:Nat)(cs:List Value):Prop:=∀j u,cs[j]? =some u->w.cell? ⟨b,off+j,none⟩=some u
structure Rep(α:Type) where
 size:Nat
 holds:World->(Nat->Prop)->List Value->α->Prop
 len:∀{w:World} {S:Nat->Prop} {cs:List Value} {x:α},holds w S cs x->cs.length=size
 one:∀{w:World} {S:Nat->Prop} {cs:List Value} {x:α},holds w S cs x->∀u∈cs,u.oneCell'=true
 keep:∀{w w':World} {S S':Nat->Prop} {cs:List Value} {x:α},holds w S cs x->(∀k,S k->w'.heap[k]? =w.heap[k]?)->(∀k,S k->S' k)->holds w' S' cs x
def dw{α:Type}(size:Nat)(enc:α->List Value)(ok:α->Prop)(h1:∀x,(enc x).length=size)(h2:∀x,∀u∈enc x,u.oneCell'=true):Rep α:=
 { size:=size,holds:=fun _ _ cs x=>cs=enc x/\ok x,len:=fun h=>by rw[h.1,h1],one:=fun h=>by rw[h.1];exact h2 _,keep:=fun h _ _=>h}
def SlR{α:Type}(r:Rep α)(w:World)(S:Nat->Prop)(v:Value)(xs:List α):Prop:=
 ∃A c,v= .slice A xs.length c/\xs.length<=c/\c<=maxLen/\
  ∀(i:Nat) (x:α),xs[i]? =some x->∃b off cs,A=some ⟨b,off,none⟩/\S b/\b<w.heap.size/\r.holds w S cs x/\iW w b (off+i*r.size) cs
def Sl{α:Type}(r:Rep α)(w:World)(v:Value)(xs:List α):Prop:=SlR r w (fun k=>k<w.heap.size) v xs
theorem iW.keep{w w':World}{b off:Nat}{cs:List Value}(h:iW w b off cs)(hk:w'.heap[b]? =w.heap[b]?):iW w' b off cs:=
 fun j u hu=>(World.cell?_of_block (w:=w) hk).trans (h j u hu)
theorem dY{w w':World}{b:Nat}(hb:b<w.heap.size)(hk:w'.heap[b]? =w.heap[b]?):b<w'.heap.size:=by
 rcases Nat.lt_or_ge b w'.heap.size with h|h
 · exact h
 · rw[Array.getElem?_eq_none h,Array.getElem?_eq_getElem hb]at hk;cases hk
theorem SlR.keep{α:Type}{r:Rep α}{w w':World}{S S':Nat->Prop}{v:Value}{xs:List α}(h:SlR r w S v xs)(hk:∀k,S k->w'.heap[k]? =w.heap[k]?)(hB:∀k,S k->S' k):SlR r w' S' v xs:=by
 obtain⟨A,c,hv,h1,h2,h3⟩:=h;refine⟨A,c,hv,h1,h2,fun i x hx=> ?_⟩;obtain⟨b,off,cs,hA,hS,hb,hh,hc⟩:=h3 i x hx;exact⟨b,off,cs,hA,hB _ hS,dY hb (hk b hS),r.keep hh hk hB,hc.keep (hk b hS)⟩
theorem Sl.below{α:Type}{r:Rep α}{w w':World}{v:Value}{xs:List α}(h:Sl r w v xs)(hb:Below w.heap.size w w'):Sl r w' v xs:=
 SlR.keep h hb.block (fun k hk=>Nat.lt_of_lt_of_le hk hb.size)
theorem Sl.nil{α:Type}(r:Rep α)(w:World):Sl r w (.slice none 0 0) []:=⟨none,0,rfl,Nat.le_refl _,Nat.zero_le _,fun i x h=>by simp at h⟩
theorem Sl.len_le{α:Type}{r:Rep α}{w:World}{v:Value}{xs:List α}(h:Sl r w v xs):xs.length<=9223372036854775807:=by
 obtain⟨_,c,_,h1,h2,_⟩:=h;unfold maxLen at h2;omega
theorem Sl.form{α:Type}{r:Rep α}{w:World}{v:Value}{xs:List α}(h:Sl r w v xs):∃A c,v= .slice A xs.length c:=by
 obtain⟨A,c,hv,_⟩:=h;exact⟨A,c,hv⟩
theorem Sl.at_{α:Type}{r:Rep α}{w:World}{A:Option Addr}{c:Nat}{n:Nat}{xs:List α}(h:Sl r w (.slice A n c) xs){k:Nat}(hk:k<xs.length):∃b off,A=some ⟨b,off,none⟩/\b<w.heap.size:=by
 obtain⟨A',c',hv,_,_,h3⟩:=h;injection hv with e1 e2 e3;subst e1;obtain⟨b,off,cs,hA,hb,_⟩:=h3 k xs[k] (List.getElem?_eq_getElem hk);exact⟨b,off,hA,hb⟩
theorem Sl.cell{α:Type}{r:Rep α}{w:World}{b off c n:Nat}{xs:List α}(h:Sl r w (.slice (some ⟨b,off,none⟩) n c) xs){k:Nat}(hk:k<xs.length):∃cs,r.holds w (fun k=>k<w.heap.size) cs xs[k]/\iW w b (off+k*r.size) cs:=by
 obtain⟨A',c',hv,_,_,h3⟩:=h;injection hv with e1 e2 e3;subst e1;obtain⟨b',off',cs,hA,_,hb,hh,hc⟩:=h3 k xs[k] (List.getElem?_eq_getElem hk);injection hA with hA;injection hA with h1 h2;subst h1;subst h2;exact⟨cs,hh,hc⟩
def OwR{α:Type}(r:Rep α)(E:TypeId)(base:Nat)(w:World)(v:Value)(xs:List α):Prop:=
 ∃css:List (List Value),css.length=xs.length/\(∀(i:Nat) (cs:List Value) (x:α),css[i]? =some cs->xs[i]? =some x->r.holds w (fun k=>k<w.heap.size/\v.ownBlock≠some k) cs x)/\
  w.ownsRow base E r.size v xs.length css.flatten/\base<=w.heap.size
theorem OwR.keep{α:Type}{r:Rep α}{E base:Nat}{w w':World}{v:Value}{xs:List α}(h:OwR r E base w v xs)(hb:Below w.heap.size w w'):OwR r E base w' v xs:=by
 obtain⟨css,h1,h2,h3,h4⟩:=h;refine⟨css,h1,fun i cs x hc hx=>r.keep (h2 i cs x hc hx) (fun k hk=>hb.block k hk.1) (fun k hk=>⟨Nat.lt_of_lt_of_le hk.1 hb.size,hk.2⟩),?_,Nat.le_trans h4 hb.size⟩;exact h3.kept (row:=none) ⟨hb.os,hb.tape,hb.output,hb.size,fun k hk _=>hb.block k hk⟩ (by cases v.ownBlock<;>simp)
theorem OwR.nil{α:Type}(r:Rep α)(E:TypeId){base:Nat}{w:World}(hb:base<=w.heap.size):OwR r E base w (.slice none 0 0) []:=
 ⟨[],rfl,fun i cs x h=>by simp at h,World.ownsRow_nil _ _ _ _,hb⟩
theorem uv{α:Type}{size:Nat}:∀{css:List (List α)},(∀cs∈css,cs.length=size)->∀(i:Nat) (cs:List α),css[i]? =some cs->∀j u,cs[j]? =some u->css.flatten[i*size+j]? =some u
 | [],_,i,cs,h,_,_,_=>by simp at h
 | c0::css,hl,0,cs,h,j,u,hu=>by
   simp at h;subst h;rw[List.flatten_cons,Nat.zero_mul,Nat.zero_add,List.getElem?_append_left (List.getElem?_eq_some_iff.1 hu).1];exact hu
 | c0::css,hl,i+1,cs,h,j,u,hu=>by
   have h0:=hl c0 (by simp);rw[List.flatten_cons,List.getElem?_append_right (by rw[h0,Nat.succ_mul];omega),h0];have:=uv (css:=css) (fun cs hc=>hl cs (by simp[hc])) i cs (by simpa using h) j u hu;rw[<-this];congr 1;rw[Nat.succ_mul];omega
theorem ut{α:Type}{size:Nat}:∀{css:List (List α)},(∀cs∈css,cs.length=size)->css.flatten.length=css.length*size
 | [],_=>by simp
 | c0::css,hl=>by
   rw[List.flatten_cons,List.length_append,hl c0 (by simp),ut (css:=css) (fun cs hc=>hl cs (by simp[hc])),List.length_cons,Nat.succ_mul];omega
theorem OwR.lens{α:Type}{r:Rep α}{w:World}{S:Nat->Prop}{xs:List α}{css:List (List Value)}(h1:css.length=xs.length)
  (h2:∀(i:Nat) (cs:List Value) (x:α),css[i]? =some cs->xs[i]? =some x->r.holds w S cs x):(∀cs∈css,cs.length=r.size)/\(∀u∈css.flatten,u.oneCell'=true):=by
 have key:∀cs∈css,∃x,r.holds w S cs x:=by
  intro cs hc;obtain⟨i,hi,rfl⟩:=List.getElem_of_mem hc;exact⟨xs[i]'(by omega),h2 i _ _ (List.getElem?_eq_getElem hi) (List.getElem?_eq_getElem (by omega))⟩
 refine⟨fun cs hc=> ?_,fun u hu=> ?_⟩
 · obtain⟨x,hx⟩:=key cs hc;exact r.len hx
 · obtain⟨cs,hc,hu'⟩:=List.mem_flatten.1 hu;obtain⟨x,hx⟩:=key cs hc;exact r.one hx u hu'
theorem OwR.sl{α:Type}{r:Rep α}{E base:Nat}{w:World}{v:Value}{xs:List α}(h:OwR r E base w v xs)(hs:0<r.size):Sl r w v xs:=by
 obtain⟨css,h1,h2,h3,h4⟩:=h;obtain⟨hl,_⟩:=OwR.lens h1 h2;have h3':=h3;rcases h3.2 with⟨rfl,h0⟩|⟨g,cap,cur,rfl,hg,hh,hnc,hcm,_,_⟩
 · have:xs=[]:=List.eq_nil_of_length_eq_zero h0;subst this;exact Sl.nil r w
 · refine⟨some ⟨g,0,none⟩,cap,rfl,hnc,hcm,fun i x hx=> ?_⟩;(have hi:i<css.length:=by rw[h1];exact(List.getElem?_eq_some_iff.1 hx).1);have hg':g<w.heap.size:=(h3'.lt g rfl).2;refine⟨g,0,css[i],rfl,hg',hg',r.keep (h2 i _ _ (List.getElem?_eq_getElem hi) hx) (fun _ _=>rfl) (fun k hk=>hk.1),fun j u hu=> ?_⟩;have h5:=h3'.cells (g:=g) rfl (i*r.size+j) u (uv hl i _ (List.getElem?_eq_getElem hi) j u hu);have e:((⟨g,0,none⟩:Addr).add (i*r.size+j))=⟨g,0+i*r.size+j,none⟩:=by
    unfold Addr.add;split
    · rename_i hz;simp[show i*r.size=0 by omega,show j=0 by omega]
    · simp[Nat.add_assoc]
   rw[<-e];exact h5
theorem wW{P:Program}(w:World)(src dst e:TypeId)(s:ByteArray){u:TypeDesc}(hs:P.underlying src=some u)(hd:P.underlying dst=some (.slice e))(he:P.underlying e=some (.int .u8)):
  ∃cap w1,(convert src dst (.string s)).run P w= .ok (.slice (some ⟨w.heap.size,0,none⟩) s.size cap) w1/\Below w.heap.size w w1/\w.heap.size<w1.heap.size/\
   (∀k,(h:k<s.data.toList.length)->w1.cell? ⟨w.heap.size,0+k,none⟩=some (.int .u8 s.data.toList[k].toNat))/\(∀k,k<s.size->w1.frozen? ⟨w.heap.size,k,none⟩=false)/\s.size<=cap:=by
 refine⟨_,_,Lib.run_convert_string_bytes w src dst e s hs hd he,⟨rfl,rfl,rfl,?_,fun k hk=>Lib.bytesWorld_at_old w e s k hk⟩,?_,fun k hk=> ?_,fun k hk=> ?_,grownCap_ge _ _ _ _⟩
 · rw[Lib.bytesWorld_size];omega
 · rw[Lib.bytesWorld_size];omega
 · rw[Nat.zero_add,Lib.bytesWorld_cell w e s k (by simpa using hk)];simp only[List.getD,List.getElem?_eq_getElem hk,Option.getD_some]
 · simp only[World.frozen?,Lib.bytesWorld_at_new];(have:s.size<=(Lib.bytesCells w e s).size:=by simp[Lib.bytesCells]);simp;omega
theorem aC(s:ByteArray):s.data.toList.length=s.size:=by simp
theorem jU(s:ByteArray):s.toList.isEmpty=decide (s.size=0):=by
 rw[ByteArray.toList_eq,Bool.eq_iff_iff];simp[List.isEmpty_iff];constructor
 · intro h;have:=congrArg Array.size h;simpa using this
 · intro h;rw[h];rfl
def inR(n:Int):Prop:= -9223372036854775808<=n/\n<=9223372036854775807
end Go.Proofs.YtojojpjldkpmoaaGreatDoor
