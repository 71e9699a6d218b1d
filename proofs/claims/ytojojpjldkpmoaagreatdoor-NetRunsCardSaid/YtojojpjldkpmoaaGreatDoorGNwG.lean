/-
  
-/
import Derived.Test.YtojojpjldkpmoaaGreatDoorGNwA
import Derived.Test.YtojojpjldkpmoaaGreatDoorGPaA
import Derived.Shelf.RegionOpenPlain
import Derived.Lib.SliceRun
import Derived.Deep.RegionLaw
set_option linter.unusedVariables false
set_option linter.unusedSimpArgs false
set_option maxHeartbeats 16000000
set_option maxRecDepth 100000
namespace Go.Proofs.YtojojpjldkpmoaaGreatDoor
open Go Go.RowKit Go.Deep
theorem bz{B:Nat}{a:World}{g:Nat}(hg:B<=g):∀(vs:List Value) (o:Nat) (w:World),Below B a w->Below B a (w.setCells g o vs)
 | [],_,_,h=>h
 | v::vs,o,w,h=>bz hg vs (o+1) _ (h.setCell hg v)
theorem aM(g:Nat):∀(vs:List Value) (o:Nat) (w:World),(w.setCells g o vs).heap.size=w.heap.size
 | [],_,_=>rfl
 | v::vs,o,w=>by
   show((w.setCell ⟨g,o,none⟩ v).setCells g (o+1) vs).heap.size=_;rw[aM g vs (o+1)];simp[World.setCell]
theorem px(v:Value)(xs:List ae)(w:World)(h:Sl aA w v xs)(hl:xs.length<=100000):
  Calls Tryz.prog 50 #[v] w fun e w'=>∃v',e= .returned v'/\OwR aA 32 w.heap.size w' v' xs/\Below w.heap.size w w':=by
 have q1:=fun(wx:World) (a:Option Addr) (n c:Nat)=>Lib.run_eql_slice_nil (P:=Tryz.prog) wx 46 32 a n c 0 0 Tryz.underlying46;obtain⟨A,c,rfl⟩:=h.form;have H:=zaa h;clear h;rcases A with _|ad
 · have hx:xs=[]:=by
    rcases zaG xs.length with h0|h0
    · exact zaH h0
    · obtain⟨_,_,h,_⟩:=H.out.at_ h0;cases h
   subst hx;(go_enter Tryz.func50,Tryz.ntmps50);(go_wp2_with fail);(go_ret);exact⟨_,rfl,OwR.nil _ _ (zab _),zac _ _⟩
 · have hB0:Below w.heap.size w (w.alloc (.cells #[] 32)):=(zac _ _).alloc (zab _) _;have hown:OwR aA 32 w.heap.size (w.alloc (.cells #[] 32)) (.slice (some ⟨w.heap.size,0,none⟩) 0 0) []:=⟨[],rfl,fun i cs x h=>by simp at h,World.ownsRow_made w #[] 0 (zab _) (zap _) (by simp),by simp⟩;have H1:=zaa (H.out.below hB0);have HB0:=zaa hB0;have HO:=zaa hown;clear hB0 hown;(go_enter Tryz.func50,Tryz.ntmps50);(go_wp2_with (at_builtin;refine bD (base:=w.heap.size) rfl _ _ rfl cK HO.out H1.out rfl rfl (fun _ _ h=>h) (by simp;unfold maxLen;omega) (by simp;omega) ?_;intro v1 w1 ho1 hg1 hb1));(go_ret);exact⟨v1,rfl,ho1,HO.out.below_grown HB0.out hg1⟩
theorem OwR.atN{α:Type}{r:Rep α}{E base:Nat}{w:World}{A:Option Addr}{c:Nat}{xs:List α}(h:OwR r E base w (.slice A xs.length c) xs)(hx:0<xs.length):
  ∃g,A=some ⟨g,0,none⟩/\base<=g/\g<w.heap.size/\∀j,w.frozen? ⟨g,j,none⟩=false:=by
 obtain⟨css,c1,_,c3,_⟩:=h;rcases c3.2 with⟨_,h0⟩|⟨g,cap,cur,e,hbg,hgc,_⟩
 · omega
 · injection e with e1 _ _;subst e1;exact⟨g,rfl,hbg,(c3.lt g rfl).2,fun j=>c3.frozenAt j⟩
def gQ(p:ae):List Value:=[.int .i64 p.addr,.int .i64 p.bits]
theorem nY(w:World)(ty g o c:Nat)(hc:∀j,j<2->(w.cell? ⟨g,o+j,none⟩).isSome=true)(hf:∀j,j<2->w.frozen? ⟨g,o+j,none⟩=false):
  (Builtin.clear_ #[46] ty #[.slice (some ⟨g,o,none⟩) 1 c]).run Tryz.prog w= .ok (.tuple #[]) (w.setCells g o [.int .i64 0,.int .i64 0]):=by
 have hst:=run_storeCells_cells (P:=Tryz.prog) g o [.int .i64 0,.int .i64 0] 0 w (by simpa using hc) (by simpa using hf) (by
  intro v hv;simp at hv
  subst hv;rfl)
 simp only[zbH]at hst;have hz:(zeroValue 32).run Tryz.prog w= .ok (.agg #[.int .i64 0,.int .i64 0]) w:=by
  go_simp
 have ht:=Tryz.underlying46;have hzc:(Builtin.zeroCells (Value.agg #[.int .i64 0,.int .i64 0]).cells 1).toList=[.int .i64 0,.int .i64 0]:=by
  simp[Builtin.zeroCells,Value.cells];rfl
 simp[Builtin.clear_,run_underlying ht,hz,hzc,hst]
theorem qw(xs:List ae):((xs.map gQ).flatten).length=xs.length*2:=by
 induction xs with
 | nil=>rfl
 | cons a l ih=>rw[zbc,zaU,zaq,ih];simp[gQ];omega
theorem lW:∀(xs:List ae) (t j:Nat) (ht:t<xs.length),j<2->((xs.map gQ).flatten)[t*2+j]? =(gQ xs[t])[j]?
 | a::l,0,j,_,hj=>by
   rw[zbc,zaU,Nat.zero_mul,zbb,zbi (by show j<2;exact hj)];rfl
 | a::l,t+1,j,ht,hj=>by
   rw[zbc,zaU,zba (by show 2<=_;omega)];(have:(t+1)*2+j-(gQ a).length=t*2+j:=by show(t+1)*2+j-2=_;omega);rw[this,lW l t j (by simpa using ht) hj];rfl
theorem vG{base:Nat}{w:World}{g cap:Nat}{xs:List ae}(h:OwR aA 32 base w (.slice (some ⟨g,0,none⟩) xs.length cap) xs){i:Nat}(hi:i<xs.length){n:Nat}(hn:n+1=xs.length):
  SlF aA base ((w.setCells g (i*2) ((xs.drop (i+1)).map gQ).flatten).setCells g (n*2) [.int .i64 0,.int .i64 0]) (.slice (some ⟨g,0,none⟩) n cap) (xs.eraseIdx i):=by
 have hs:=h.sl (by decide);have hgb:=h.base_le g rfl;obtain⟨A,c,hv,h1,h2,h3⟩:=hs;injection hv with e1 e2 e3;subst e3;have hlen:(xs.eraseIdx i).length=n:=by rw[List.length_eraseIdx,if_pos hi];omega
 have hnl:((xs.drop (i+1)).map gQ).flatten.length=(n-i)*2:=by rw[qw,zaM];congr 1;omega
 refine⟨some ⟨g,0,none⟩,cap,by rw[hlen],by omega,h2,fun t x hx=> ?_⟩;have htn:t<n:=by have:=(zaT.1 hx).1;omega
 have hsz:∀vs o vs2 o2,((w.setCells g o vs).setCells g o2 vs2).heap.size=w.heap.size:=fun vs o vs2 o2=>by rw[aM,aM]
 have hcell:∀k,k<xs.length->aA.holds w (fun k=>k<w.heap.size) (gQ (xs.getD k x)) (xs.getD k x)/\∀j,j<2->w.cell? ⟨g,k*2+j,none⟩=(gQ (xs.getD k x))[j]? :=by
  intro k hk;obtain⟨b,off,cs,hA,_,_,hh,hc⟩:=h3 k xs[k] (zad hk);rw[<-e1]at hA;injection hA with hA;injection hA with hA1 hA2;subst hA1;subst hA2;have hcs:cs=gQ xs[k]:=hh.1;have hxk:xs.getD k x=xs[k]:=by rw[zay,zad hk];rfl
  rw[hxk];refine⟨hcs▸hh,fun j hj=> ?_⟩;have hl:j<cs.length:=by rw[hcs];exact hj
  have:=hc j cs[j] (zad hl);rw[zbb]at this;show w.cell? ⟨g,k*aA.size+j,none⟩=_;rw[this,<-zad hl,hcs]
 have hxt:x=if t<i then xs.getD t x else xs.getD (t+1) x:=by
  rw[List.getElem?_eraseIdx]at hx;split at hx
  · rename_i h9;rw[if_pos h9,zay,hx];rfl
  · rename_i h9;rw[if_neg h9,zay,hx];rfl
 refine⟨g,0,gQ x,rfl,⟨by rw[hsz];exact hgb.2,hgb.1⟩,by rw[hsz];exact hgb.2,?_,fun j u hu=> ?_⟩
 · by_cases hti:t<i
   · rw[if_pos hti]at hxt;rw[hxt];exact(hcell t (by omega)).1
   · rw[if_neg hti]at hxt;rw[hxt];exact(hcell (t+1) (by omega)).1
 · have hj:j<2:=(zaT.1 hu).1;rw[World.cell?_setCells_out g _ _ _ ⟨g,0+t*aA.size+j,none⟩ (fun _ _=> .inl (by show 0+t*2+j<n*2;omega))];by_cases hti:t<i
   · rw[if_pos hti]at hxt;rw[World.cell?_setCells_out g _ _ _ ⟨g,0+t*aA.size+j,none⟩ (fun _ _=> .inl (by show 0+t*2+j<i*2;omega))];show w.cell? ⟨g,0+t*2+j,none⟩=_;rw[zbb,(hcell t (by omega)).2 j hj,<-hxt];exact hu
   · rw[if_neg hti]at hxt;have hin:=World.cell?_setCells_in g ((xs.drop (i+1)).map gQ).flatten (i*2) w (fun q hq=>by
      rw[hnl]at hq;(have e0:i*2+q=(i+q/2)*2+q%2:=by omega);rw[e0,(hcell (i+q/2) (by omega)).2 (q%2) (Nat.mod_lt _ (by omega))];(have:q%2=0∨q%2=1:=by omega)
      rcases this with e|e<;>rw[e]<;>rfl) ((t-i)*2+j) (by rw[hnl];omega)
     show World.cell? _ ⟨g,0+t*2+j,none⟩=_;rw[show 0+t*2+j=i*2+((t-i)*2+j)by omega,hin,<-zad,lW _ (t-i) j (by rw[zaM];omega) hj,zbY];have:xs[i+1+(t-i)]'(by omega)=x:=by
      rw[hxt,zay,zad (show t+1<xs.length by omega)];simp only[Option.getD_some];congr 1;omega
     rw[this];exact hu
theorem uD(v:Value)(xs:List ae)(i j base:Nat)(hj:j=i+1)(w:World)(h:OwR aA 32 base w v xs)(hi:i<xs.length)(hl:xs.length<=1000):
  Calls Tryz.prog 55 #[v,.int .i64 (i:Nat),.int .i64 (j:Nat)] w fun e w'=>∃v',e= .returned v'/\SlF aA base w' v' (xs.eraseIdx i)/\Below base w w':=by
 obtain⟨A,c,hv⟩:=(h.sl (by decide)).form;subst hv;obtain⟨g,rfl,hgb,hgw,hgf⟩:=h.atN (by omega);obtain⟨n,hn⟩:∃n,n+1=xs.length:=⟨xs.length-1,by omega⟩;have hcap:xs.length<=c/\c<=maxLen:=by
  obtain⟨_,_,hv,h1,h2,_⟩:=h.sl (by decide);injection hv with _ _ e3;rw[e3];exact⟨h1,h2⟩
 have hcm:c<=9223372036854775807:=by have:=hcap.2;unfold maxLen at this;omega
 have hbw:=h.choose_spec.2.2.2;have hrow:∀k,k<xs.length->∀j,j<2->(w.cell? ⟨g,k*2+j,none⟩).isSome=true:=fun k hk j hj=>by
  obtain⟨c0,c1,_,_⟩:=(h.sl (by decide)).pref hk;rw[zbb]at c0 c1;have:j=0∨j=1:=by omega
  rcases this with rfl|rfl
  · rw[zbH,c0];rfl
  · rw[c1];rfl
 have hcells:=(h.sl (by decide));obtain⟨news,hnews⟩:∃news,news=((xs.drop (i+1)).map gQ).flatten:=⟨_,rfl⟩;have hnl:news.length=(n-i)*2:=by rw[hnews,qw,zaM];congr 1;omega
 have hget:∀t u,news[t]? =some u->w.cell? ⟨g,(i+1)*2+t,none⟩=some u:=fun t u hu=>by
  have ht:t<(n-i)*2:=by have:=(zaT.1 hu).1;omega
  have e2:t=t/2*2+t%2:=by omega
  have hm:=Nat.mod_lt t (show 0<2 by omega);rw[hnews,e2,lW _ (t/2) (t%2) (by rw[zaM];omega) hm,zbY]at hu;obtain⟨c0,c1,_,_⟩:=hcells.pref (k:=i+1+t/2) (by omega);rw[zbb]at c0 c1;rw[show(i+1)*2+t=(i+1+t/2)*2+t%2 by omega];have:t%2=0∨t%2=1:=by omega
  rcases this with e|e
  · rw[e]at hu⊢;rw[zbH,c0];exact hu
  · rw[e]at hu⊢;rw[c1];exact hu
 have hone:∀u∈news,u.oneCell'=true:=fun u hu=>by
  rw[hnews]at hu;obtain⟨l,hl,hu⟩:=List.mem_flatten.1 hu;obtain⟨x,_,rfl⟩:=zbR.1 hl;simp[gQ]at hu;rcases hu with rfl|rfl<;>rfl
 have HDEL:=zaa (vG (w:=w.drew) (h.keep (zac w.heap.size w).drew) hi hn);rw[<-hnews]at HDEL;obtain⟨A2,hA2,hsrc⟩:∃A2:Addr,(if c=j then some (⟨g,0,none⟩:Addr)else some ⟨g,j*2,none⟩)=some A2/\Hid (∀t u,news[t]? =some u->w.drew.cell? (A2.add t)=some u):=by
  by_cases h9:c=j
  · refine⟨⟨g,0,none⟩,by simp[h9],zaa (fun t u hu=> ?_)⟩;(have h0:news.length=0:=by omega);rw[List.length_eq_zero_iff.1 h0]at hu;simp at hu
  · refine⟨⟨g,j*2,none⟩,by simp[h9],zaa (fun t u hu=> ?_)⟩;rw[Addr.add_lit];rw[hj];exact hget t u hu
 obtain⟨i0,z0,hi0,hz0,hz1,hz2,hz3⟩:=cK.info;obtain⟨W1,hW1⟩:∃W1,W1=w.drew.setCells g (i*2) news:=⟨_,rfl⟩;obtain⟨L,hL⟩:∃L,L=xs.length:=⟨_,rfl⟩;have hnE:i+(L-j)=n:=by omega
 have h1E:L-(i+(L-j))=1:=by omega
 have hcl:∀ty,(Builtin.clear_ #[46] ty #[.slice (some ⟨g,(i+(L-j))*2,none⟩) (L-(i+(L-j))) (c-(i+(L-j)))]).run Tryz.prog W1= .ok (.tuple #[]) (W1.setCells g (n*2) [.int .i64 0,.int .i64 0]):=by
  rw[h1E,hnE];exact fun ty=>nY W1 ty g (n*2) (c-n) (fun j hj=>by
   rw[hW1];by_cases hin:n*2+j<i*2∨i*2+news.length<=n*2+j
   · rw[World.cell?_setCells_out g _ _ _ ⟨g,n*2+j,none⟩ (fun _ _=>hin)];exact hrow n (by omega) j hj
   · omega) (fun j hj=>by rw[hW1,World.frozen?_setCells];exact hgf _)
 have S1:=zaa (show news.length=(L-j)*2 by omega);have S2:=zaa hone;have S3:=zaa (show∀t,t<news.length->(w.drew.cell? ⟨g,0+i*2+t,none⟩).isSome=true/\w.drew.frozen? ⟨g,0+i*2+t,none⟩=false from fun t ht=>by
  refine⟨?_,hgf _⟩;show(w.cell? _).isSome=true;rw[show 0+i*2+t=(i+t/2)*2+t%2 by omega]
  exact hrow _ (by omega) _ (Nat.mod_lt _ (by omega)))
 have HW1:=zaa hW1;have HB1:=zaa (show Below base w W1 by rw[hW1];exact bz hgb _ _ _ ((zac base w).drew));have HNE:=zaa hnE;have hij:i<j:=by omega
 have hjL:j<=L:=by omega
 have hLc:L<=c:=by have:=hcap.1;omega
 have hine:((i:Int)==(j:Int))=false:=by rw[beq_eq_false_iff_ne];omega
 have mixed:Tryz.prog.follows Departure.mixedOrders=true:=by kernel_rfl
 have hic:i<=c:=by omega
 have hjc:j<=c:=by omega
 rw[<-hL];clear hW1 hrow hcells hnews hnl hget hone hgf h hcap hnE h1E hn hj hi hl hL;go_enter Tryz.func55,Tryz.ntmps55
 go_wp2_with fail
 go_region_law_o (refine step_append_room rfl (.tmp 22) (.tmp 25) 46 rfl 32 i0 2 Tryz.underlying46 hi0 hz1 g 0 i c (by simp[Act.eval,Act.put]) A2 (L-j) (c-j) news (by simp[Act.eval,Act.put]) S1.out hsrc.out S2.out (by omega) S3.out ?_;rw[zbb,<-HW1.out])
 go_wp2_with fail
 go_ret
 refine⟨_,rfl,?_,bz hgb _ _ _ HB1.out⟩;have h9:=HDEL.out;rw[<-HW1.out]at h9;rw[HNE.out];exact h9
theorem k7{p q:ae}(h:ak p q=true):bA p q=false/\bA q p=false:=by
 have h1:=(aF p q).1 h;constructor
 · rw[Bool.eq_false_iff];intro e;rw[aO]at e;subst e;omega
 · rw[Bool.eq_false_iff];intro e;rw[aO]at e;subst e;omega
theorem lr(p:ae):∀(xs:List ae) (k:Nat) (hk:k<xs.length),xs.Pairwise (fun a b=>ak a b=true)->xs[k]=p->(xs.filter fun q=> !bA q p)=xs.eraseIdx k
 | a::l,0,_,h,he=>by
   have he:a=p:=he;subst he;rw[zaP]at h;have h1:bA a a=true:=(aO _ _).2 rfl;rw[List.filter_cons_of_neg (by simp[h1]),List.eraseIdx_cons_zero,List.filter_eq_self];intro q hq;simp[(k7 (h.1 q hq)).2]
 | a::l,k+1,hk,h,he=>by
   rw[zaP]at h;(have hk':k<l.length:=by simpa using hk);have he':l[k]=p:=he;have h1:bA a p=false:=(k7 (h.1 p (by rw[<-he'];exact zaw hk'))).1;rw[List.filter_cons_of_pos (by simp[h1]),List.eraseIdx_cons_succ,lr p l k hk' h.2 he']
end Go.Proofs.YtojojpjldkpmoaaGreatDoor
