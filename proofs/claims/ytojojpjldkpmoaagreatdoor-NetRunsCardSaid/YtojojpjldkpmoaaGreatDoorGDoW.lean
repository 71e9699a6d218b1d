/-
  
-/
import Derived.Test.YtojojpjldkpmoaaGreatDoorGTxB
import Derived.Test.YtojojpjldkpmoaaGreatDoorGShf
import Derived.Lib.LaidTab
import Derived.Laws.Concat
import Derived.Test.YtojojpjldkpmoaaGreatDoorCards
import Derived.Test.YtojojpjldkpmoaaGreatDoorTie
import Derived.WalkKit
import Derived.OpenShut
import Derived.Deep.DeepHandedRow
import Derived.Stop.LaidErr
import Derived.HandedShaped
set_option linter.unusedVariables false
set_option linter.unusedSimpArgs false
set_option maxHeartbeats 16000000
set_option maxRecDepth 100000
namespace Go.Proofs.YtojojpjldkpmoaaGreatDoor
section
open Go Go.RowKit
theorem aa{w w':World}(hb:Below w.heap.size w w'){a:Addr}{v:Value}(hc:w.cell? a=some v):w'.cell? a=some v:=(hb.cell (zbj w a hc)).trans hc
theorem AN{P:Program}{n:String}{g:Nat}{k:IntKind}{zs:List Int}{w w':World}(hg:P.globalNamed n=some g)(h:Lib.TabIs P w n k zs)(hb:Below w.heap.size w w'):Lib.TabIs P w' n k zs:=by
 unfold Lib.TabIs World.var? at h⊢;rw[hg]at h⊢;simp only[Option.bind_some]at h⊢;have hlt:g<w.heap.size:=by
  rcases zbF g w.heap.size with h'|h'
  · exact h'
  · rw[zcb h']at h;cases h
 rw[hb.block g hlt];exact h
theorem DZ:Tryz.prog.globalNamed "internal/strconv.uint64pow10" =some 1:=by kernel_rfl
def qd(w:World):Prop:=Lib.TabIs Tryz.prog w "internal/strconv.uint64pow10" .u64 Lib.pow10Tab
theorem qd.below{w w':World}(h:qd w)(hb:Below w.heap.size w w'):qd w':=AN DZ h hb
structure Env(w:World):Prop where
 tab:qd w
 maxl:∃m,w.cell? ⟨0,0,none⟩=some (.int .i64 m)
 syn:∃te pe,w.cell? ⟨4,0,none⟩=some (.iface te pe)
 ran:∃te pe,w.cell? ⟨5,0,none⟩=some (.iface te pe)
theorem Env.below{w w':World}(h:Env w)(hb:Below w.heap.size w w'):Env w':=by
 obtain⟨h1,⟨m,h2⟩,⟨te,pe,h3⟩,⟨tr,pr,h4⟩⟩:=h;exact⟨h1.below hb,⟨m,aa hb h2⟩,⟨te,pe,aa hb h3⟩,⟨tr,pr,aa hb h4⟩⟩
theorem uX(B:Nat)(w:World)(hB:B<=w.heap.size)(k:Nat)(os:Array Obj):Below B w (Sort.grow (w.drewN k) os):=
 ⟨rfl,rfl,rfl,by show w.heap.size<=(w.heap++os).size;rw[Array.size_append];omega,fun j hj=>by
  show(w.heap++os)[j]? =w.heap[j]?
  rw[Array.getElem?_append_left (by omega)]⟩
theorem sE(w:World)(t:TypeId)(s:ByteArray):Below w.heap.size w (Lib.bytesWorld w t s):=
 ⟨rfl,rfl,rfl,by rw[Lib.bytesWorld_size];omega,fun k hk=>Lib.bytesWorld_at_old w t s k hk⟩
theorem im(n:Int)(w:World)(h0:inR n)(hE:qd w):
  Calls Tryz.prog 59 #[.int .i64 n] w fun e w'=>e= .returned (.string (bOf (Lib.itoa n)))/\Below w.heap.size w w':=
 (Tryz.strconv_Itoa n h0.1 h0.2 w hE).mono fun _ _ ⟨e,k,os,hw⟩=>⟨e,by rw[hw];exact uX _ _ (zab _) _ _⟩
theorem DH(s:ByteArray)(v:Int)(w:World)(hs:s.size<=281474976710656)(h:Lib.atoiAll s.data.toList= .ok v):
  Calls Tryz.prog 177 #[.string s] w fun e w'=>e= .returned (.tuple #[.int .i64 v,.nilIface])/\Below w.heap.size w w':=by
 refine(Tryz.strconv_Atoi_ok s (by omega) v h w).mono ?_;rintro e w' ⟨rfl,hw⟩;refine⟨rfl,?_⟩;rcases hw with rfl|⟨t,rfl⟩
 · exact zac _ _
 · exact sE _ _ _
theorem DI(s:ByteArray)(w:World)(hs:s.size<=281474976710656)(hE:Env w)(h:∀v,Lib.atoiAll s.data.toList≠ .ok v):
  Calls Tryz.prog 177 #[.string s] w fun e w'=>(∃v t p,e= .returned (.tuple #[.int .i64 v,.iface t p]))/\Below w.heap.size w w':=by
 obtain⟨_,_,⟨te,pe,h3⟩,⟨tr,pr,h4⟩⟩:=hE;rcases h':Lib.atoiAll s.data.toList with v|_|_
 · exact absurd h' (h v)
 · refine(Any.strconv_Atoi_syntax Tryz.laysC172 s hs h' (.iface te pe) w h3 (.inr ⟨te,pe,rfl⟩)).mono ?_;rintro e w' ⟨N,rfl,_,_,hb⟩;exact⟨⟨_,_,_,rfl⟩,hb⟩
 · refine(Tryz.strconv_Atoi_range s hs h' (.iface tr pr) w h4 (.inr ⟨tr,pr,rfl⟩)).mono ?_;rintro e w' ⟨N,rfl,_,_,hb⟩;exact⟨⟨_,_,_,rfl⟩,hb⟩
theorem Dm{s:List UInt8}{v most:Int}(h:Lib.atoiAll s= .ok v):ez most s=if v<0∨most<v∨Lib.itoa v≠s then-1 else v:=by
 unfold ez;rw[h]
theorem Dn{s:List UInt8}{most:Int}(h:∀v,Lib.atoiAll s≠ .ok v):ez most s= -1:=by
 unfold ez;split
 · rename_i v hv;exact absurd hv (h v)
 · rfl
theorem DG(l:List UInt8)(s:ByteArray):((bOf l).data==s.data)=decide (l=s.data.toList):=by
 rw[Bool.eq_iff_iff,decide_eq_true_iff,beq_iff_eq];constructor
 · intro h;rw[<-h];simp[bOf]
 · intro h;rw[h];simp[bOf]
theorem jx(s:ByteArray)(most:Int)(w:World)(hs:s.size<=281474976710656)(hm:inR most)(hE:Env w):
  Calls Tryz.prog 147 #[.string s,.int .i64 most] w fun e w'=>e= .returned (.int .i64 (ez most s.data.toList))/\Below w.heap.size w w':=by
 have HE:=zaa hE;have HM:=zaa hm;clear hm hE;by_cases hv:∃v,Lib.atoiAll s.data.toList= .ok v
 · obtain⟨v,hv⟩:=hv;have HN:=zaa (Dm (most:=most) hv);have HC:=zaa (fun w=>DH s v w hs hv);clear hv;by_cases h1:v<0
   · (go_enter Tryz.func147,Tryz.ntmps147);(go_wp2_with (go_at_call 177;refine(HC.out _).mono ?_;rintro e w1 ⟨rfl,hb1⟩));(go_ret);exact⟨ei (by rw[HN.out,if_pos (.inl h1)]),hb1⟩
   · by_cases h2:most<v
     · (go_enter Tryz.func147,Tryz.ntmps147);(go_wp2_with (go_at_call 177;refine(HC.out _).mono ?_;rintro e w1 ⟨rfl,hb1⟩));(go_ret);exact⟨ei (by rw[HN.out,if_pos (.inr (.inl h2))]),hb1⟩
     · (have hin:inR v:=by have:=HM.out;unfold inR at*;omega);have HI:=zaa hin;have HT:=zaa (DG (Lib.itoa v) s);clear hin;(go_enter Tryz.func147,Tryz.ntmps147);go_wp2_with (first
        | (go_at_call 177;refine(HC.out _).mono ?_;rintro e w1 ⟨rfl,hb1⟩)
        | (go_at_call 59;refine(im v _ HI.out (HE.out.tab.below hb1)).mono ?_;rintro e w2 ⟨rfl,hb2⟩))
       · (go_ret);rename_i hne;refine⟨ei ?_,hb1.trans (hb2.mono hb1.size)⟩;have hne':Lib.itoa v≠s.data.toList:=by
          intro e;rcases hne with(h|h)|h
          · omega
          · omega
          · rw[zbw,zbw,cG,e]at h;simp at h
         rw[HN.out,if_pos (.inr (.inr hne'))]
       · (go_ret);rename_i hne;refine⟨ei ?_,hb1.trans (hb2.mono hb1.size)⟩;have hne':¬ Lib.itoa v≠s.data.toList:=by
          intro e;rw[zbw,zbw,cG]at hne;simp at hne;exact e (hne.2)
         rw[HN.out,if_neg (by rintro(h|h|h)<;>first|omega|exact hne' h)]
 · have hv':∀v,Lib.atoiAll s.data.toList≠ .ok v:=fun v e=>hv ⟨v,e⟩;have HN:=zaa (Dn (most:=most) hv');have HC:=zaa (DI s w hs HE.out hv');clear hv hv';(go_enter Tryz.func147,Tryz.ntmps147);(go_wp2_with (go_at_call 177;refine HC.out.mono ?_;rintro e w1 ⟨⟨v,t,p,rfl⟩,hb1⟩));(go_ret);exact⟨ei HN.out.symm,hb1⟩
theorem CV(s:ByteArray)(b:UInt8)(most:Int)(w:World)(hs:s.size<4294967281)(hm:inR most)(hE:Env w):
  Calls Tryz.prog 180 #[.string s,.string ⟨#[b]⟩,.int .i64 most] w fun e w'=>e= .returned (.tuple #[.int .i64 (ez most (cQ b s.data.toList).1),.int .i64 (ez most (cQ b s.data.toList).2.1),.bool ((cQ b s.data.toList).2.2&&(decide (0<=ez most (cQ b s.data.toList).1)&&decide (0<=ez most (cQ b s.data.toList).2.1)))])/\Below w.heap.size w w':=by
 have hl:=aC s;obtain⟨m,hml⟩:=hE.maxl;have hcut:=fun w hm=>Tryz.strings_Cut s ⟨#[b]⟩ m w hs hm;have hce:Lib.cut s.data.toList ((⟨#[b]⟩:ByteArray)).data.toList=cQ b s.data.toList:=Cr b _;rw[hce]at hcut;have hlen:=po b s.data.toList;generalize hc:cQ b s.data.toList=c at hcut hlen⊢;obtain⟨x,y,ok⟩:=c;have HC:=zaa hcut;have HE:=zaa hE;have HM:=zaa hm;have hx:(bOf x).size<=281474976710656:=by rw[bf];have:=hlen.1;simp only at this;omega
 have hy:(bOf y).size<=281474976710656:=by rw[bf];have:=hlen.2;simp only at this;omega
 have HX:=zaa (fun w hE=>jx (bOf x) most w hx HM.out hE);have HY:=zaa (fun w hE=>jx (bOf y) most w hy HM.out hE);rw[cG]at HX HY;clear hcut hlen hc hx hy hE hm hce;go_enter Tryz.func180,Tryz.ntmps180
 go_wp2_with (first
  | (go_at_call 146;refine(HC.out _ hml).mono ?_;rintro e w1 ⟨rfl,n,rfl⟩)
  | (go_at_call 147;refine(HY.out _ (HE.out.below hb1)).mono ?_;rintro e w2 ⟨rfl,hb2⟩)
  | (go_at_call 147;refine(HX.out _ (HE.out.below (ag (zac _ _) _))).mono ?_;rintro e w1 ⟨rfl,hb1⟩;have hb1:=(ag (zac w.heap.size w) n).trans hb1))
 all_goals
  go_ret3
  refine⟨?_,hb1.trans (hb2.mono hb1.size)⟩;first|(simp[*];done)|(simp[*];omega)
theorem k9(s:ByteArray):(s.size=0)↔s.data.toList=[]:=by
 rw[<-aC];exact⟨fun h=>zaH h,fun h=>by rw[h];rfl⟩
theorem Ed{w:World}{xs:List ByteArray}{E:TypeId}(hx:∀x∈xs,x.size<=maxLen)(hn:xs.length<=maxLen):Sl bs (w.alloc (.cells (xs.map Value.string).toArray E)) (.slice (some ⟨w.heap.size,0,none⟩) xs.length xs.length) xs:=by
 refine⟨_,_,rfl,zab _,hn,fun i x hx'=>⟨w.heap.size,0,[.string x],rfl,by simp,by simp,⟨rfl,hx x (List.mem_of_getElem? hx')⟩,fun j u hu=> ?_⟩⟩
 match j,hu with
 | 0,hu=>
   simp at hu;subst hu;(have:i<(xs.map Value.string).toArray.size:=by simpa using(zaT.1 hx').1);rw[zah _ _ _ _ rfl];simp[hx',bs,dw]
 | j+1,hu=>simp at hu
theorem nR(b:UInt8):∀s:List UInt8,(cq b s).length<=s.length+1/\∀x∈cq b s,x.length<=s.length
 | []=>by simp[cq]
 | c::r=>by
   obtain⟨h1,h2⟩:=nR b r;unfold cq;split
   · refine⟨by simp;omega,fun x hx=> ?_⟩;rcases zaS.1 hx with rfl|hx
     · simp
     · have:=h2 x hx;simp;omega
   · rcases hs:cq b r with _|⟨y,ys⟩
     · simp
     · rw[hs]at h1 h2;refine⟨by simp at h1⊢;omega,fun x hx=> ?_⟩;rcases zaS.1 hx with rfl|hx
       · have:=h2 y (by simp);simp;omega
       · have:=h2 x (by simp[hx]);simp;omega
theorem dU(s:List UInt8):(bK s).length<=s.length+1/\∀x∈bK s,x.length<=s.length:=by
 unfold bK;split
 · simp
 · exact nR 44 s
theorem qx(s:ByteArray)(w:World)(hs:s.size<4294967281)(hE:Env w):
  Calls Tryz.prog 179 #[.string s] w fun e w'=>(∃v,e= .returned v/\Sl bs w' v ((bK s.data.toList).map bOf))/\Below w.heap.size w w':=by
 obtain⟨m,hml⟩:=hE.maxl;by_cases h0:s.size=0
 · (have hp:bK s.data.toList=[]:=by unfold bK;rw[if_pos ((k9 s).1 h0)]);(have he:s.toList.isEmpty=true:=by rw[jU,decide_eq_true_iff];exact h0);rw[hp];(go_enter Tryz.func179,Tryz.ntmps179);(go_wp2_with fail);(go_ret);exact⟨⟨_,rfl,Sl.nil _ _⟩,zac _ _⟩
 · have hne:s.data.toList≠[]:=fun e=>h0 ((k9 s).2 e);(have he:s.toList.isEmpty=false:=by rw[jU,decide_eq_false_iff_not];exact h0);have hp:(bK s.data.toList).map bOf=Lib.splitB ⟨#[44]⟩ 0 (Lib.countB s ⟨#[44]⟩) s:=by
    unfold bK;rw[if_neg hne,<-yT,List.map_map];(have:(bOf∘fun x:ByteArray=>x.data.toList)=id:=by funext x;exact lH x);rw[this,List.map_id]
   have hlen:=dU s.data.toList;have hsz:=aC s;have hn:Lib.countB s ⟨#[44]⟩+1=((bK s.data.toList).map bOf).length:=by
    rw[wU,zaI];unfold bK;rw[if_neg hne]
   have hcall:=Tryz.strings_Split s ⟨#[44]⟩ m w hs hml (by decide);rw[<-hp,hn]at hcall;have hsl:=Ed (w:=w) (xs:=(bK s.data.toList).map bOf) (E:=9) (fun x hx=>by
    obtain⟨y,hy,rfl⟩:=zbR.1 hx;have:=hlen.2 y hy
    rw[bf];unfold maxLen;omega) (by rw[zaI];have:=hlen.1;unfold maxLen;omega)
   have HC:=zaa hcall;have HS:=zaa hsl;clear hcall hsl hn hlen hp hne;(go_enter Tryz.func179,Tryz.ntmps179);(go_wp2_with (go_at_call 200;refine HC.out.mono ?_;rintro e w1 ⟨rfl,rfl⟩));(go_ret);exact⟨⟨_,rfl,by have h:=HS.out;rw[List.map_map,zaI]at h;exact h⟩,(zac _ _).alloc (zab _) _⟩
end
section
open Go Go.ChangeShapes Go.WideShapes Go.ChangeAt Go.RowKit
theorem Bn:(Tryz.prog.globals[1]?).map (·.type)=some 262:=by kernel_rfl
theorem De:(Rows.laid_internal_strconv_uint64pow10:DataW Unit)=Lib.tabData .u64 Lib.pow10Tab:=by kernel_rfl
theorem Cx:Tryz.prog.cellsOf 262=20:=by kernel_rfl
theorem Aj:Tryz.prog.cellsOf 204=1:=by kernel_rfl
theorem D9{rest:List (String × DataW Unit)}{W:World}(h:laidMet Tryz.prog (("internal/strconv.uint64pow10",Rows.laid_internal_strconv_uint64pow10)::rest) W):qd W:=by
 rw[De]at h;exact Lib.tabIs_of_head DZ Bn Tryz.underlying262 Tryz.underlying204 Aj Cx h
theorem DX:Tryz.prog.globalNamed "strconv.ErrSyntax" =some 4:=by kernel_rfl
theorem DY:Tryz.prog.globalNamed "strconv.ErrRange" =some 5:=by kernel_rfl
theorem AP:(Tryz.prog.globals[4]?).map (·.type)=some 210:=by kernel_rfl
theorem Bl:(Tryz.prog.globals[5]?).map (·.type)=some 210:=by kernel_rfl
theorem uN:Tryz.prog.cellsOf 300=1:=by kernel_rfl
theorem ru:Tryz.prog.cellsOf 9=1:=by kernel_rfl
theorem ym: "*" ++ "errors.errorString" = "*errors.errorString" :=by decide
theorem Cc(u:TypeId)(h:Tryz.prog.typeName? 3 u=some "*errors.errorString"):u=298:=
 typeName_ptr_named (nm:= "errors.errorString") (by rw[ym];kernel_rfl) (by kernel_rfl) (by decide) u (by rw[ym];exact h)
theorem Ep{W:World}(h:laidMetH Tryz.prog Rows.netRunsRow.laid W)(hs:W.ShapedOpen Tryz.prog):Env W:=by
 have h1:laidMet Tryz.prog Rows.netRunsRow.laid W:=h;have hp:=h1.tail.tail;obtain⟨a0,s0,hv0,_,_,_⟩:=laid_sentinel hp.tail.tail DY Bl Tryz.underlying210 Cc Tryz.underlying298 Tryz.underlying300 rfl rfl Tryz.underlying9 uN ru;obtain⟨a1,s1,hv1,_,_,_⟩:=laid_sentinel hp.tail.tail.tail DX AP Tryz.underlying210 Cc Tryz.underlying298 Tryz.underlying300 rfl rfl Tryz.underlying9 uN ru;refine⟨D9 hp,?_,⟨_,_,by simpa using World.var?_cell DX hv1 0⟩,⟨_,_,by simpa using World.var?_cell DY hv0 0⟩⟩;exact Go.Proofs.cell_of_shapedOpen_int (zero:= #[.int .i64 0]) (t:=3) hs (of_decide_eq_true (by kernel_rfl)) (by kernel_rfl) rfl (by kernel_rfl) (by kernel_rfl) Tryz.underlying3
def pz(k:IntKind)(l:List Int):Array Value:=(l.map (Value.int k)).toArray
def EG:List Int:=[0,1,28,2,29,14,24,3,30,22,20,15,25,17,4,8,31,27,13,23,21,19,16,7,26,12,18,6,11,5,10,9]
def EF:List Int:=[0,1,56,2,57,49,28,3,61,58,42,50,38,29,17,4,62,47,59,36,45,43,51,22,53,39,33,30,24,18,12,5,63,55,48,27,60,41,37,16,46,35,44,21,52,32,23,11,54,26,40,15,34,20,31,10,25,14,19,9,13,8,7,6]
def vY(h:Array Obj)(b:Nat)(cs:Array Value):Array Obj:=h.modify b fun
 | .cells _ t frozen=> .cells cs t frozen
 | o=>o
def Ea:List Int:=[128,191,160,191,128,159,144,191,128,143,0,0,0,0,0,0,0,0,0,0,0,0,0,0,0,0,0,0,0,0,0,0]
abbrev CX:ByteArray:={data:= #[118,97,108,117,101,32,111,117,116,32,111,102,32,114,97,110,103,101]}
abbrev CW:ByteArray:={data:= #[105,110,118,97,108,105,100,32,115,121,110,116,97,120]}
noncomputable def lowW:Nat:=(World.holding Tryz.prog default ⟨#[],#[],[]⟩).heap.size
noncomputable def laidW7 (os:Os):World:=
 let w0:=World.holding Tryz.prog os ⟨#[.cells #[.string CX] 300,.cells #[.string CW] 300],#[],[]⟩
 { w0 with heap:=vY (vY (vY (vY (vY (vY (vY w0.heap 2 (pz .u8 EG)) 3 (pz .u8 EF)) 1 (pz .u64 Lib.pow10Tab))
   7 (pz .u8 Ea)) 6 (pz .u8 (Pinned.utf8FirstZ.map (fun(n:Nat)=>(n:Int))))) 5 #[.iface 298 (.pointer (some ⟨lowW,0,none⟩))]) 4 #[.iface 298 (.pointer (some ⟨lowW+1,0,none⟩))]}
theorem zD(os:Os)(args:Array Value):laidMet Tryz.prog Rows.netRunsRow.laid ((laidW7 os).forCall (fun _ _=>0) ⟨#[],args,[]⟩).memory:=
 laidMet_of_run' 8 (by kernel_rfl) (by kernel_rfl)
end
end Go.Proofs.YtojojpjldkpmoaaGreatDoor
