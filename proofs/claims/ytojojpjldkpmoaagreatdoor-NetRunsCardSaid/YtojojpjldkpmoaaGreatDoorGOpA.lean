/-
  
-/
import Derived.Test.YtojojpjldkpmoaaGreatDoorGOwn
import Derived.SizedLaws
import Derived.Test.YtojojpjldkpmoaaGreatDoorGNtN
set_option linter.unusedVariables false
set_option linter.unusedSimpArgs false
set_option maxHeartbeats 16000000
set_option maxRecDepth 100000
namespace Go.Proofs.YtojojpjldkpmoaaGreatDoor
section
open Go.RowKit Go.ChangeShapes Go.WideShapes Go.ChangeAt Go.Deep
theorem p6{α:Type}{P:Program}{r:Rep α}{t e:TypeId}(ht:P.underlying t=some (.slice e))(h:jA P (slR r) t){H:Type}{enc:TypeId × Value->H}{W:World}{b:Nat}{q:Reach}{v:Value}{d:DataW H}{p:List MemPlace}
  (hv:Value.okWide P W q b t v) (hr:DataW.Trod enc P W 0 (fun _=>true) true t v d p) {ts:List TypeId} {ds:List (DataW H)} {j:Nat} (hz:(DataW.weightsEach P ts ds).all (·<=reachBytes)=true) (hts:ts[j]? =some t) (hds:ds[j]? =some d) {m:Nat} (hm:P.bytesOf e=m):
  ∃xs,Sl r W v xs/\xs.length*m<=140737488351232:=by
 obtain⟨xs,hs⟩:=Dl ht h hv hr;refine⟨xs,hs,?_⟩;obtain⟨A,c,rfl⟩:=hs.form;obtain⟨fuel,hf⟩:=hr;rcases open_slice ht hf with⟨h1,_⟩|⟨a,len,cap,k,n,D,Pl,h1,_,hl,_,_,hx,_⟩
 · (have:Value.slice A xs.length c= .slice none 0 0:=by simpa [Value.cells]using h1);injection this with _ e2 _;rw[e2];omega
 · (have:Value.slice A xs.length c= .slice (some a) len cap:=by simpa [Value.cells]using h1);injection this with _ e2 _;injection hx with hd _;subst hd;have:=sized_slice hz hts hds ht;rw[zaI,zaI,List.length_range,List.length_range,hm]at this;have h2:xs.length*m<=(len+(k-len))*m:=zcd _ (by omega);have h3:reachBytes=140737488351232:=rfl;omega
end
section
open Go Go.RowKit Go.ChangeShapes Go.WideShapes Go.ChangeAt
theorem tS:jA Tryz.prog aA 32:=
 ⟨by kernel_rfl,fun H enc W fuel cs x h=>by
  obtain⟨hlen,hf⟩:=mr Tryz.underlying32 h;obtain⟨a0,h0⟩:=hf _ aI 0 _ rfl (fu Tryz.underlying3 (by kernel_rfl));obtain⟨a1,h1⟩:=hf _ aI 1 _ rfl (fu Tryz.underlying3 (by kernel_rfl));have hl:cs.length=2:=hlen.trans (by kernel_rfl)
  match cs,hl with
  | [c0,c1],_=>
    obtain⟨e0,w0⟩:=h0;obtain⟨e1,w1⟩:=h1;simp[aI,dw]at e0 e1;subst e0 e1
    exact⟨⟨a0,a1⟩,rfl,w0,w1⟩⟩
theorem zl:jA Tryz.prog sG 34:=
 ⟨by kernel_rfl,fun H enc W fuel cs x h=>by
  obtain⟨hlen,hf⟩:=mr Tryz.underlying34 h;obtain⟨a0,h0⟩:=hf _ aI 0 _ rfl (fu Tryz.underlying3 (by kernel_rfl));obtain⟨a1,h1⟩:=hf _ aI 1 _ rfl (fu Tryz.underlying3 (by kernel_rfl));obtain⟨a2,h2⟩:=hf _ aI 2 _ rfl (fu Tryz.underlying3 (by kernel_rfl));obtain⟨a3,h3⟩:=hf _ aI 3 _ rfl (fu Tryz.underlying3 (by kernel_rfl));obtain⟨a4,h4⟩:=hf _ aI 4 _ rfl (fu Tryz.underlying3 (by kernel_rfl));obtain⟨a5,h5⟩:=hf _ aA 5 _ rfl tS;obtain⟨a6,h6⟩:=hf _ bs 6 _ rfl (qE Tryz.underlying9 (by kernel_rfl));obtain⟨a7,h7⟩:=hf _ bs 7 _ rfl (qE Tryz.underlying9 (by kernel_rfl));have hl:cs.length=9:=hlen.trans (by kernel_rfl)
  match cs,hl with
  | [c0,c1,c2,c3,c4,c5,c6,c7,c8],_=>
    obtain⟨e0,w0⟩:=h0;obtain⟨e1,w1⟩:=h1;obtain⟨e2,w2⟩:=h2;obtain⟨e3,w3⟩:=h3;obtain⟨e4,w4⟩:=h4;obtain⟨e5,w5⟩:=h5;obtain⟨e6,w6⟩:=h6;obtain⟨e7,w7⟩:=h7;simp[aA,aI,bs,dw]at e0 e1 e2 e3 e4 e5 e6 e7;obtain⟨e5,e5'⟩:=e5;subst e0 e1 e2 e3 e4 e5 e5' e6 e7
    exact⟨⟨a0,a1,a2,a3,a4,a5,a6,a7⟩,rfl,⟨w0,w1,w2,w3,w4,w5.1,w5.2,w6,w7⟩⟩⟩
theorem wu:jA Tryz.prog (slR sG) 23:=tR Tryz.underlying23 (by kernel_rfl) (by decide) zl
end
end Go.Proofs.YtojojpjldkpmoaaGreatDoor
