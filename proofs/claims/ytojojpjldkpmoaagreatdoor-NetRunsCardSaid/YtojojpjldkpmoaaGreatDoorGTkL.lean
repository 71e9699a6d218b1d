/-
  
-/
import Derived.Test.YtojojpjldkpmoaaGreatDoorGMem
import Derived.Deep.RegionHeld3
set_option linter.unusedVariables false
set_option linter.unusedSimpArgs false
set_option maxHeartbeats 16000000
set_option maxRecDepth 100000
namespace Go.Proofs.YtojojpjldkpmoaaGreatDoor
open Go Go.RowKit
theorem tk{P:Program}{md:Region.Mode}{ops:Array Oper}{E:Exit->Act->World->Prop}{S:World->Prop}(i:Nat){oi:Oper}{v:Value}{fuel:Nat}{listed:Array Bool}{a:Act}{w:World}(hi:ops[i]? =some oi)
  (hk:(Region.noSelect ops&&Region.free md ops listed i&&(Region.ready md ops listed).contains i)=true) (hS:S w) (hE:∀c a w,E (.panic c) (a.put oi.dst v) w->E (.panic c) a w) (hw:Region.wanted oi (yielded ops a.tmps)=true)
  (hy:∀w,S w->(execOp a.eval oi).run P w= .ok (.value v) w) (h:wpAnyH P md ops E S fuel (listed.setIfInBounds i true) (a.put oi.dst v) w):wpAnyH P md ops E S (fuel+1) listed a w:=by
 simp only[Bool.and_eq_true]at hk;exact wpAnyH_take hi hk.1.1 hk.1.2 hk.2 hE (.inl ⟨hw,hy⟩) hS h
theorem tu{P:Program}{md:Region.Mode}{ops:Array Oper}{E:Exit->Act->World->Prop}{S:World->Prop}(i:Nat){oi:Oper}{fuel:Nat}{listed:Array Bool}{a:Act}{w:World}(hi:ops[i]? =some oi)
  (hk:(Region.noSelect ops&&Region.free md ops listed i&&(Region.ready md ops listed).contains i)=true) (hS:S w) (hE:∀c a w,E (.panic c) (a.put oi.dst undef) w->E (.panic c) a w) (hw:Region.wanted oi (yielded ops a.tmps)=false)
  (h:wpAnyH P md ops E S fuel (listed.setIfInBounds i true) (a.put oi.dst undef) w):wpAnyH P md ops E S (fuel+1) listed a w:=by
 simp only[Bool.and_eq_true]at hk;exact wpAnyH_take hi hk.1.1 hk.1.2 hk.2 hE (.inr ⟨hw,rfl⟩) hS h
theorem t1{P:Program}{md:Region.Mode}{ops:Array Oper}{E:Exit->Act->World->Prop}{S:World->Prop}(i:Nat){o:Oper}{fuel:Nat}{listed:Array Bool}{a:Act}{w:World}(ho:ops[i]? =some o)(hr:Region.ready md ops listed=[i])
  (h:∀K':Act->World->Prop,Shut (∀a w,S w->(S w->wpAnyH P md ops E S fuel (listed.setIfInBounds i true) a w)->K' a w)->if Region.wanted o (yielded ops a.tmps)=true then Oper.wp P o a w K' E else K' (a.put o.dst undef) w):wpAnyH P md ops E S (fuel+1) listed a w:=
 wpAnyH_ready hr (by simp) (AllReadyH.cons ho h AllReadyH.nil)
end Go.Proofs.YtojojpjldkpmoaaGreatDoor
