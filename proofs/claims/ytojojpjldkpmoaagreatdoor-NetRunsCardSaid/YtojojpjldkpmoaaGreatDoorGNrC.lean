/-
  
-/
import Derived.Test.YtojojpjldkpmoaaGreatDoorGNwA
import Derived.Test.YtojojpjldkpmoaaGreatDoorGDeB
import Derived.Test.YtojojpjldkpmoaaGreatDoorGDeD
import Derived.Test.YtojojpjldkpmoaaGreatDoorGStP
import Derived.Test.YtojojpjldkpmoaaGreatDoorGStM
import Derived.Test.YtojojpjldkpmoaaGreatDoorGNwC
import Derived.Test.YtojojpjldkpmoaaGreatDoorGNwL
import Derived.Test.YtojojpjldkpmoaaGreatDoorGNrD
set_option linter.unusedVariables false
set_option linter.unusedSimpArgs false
set_option maxHeartbeats 16000000
set_option maxRecDepth 100000
namespace Go.Proofs.YtojojpjldkpmoaaGreatDoor
section
open Go.RowKit Go.Deep
theorem qj(w:World)(g:Nat)(L:List UInt8)(s:RSt)(h:eY w g L s):
  Calls Tryz.prog 79 #[.pointer (some ⟨g,0,none⟩)] w (xC eK Value.string (fun a=>a.size<=255) w g L s):=by
 have HS:=zaa h;clear h;go_enter Tryz.func79,Tryz.ntmps79
 go_wp2_with fail
 refine(kP w g L s HS.out).mono ?_;rintro e w1 ⟨a,s1,rfl,hst,ha,hr1,hg1⟩;have HR1:=zaa hr1;have HG1:=zaa hg1;obtain⟨A,c,i,hg,f0,f1,f2,f3,hs,hi,hd,hl⟩:=hr1;have HSR:=zaa hs;obtain⟨n,hn⟩:∃n,L.length=n:=⟨_,rfl⟩;have HN:=zaa hn;obtain⟨hc1,hc2⟩:=hs.cap;rw[hn]at f0 hi hl hc1;clear hs hg1 hn;by_cases hn:s1.2=0
 · have hs0:=hst.keeps hn;rcases hp:bJ s.1 with e|⟨c0,r⟩
   · have:=(hst.2 hs0).2 e hp;exact absurd hn (by rw[this];exact fq hp)
   · obtain⟨rfl,rfl⟩:=(hst.2 hs0).1 c0 r hp;have HP:=zaa (tQ hp);have HS0:=zaa hs0;obtain⟨m,rfl⟩:=zaZ ha.1;simp only at f2 hd;(have hrl:r.length=n-i:=by rw[hd,zaM,HN.out]);have HRL:=zaa hrl;have HD:=zaa hd;clear hp hst hn hs0 hd hrl;by_cases hlt:(n:Int)<(i:Int)+(m:Int)
     · have HF:=zaa (HP.out.trans (if_pos (by have:=HRL.out;omega)));(go_wp2_with fail);(go_quiet (fail));(go_wp2_with fail);(go_ret);exact⟨⟨#[]⟩,(r,5),rfl,.err HS0.out HF.out rfl,zap _,((HR1.out.drewN nq).err 5).1,((iZ HG1.out nq)).trans ((HR1.out.drewN nq).err 5).2⟩
     · have HF:=zaa (HP.out.trans (if_neg (by have:=HRL.out;omega)));(have him:i+m<=n:=by omega);have hsub:=HSR.out.sub i (i+m) (by omega) (by rw[HN.out];exact him);rw[show i+m-i=m by omega]at hsub;(have hst2:(L.take (i+m)).drop i=r.take m:=by rw[HD.out,List.take_drop]);(have hdr:L.drop (i+m)=r.drop m:=by rw[HD.out,List.drop_drop]);rw[hst2]at hsub;have HSUB:=zaa hsub;have HDR:=zaa hdr;clear hsub hst2 hdr;(go_wp2_with fail);(go_quiet (fail));obtain⟨q1,rfl⟩:∃m,m=nq:=⟨nq,rfl⟩;have hmv:=(HR1.out.drewN q1).move (i+m) (by rw[HN.out];exact him);rw[show((i+m:Nat):Int)=(i:Int)+(m:Int)by omega]at hmv;have HMV:=zaa hmv;clear hmv;have hsl:=HSUB.out.to_sl (fun k hk=>hk.1);have hW:∀k,Sl aG (((w1.drewN q1).setCell ⟨g,1,none⟩ (.int .i64 ((i:Int)+(m:Int)))).drewN k) (.slice (if c=i then A else A.map (·.add i)) m (c-i)) (r.take m):=fun k=>
        (HSUB.out.other (iZ ((iZ (zaV w1 (some g)) q1).trans (kT _ g 1 _)) k)).to_sl (fun k hk=>hk.1)
       have q2:=fun k=>jy (hW k);clear hsl hW;by_cases hci:c=i
       · (have hm0:m=0:=by omega);subst hm0;rw[if_pos hci,show c-i=0 by omega]at q2;rw[Int.natCast_zero,Int.add_zero]at q2 HMV;subst hci;(go_wp2_with fail);(go_quiet (fail));(go_wp2_with fail);(go_ret);refine⟨⟨(r.take 0).toArray⟩,(r.drop 0,0),rfl,.ok HS0.out HF.out,?_,?_,?_⟩
         · show(r.take 0).toArray.size<=255;rw[zbx,zat];omega
         · have:=HMV.out.1.drewN nq;rw[HDR.out]at this;exact this
         · exact iZ ((iZ HG1.out q1).trans HMV.out.2) _
       · rw[if_neg hci]at q2;(go_wp2_with fail);(go_quiet (fail));(go_wp2_with fail);(go_ret);refine⟨⟨(r.take m).toArray⟩,(r.drop m,0),rfl,.ok HS0.out HF.out,?_,?_,?_⟩
         · show(r.take m).toArray.size<=255;rw[zbx,zat];omega
         · have:=HMV.out.1.drewN nq;rw[HDR.out]at this;exact this
         · exact iZ ((iZ HG1.out q1).trans HMV.out.2) _
 · (have t1:(s1.2==0)=false:=by simpa using hn);(have t2:(s1.2 !=0)=true:=by simpa using hn);have HN':=zaa hn;have HST:=zaa hst;clear hn hst hd;(go_wp2_with fail);(go_quiet (fail));(go_wp2_with fail);(go_ret);refine⟨⟨#[]⟩,s1,rfl,?_,zap _,HR1.out.drewN _,iZ HG1.out _⟩;refine⟨HST.out.1,fun h0=>⟨fun x r hx=> ?_,fun e he=> ?_⟩⟩
   · rcases hp:bJ s.1 with e|⟨c0,r0⟩
     · rw[gi hp]at hx;cases hx
     · have:=((HST.out.2 h0).1 c0 r0 hp).2;exact absurd (by rw[this]) HN'.out
   · rcases hp:bJ s.1 with e'|⟨c0,r0⟩
     · rw[gi hp]at he;injection he with he;rw[<-he];exact(HST.out.2 h0).2 e' hp
     · have:=((HST.out.2 h0).1 c0 r0 hp).2;exact absurd (by rw[this]) HN'.out
theorem AC(m c P q:Nat)(hq:c%128*P=q)(hm:m<562949953421312)(hb:q<=127*562949953421312):wrap64 ((m:Int)+wrap64 ((c:Int)%128*(P:Int)))=((m+q:Nat):Int):=by
 have e:(c:Int)%128*(P:Int)=(q:Int):=by rw[<-hq];push_cast;rfl
 rw[e];unfold wrap64;omega
theorem yV(w:World)(g:Nat)(L:List UInt8)(s:RSt)(h:eY w g L s):
  Calls Tryz.prog 80 #[.pointer (some ⟨g,0,none⟩)] w (xC ku (Value.int .i64) (fun a=>0<=a/\a<9223372036854775808) w g L s):=by
 have HR:=zaa h;have hst:mQ s s 0 0:=by
  by_cases hs:s.2=0
  · exact .inl ⟨hs,hs,rfl,by omega,by decide⟩
  · exact .inr ⟨hs,fun _=>rfl,fun h=>absurd h hs,by omega⟩
 have HST:=zaa hst;clear h hst;go_enter Tryz.func80,Tryz.ntmps80
 go_wp2_with fail
 go_loopw [3,4,5,6] (fun s3 s4 s5 _ wr=>∃(m i:Nat) (s':RSt),s3= .int .i64 m/\s4= .int .i64 ((128^i:Nat):Int)/\s5= .int .i64 i/\m<9223372036854775808/\mQ s s' i m/\eY wr g L s'/\w.grownBy wr (some g)) (fun _ _ s5 _ _=>9-(intOf s5).toNat)
 case atStart=>exact⟨0,0,s,rfl,rfl,rfl,by omega,HST.out,HR.out,zaV _ _⟩
 case round=>
  obtain⟨m,i,s',rfl,rfl,rfl,hm,hna,hrd,hgr⟩:=hrel;have HRD:=zaa hrd;have HGR:=zaa hgr;have HNA:=zaa hna;obtain⟨A,c,q,hg,f0,f1,f2,f3,_,_,_,_⟩:=hrd;clear hgr;by_cases he:s'.2=0
  · rcases hna with⟨_,hs0,hpn,hi7,hmi⟩|⟨hx,_⟩
    · have HS0:=zaa hs0;have HPN:=zaa hpn;have HBY:=zaa (kP wr g L s' HRD.out);have HE:=zaa he;rw[he]at f2;clear hs0 hpn he;(go_wp2_with fail);refine HBY.out.mono ?_;rintro e w1 ⟨a,s1,rfl,hst,ha,hr1,hg1⟩;obtain⟨cn,rfl⟩:=zaZ ha.1;(have hcn:cn<=255:=by omega);clear f0 f1 f2 f3 hg ha;have HR1:=zaa hr1;have HG1:=zaa (HGR.out.trans hg1);obtain⟨A1,c1,q1,hg,f0,f1,f2,f3,_,_,_,_⟩:=hr1;clear hg1;have hp7:=nc i hi7;have hmul:cn%128*128^i<=127*562949953421312:=zcv (by omega) hp7;rcases hp:bJ s'.1 with e|⟨c0,r⟩
      · have h5:=(hst.2 HE.out).2 e hp;(have hne:s1.2≠0:=by rw[h5];exact fq hp);(have t1:(s1.2==0)=false:=by simpa using hne);(have t2:(s1.2 !=0)=true:=by simpa using hne);have HN:=zaa (show ku s.1= .error s1.2 by
         rw[HPN.out,h5];cases hq:s'.1 with
         | nil=>rw[hq]at hp;rw[oI];simpa [bJ]using hp
         | cons c0 r=>rw[hq]at hp;simp[bJ]at hp)
        clear hst hp h5 hmul hp7;(go_wp2_with fail);(go_ret);exact⟨0,s1,rfl,.err HS0.out HN.out rfl,by omega,HR1.out,HG1.out⟩
      · obtain⟨rfl,rfl⟩:=(hst.2 HE.out).1 _ _ hp;obtain⟨x,hx⟩:∃x:UInt8,s'.1=x::r/\cn=x.toNat:=by
         cases hq:s'.1 with
         | nil=>rw[hq]at hp;simp[bJ]at hp
         | cons x r'=>
           rw[hq]at hp;simp only[bJ,Except.ok.injEq,Prod.mk.injEq]at hp;exact⟨x,by rw[hp.2],by omega⟩
        have hstep:=mz i m x r;rw[<-hx.1,<-HPN.out,<-hx.2]at hstep;have HSTEP:=zaa hstep;simp only at f2;clear hst hp hx hstep;by_cases hbad:i=7∨(0<i/\cn=0)
        · have H1:=zaa (HR1.out.err 4);have HN:=zaa (show ku s.1= .error 4 by rw[HSTEP.out,if_pos hbad]);by_cases h7:i=7
          · (have t7:((i:Int)==7)=true:=by simp;omega);clear hbad h7 hmul hp7;(go_wp2_with fail);(go_ret);exact⟨0,(r,4),rfl,.err HS0.out HN.out rfl,by omega,H1.out.1,HG1.out.trans H1.out.2⟩
          · (have t7:((i:Int)==7)=false:=by simp;omega);(have h0:(0:Int)<(i:Int):=by omega);(have t8:((cn:Int)==0)=true:=by simp;omega);clear hbad h7 hmul hp7;(go_wp2_with fail);(go_ret);exact⟨0,(r,4),rfl,.err HS0.out HN.out rfl,by omega,H1.out.1,HG1.out.trans H1.out.2⟩
        · have HG:=zaa hbad;(have t7:((i:Int)==7)=false:=by simp;omega);obtain⟨P,hP⟩:∃P,128^i=P:=⟨_,rfl⟩;have HV:=zaa (show wrap64 ((m:Int)+wrap64 ((cn:Int)%128*(P:Int)))=((m+cn%128*128^i:Nat):Int)by
           rw[hP]at hmi hp7 hmul⊢
           exact AC m cn P _ rfl (zas hmi hp7) hmul)
          have HU:=zaa (show(128:Int)*(P:Int)=((128^(i+1):Nat):Int)by rw[Nat.pow_succ,hP];omega);by_cases h0:0<i
          · (have h0':(0:Int)<(i:Int):=by omega);(have t8:((cn:Int)==0)=false:=by simp;omega);clear hbad h0;go_wp2_with fail
            · have hc:=‹(cn:Int)<128›;(go_ret);exact⟨((m+cn%128*128^i:Nat):Int),(r,0),ei (by rw[HV.out]),.ok HS0.out (by rw[HSTEP.out,if_neg HG.out,if_pos (by omega)]),by omega,HR1.out,HG1.out⟩
            · have hc:=‹128<=(cn:Int)›;refine⟨⟨m+cn%128*128^i,i+1,(r,0),by rw[HV.out],?_,by go_num,by omega,.inl ⟨rfl,HS0.out,by rw[HSTEP.out,if_neg HG.out,if_neg (by omega)],?_,?_⟩,HR1.out,HG1.out⟩,by simp[intOf];omega⟩
              · rw[HU.out]
              · have:=HG.out;omega
              · rw[Nat.pow_succ];have h1:cn%128*128^i<=127*128^i:=zcd _ (by omega);omega
          · (have h0':¬ (0:Int)<(i:Int):=by omega);clear hbad h0;go_wp2_with fail
            · have hc:=‹(cn:Int)<128›;(go_ret);exact⟨((m+cn%128*128^i:Nat):Int),(r,0),ei (by rw[HV.out]),.ok HS0.out (by rw[HSTEP.out,if_neg HG.out,if_pos (by omega)]),by omega,HR1.out,HG1.out⟩
            · have hc:=‹128<=(cn:Int)›;refine⟨⟨m+cn%128*128^i,i+1,(r,0),by rw[HV.out],?_,by go_num,by omega,.inl ⟨rfl,HS0.out,by rw[HSTEP.out,if_neg HG.out,if_neg (by omega)],?_,?_⟩,HR1.out,HG1.out⟩,by simp[intOf];omega⟩
              · rw[HU.out]
              · have:=HG.out;omega
              · rw[Nat.pow_succ];have h1:cn%128*128^i<=127*128^i:=zcd _ (by omega);omega
    · exact absurd he hx
  · (have t1:(s'.2==0)=false:=by simpa using he);have HE:=zaa he;clear he hna;(go_wp2_with fail);(go_ret);exact⟨(m:Int),s',rfl,HNA.out.off HE.out _,by omega,HRD.out,HGR.out⟩
structure CL(w:World)(g n:Nat)(L l:List UInt8)(k:Nat)(done:List ab)(st:RSt)(wr:World)(v:Value):Prop where
 many:fB n l k done st
 rd:eY wr g L st
 out:OwR aW 44 (g+1) wr v done
 below:Below w.heap.size w wr
structure Rnd(w:World)(g:Nat)(L:List UInt8)(h:Nat)(w':World)(s:RSt)(v:Value)(done:List ab)(cs:List Value):Prop where
 rd:eY w' g L s
 out:OwR aW 44 (g+1) w' v done
 below:Below w.heap.size w w'
 own:v.ownBlock≠some h
 lt:h<w'.heap.size
 gh:g<h
 wg:w.heap.size<=g
 cells:∀i,w'.cell? ⟨h,i,none⟩=cs[i]?
 fz:∀i,w'.frozen? ⟨h,i,none⟩=false
theorem Rnd.call{w:World}{g:Nat}{L:List UInt8}{h:Nat}{w' w'':World}{s s':RSt}{v:Value}{done:List ab}{cs:List Value}(r:Rnd w g L h w' s v done cs)(hs:eY w'' g L s')(hg:w'.grownBy w'' (some g)):Rnd w g L h w'' s' v done cs:=by
 have e:w''.heap[h]? =w'.heap[h]? :=hg.block h r.lt (fun e=>by injection e with e;have:=r.gh;omega);obtain⟨b,o⟩:=mR.turn r.below r.out r.wg hg;exact⟨hs,o,b,r.own,zas r.lt hg.size,r.gh,r.wg,fun i=>(zav (a:=⟨h,i,none⟩) e).trans (r.cells i),fun i=>(zaK (a:=⟨h,i,none⟩) e).trans (r.fz i)⟩
theorem Rnd.store{w:World}{g:Nat}{L:List UInt8}{h:Nat}{w':World}{s:RSt}{v:Value}{done:List ab}{cs:List Value}(r:Rnd w g L h w' s v done cs)(i:Nat)(hi:i<cs.length)(u:Value):Rnd w g L h (w'.setCell ⟨h,i,none⟩ u) s v done (cs.set i u):=by
 have hg:=kT w' h i u;have hwg:=r.wg;have hgh:=r.gh;refine⟨r.rd.grown hg (fun k e=>by injection e with e;omega),r.out.kept hg (.inr r.own),r.below.grown hg r.below.size (fun k e=>by injection e with e;omega),r.own,zas r.lt hg.size,r.gh,r.wg,fun j=> ?_,fun j=>by simp only[zaz];exact r.fz j⟩;by_cases e:i=j
 · subst e;have hc:=r.cells i;rw[zad hi]at hc;rw[zbP _ _ _ hc,zbs hi]
 · rw[zaj w' ⟨h,i,none⟩ ⟨h,j,none⟩ _ (by simp[e]),r.cells j,zaF e]
theorem Rnd.start{w:World}{g n:Nat}{L l:List UInt8}{k:Nat}{done:List ab}{st:RSt}{wr:World}{v:Value}(d:CL w g n L l k done st wr v)(hwg:w.heap.size<=g)(cs:Array Value)(t:TypeId):
  Rnd w g L wr.heap.size (wr.alloc (.cells cs t)) st v done cs.toList:=
 ⟨d.rd.alloc _,d.out.alloc1 _,d.below.alloc d.below.size _,fun e=>by have:=(d.out.base_le _ e).2;omega,by simp,d.rd.lt,hwg,fun i=>by rw[zah _ _ _ _ rfl];simp,fun i=>zaL _ _ _ _ rfl⟩
theorem ww{w:World}{B:Nat}{x:ab}(hB:B=w.heap.size)(hx:x.wf):SlR aW (w.alloc (.cells #[.string x.key,.int .i64 x.version,.int .i64 x.origin,.string x.value] 44)) (fun k=>k<w.heap.size+1) (.slice (some ⟨B,0,none⟩) 1 1) [x]:=by
 subst hB;exact gT hx
theorem td(l m:List UInt8)(tb:Bool)(h:(l !=m)=tb):(!((⟨l.toArray⟩:ByteArray).toList==(⟨m.toArray⟩:ByteArray).toList))=tb:=by
 rw[zbw,zbw];simpa [bne]using h
theorem jc(v:Value)(xs:List UInt8)(w:World)(h:Sl aG w v xs):Calls Tryz.prog 45 #[v] w (gW xs w):=by
 have hlen:=h.len_le;obtain⟨A,c,rfl⟩:=h.form;have H:=zaa h;clear h;by_cases hl1:20000<xs.length
 · have HF:=zaa (rg hl1);(have hl1':(20000:Int)<(xs.length:Int):=by omega);(go_enter Tryz.func45,Tryz.ntmps45);(go_wp2_with fail);(go_ret2);exact de HF.out (OwR.nil _ _ (zab _)) (zac _ _)
 by_cases hl2:xs.length<6
 · have HF:=zaa (pn hl1 hl2);(have hl1':¬ (20000:Int)<(xs.length:Int):=by omega);(have hl2':(xs.length:Int)<6:=by omega);(go_enter Tryz.func45,Tryz.ntmps45);(go_wp2_with fail);(go_ret2);exact de HF.out (OwR.nil _ _ (zab _)) (zac _ _)
 obtain⟨b,off,rfl,hb⟩:=H.out.at_ (show 0<xs.length by omega);have f0:=H.out.byte (show 0<xs.length by omega);rw[zbH]at f0;have hl1':¬ (20000:Int)<(xs.length:Int):=by omega
 have hl2':¬ (xs.length:Int)<6:=by omega
 obtain⟨y0,hy0⟩:∃y,xs[0]'(by omega)=y:=⟨_,rfl⟩;rw[hy0]at f0;have HY0:=zaa hy0;clear hy0;by_cases h116:y0=116
 · obtain⟨k,hk⟩:∃k,xs.length=k+4:=⟨xs.length-4,by omega⟩;(have hk4:xs.length-4=k:=by omega);obtain⟨hc1,hc2⟩:=H.out.cap;have HTK:=zaa (SlR.take H.out k (by omega));(have t1:((y0.toNat:Int) !=116)=false:=by rw[h116];rfl);have H116:=zaa h116;have HK:=zaa hk;have HK4:=zaa hk4;have HL:=zaa (And.intro hl1 hl2);obtain⟨n,hn⟩:∃n,xs.length=n:=⟨_,rfl⟩;(have hn4:(n:Int)-4=(k:Int):=by omega);have HN4:=zaa hn4;have HN:=zaa hn;(have k3:(k:Int)+3<(n:Int):=by omega);(have k2:(2:Int)<=(k:Int):=by omega);have hdr:=SlR.sub H.out k xs.length (by omega) (zab _);rw[zaN,if_neg (by omega),show xs.length-k=4 by omega]at hdr;have HDR:=zaa hdr;obtain⟨tb,htb⟩:∃tb,(et (xs.take k) !=xs.drop k)=tb:=⟨_,rfl⟩;have HTB:=zaa htb;have HNE:=zaa (td _ _ _ htb);rw[hn]at hl1' hl2' hc1 hlen⊢;clear hk hn hn4 hk4 h116 hdr htb;(go_enter Tryz.func45,Tryz.ntmps45);(go_upto_region 7 with fail);(have hw:IntKind.i64.wrap ((n:Int)-4)=(k:Int):=by rw[IntKind.wrap_i64,HN4.out];omega);(have hw0:(0:Int)<=(k:Int):=by omega);(have hwc:(k:Int)<=(c:Int):=by omega);(have hwn:(k:Int)<=(n:Int):=by omega);have HBD:=zaa ((zac w.heap.size w).drew);have HSEAL:=zaa (tp _ (xs.take k) w.drew ((SlR.to_sl HTK.out (fun k hk=>hk)).below HBD.out));have hcv:∀w',Below w.heap.size w w'->(convert 106 9 (.slice (some ⟨b,off+k,none⟩) (n-k) (c-k))).run Tryz.prog w'= .ok (.string ⟨(xs.drop k).toArray⟩) w':=fun w' hb'=>by
    have h1:=jy ((SlR.to_sl HDR.out (fun k hk=>hk)).below hb');have e1:Option.map (fun x=>x.add k) (some (⟨b,off,none⟩:Addr))=some ⟨b,off+k,none⟩:=by
     show some (Addr.add ⟨b,off,none⟩ k)=_;unfold Addr.add;rw[if_neg (by omega)]
    (have e2:n-k=4:=by have:=HN4.out;omega);rw[e1]at h1;rw[e2];exact h1
   have HCV:=zaa hcv;(have hck:¬ c=k:=by omega);have c0:=hcv w.drew HBD.out;clear hcv;go_region_held (fun w'=>(convert 106 9 (.slice (some ⟨b,off+k,none⟩) (n-k) (c-k))).run Tryz.prog w'= .ok (.string ⟨(xs.drop k).toArray⟩) w') (first|exact c0|exact c1|go_keep)
    (first
     | (go_at_call 77;refine HSEAL.out.mono ?_;rintro e w1 ⟨v1,rfl,ho1,hb1⟩;obtain⟨A1,d1,hv1⟩:=(ho1.sl (by decide)).form;subst hv1;have q1:=jy (ho1.sl (by decide));have B1:=zaa (HBD.out.trans (hb1.mono HBD.out.size));have c1:=HCV.out w1 B1.out))
   rw[show(!et (xs.take k)==xs.drop k)=tb from HTB.out];clear hw hw0 hwc hwn c0 c1 q1 ho1 hb1 hck;rcases tb with _|_
   · have hs:et (xs.take k)=xs.drop k:=by
      have:=HTB.out;simpa using this
     have hdb:=rj HL.out.1 HL.out.2 (HY0.out.trans H116.out) (by rw[HK4.out];exact hs);rw[HK4.out]at hdb;have HF:=zaa hdb;have hz1:=B1.out.size;clear hdb hs;obtain⟨z,l1,hzl⟩:∃z l1,(xs.take k).drop 1=z::l1:=by
      cases hq:(xs.take k).drop 1 with
      | nil=>
        have:=congrArg List.length hq;rw[zaM,zat,zaW]at this;have:=HK.out;omega
      | cons z l1=>exact⟨z,l1,rfl⟩
     obtain⟨L,hL⟩:∃L,xs.take k=L:=⟨_,rfl⟩;(have hLk:L.length=k:=by rw[<-hL,zat];have:=HK.out;omega);have hba:Below w.heap.size w (w1.alloc (.cells #[.slice (some ⟨b,off,none⟩) k c,.int .i64 1,.int .i64 0] 141)):=B1.out.alloc hz1 _;have hrd:eY (w1.alloc (.cells #[.slice (some ⟨b,off,none⟩) k c,.int .i64 1,.int .i64 0] 141)) w1.heap.size L (z::l1,0):=by
      refine⟨some ⟨b,off,none⟩,c,1,by simp,?_,zah _ _ _ _ rfl,zah _ _ _ _ rfl,fun i=>zaL _ _ _ _ rfl,?_,by omega,?_,by have:=HK.out;have:=HN.out;omega⟩
      · rw[hLk];exact zah _ _ _ _ rfl
      · rw[hLk,<-hL];exact SlR.keep HTK.out hba.block (fun q hq=>by simp only[zbq];omega)
      · rw[<-hL];exact hzl.symm
     have HZL:=zaa hzl;have HBY:=zaa (kP _ w1.heap.size L (z::l1,0) hrd);have HB1:=zaa hba;have HLK:=zaa hL;clear hrd hzl hba hL hLk;have hn4':=HN4.out;(have hkc:(k:Int)<=(c:Int):=by omega);(have hk0:(0:Int)<=(k:Int):=by omega);(go_wp2_with fail);clear hn4' hkc hk0;refine HBY.out.mono ?_;rintro e w2 ⟨a,s1,rfl,hst,ha,hr1,hg1⟩;obtain⟨rfl,rfl⟩:=(hst.2 rfl).1 _ _ rfl;have hgz:w.heap.size<=w1.heap.size:=hz1;obtain⟨g,hgd⟩:∃g,w1.heap.size=g:=⟨_,rfl⟩;rw[hgd]at hr1 hg1 hgz⊢;have hB2:=HB1.out.grown hg1 HB1.out.size (fun k e=>by injection e with e;omega);have hgw:g<w2.heap.size:=hr1.lt;have HPB:=zaa (show bJ ((xs.take k).drop 1)= .ok ((z.toNat:Int),l1)by rw[HZL.out];rfl);obtain⟨nn,hnn⟩:∃nn,z.toNat=nn:=⟨_,rfl⟩;(have hn255:nn<256:=by rw[<-hnn];exact z.toNat_lt);rw[hnn]at HPB⊢;have HD0:=zaa (show CL w g nn L l1 0 [] (l1,0) w2 (.slice none 0 0)from⟨fB.start _ _,hr1,OwR.nil _ _ hgw,hB2⟩);have HWG:=zaa hgz;clear hst ha hr1 hg1 hB2 hgd hnn HBY hgw hgz hz1;(go_wp2_with fail);(go_loopw [5,7,8] (fun s5 s7 _ wr=>∃(j:Nat) (done:List ab) (st:RSt),j<=nn/\s7= .int .i64 j/\CL w g nn L l1 j done st wr s5) (fun _ s7 _ _=>nn-(intOf s7).toNat));(case atStart=>exact⟨0,[],(l1,0),zap _,rfl,HD0.out⟩);case round=>
      obtain⟨j,done,st,hj,rfl,hd⟩:=hrel;have HD:=zaa hd;have hgl:=hd.rd.lt;obtain⟨A2,c2,i2,_,f0',f1',f2',f3',_,_,_,_⟩:=hd.rd;clear hd;by_cases hgo:j<nn/\st.2=0
      · obtain⟨hlt,he⟩:=hgo;have HE:=zaa he;rw[he]at f2';have HR0:=zaa (Rnd.start HD.out HWG.out #[.string ⟨#[]⟩,.int .i64 0,.int .i64 0,.string ⟨#[]⟩] 44);clear he;(go_wp2_with fail);clear f0' f1' f2' f3';refine(qj _ g L st HR0.out.rd).mono ?_;rintro e w3 ⟨a3,s3,rfl,hst3,ha3,hr3,hg3⟩;have hR3:=HR0.out.call hr3 hg3;have hN3:=hR3.cells;have hF3:=hR3.fz;have hL3:=hR3.lt;have HR3:=zaa (hR3.store 0 (by simp) (.string a3));have HST3:=zaa hst3;clear hst3 hr3 hg3 hR3;(go_wp2_with fail);refine(yV _ g L s3 HR3.out.rd).mono ?_;rintro e w4 ⟨a4,s4,rfl,hst4,ha4,hr4,hg4⟩;have hR4:=HR3.out.call hr4 hg4;have hN4:=hR4.cells;have hF4:=hR4.fz;have hL4:=hR4.lt;have HR4:=zaa (hR4.store 1 (by simp) (.int .i64 a4));have HST4:=zaa hst4;clear hst4 hr4 hg4 hR4 hN3 hF3 hL3;(go_wp2_with fail);refine(kP _ g L s4 HR4.out.rd).mono ?_;rintro e w5 ⟨a5,s5,rfl,hst5,ha5,hr5,hg5⟩;have hR5:=HR4.out.call hr5 hg5;have hN5:=hR5.cells;have hF5:=hR5.fz;have hL5:=hR5.lt;have HR5:=zaa (hR5.store 2 (by simp) (.int .i64 a5));have HST5:=zaa hst5;clear hst5 hr5 hg5 hR5 hN4 hF4 hL4;(go_wp2_with fail);refine(qj _ g L s5 HR5.out.rd).mono ?_;rintro e w6 ⟨a6,s6,rfl,hst6,ha6,hr6,hg6⟩;have hR6:=HR5.out.call hr6 hg6;have hN6:=hR6.cells;have hF6:=hR6.fz;have hL6:=hR6.lt;have HR6:=zaa (hR6.store 3 (by simp) (.string a6));have HST6:=zaa hst6;clear hst6 hr6 hg6 hR6 hN5 hF5 hL5;have HSTE:=zaa (Stp.entry HST3.out HST4.out HST5.out HST6.out);have HWF:=zaa (show ab.wf ⟨a3,a4,a5,a6⟩from⟨by show a3.size<=maxLen;unfold maxLen;omega,by show inR a4;unfold inR;omega,by show inR a5;unfold inR;omega,by show a6.size<=maxLen;unfold maxLen;omega⟩);have HLEN:=zaa (show done.length+[(⟨a3,a4,a5,a6⟩:ab)].length<=1000000 by
         have:=HD.out.many.1
         simp only[zaD,zaW];omega)
        clear ha3 ha4 ha5 ha6;(go_wp2_with (at_builtin;refine cL (base:=g+1) rfl (.tmp 67) (.tmp 69) rfl (HR6.out.out.alloc1 _) (ww (B:=w6.heap.size) (by simp) HWF.out) rfl rfl HLEN.out ?_;intro v7 w7 ho7 hg7));(go_roundw);case rel=>
         refine⟨j+1,_,s6,by omega,by go_num,⟨HD.out.many.next hlt HE.out HSTE.out,(HR6.out.rd.alloc _).grown hg7.grown (fun q e=>(HR6.out.out.base_le q e).1),ho7,?_⟩⟩;exact(HR6.out.below.alloc HR6.out.below.size _).grown hg7.grown (by have:=HR6.out.below.size;rw[zbq];omega) (fun q e=>by have:=(HR6.out.out.base_le q e).1;have:=HWG.out;omega)
        case measure=>simp[intOf];omega
      · by_cases he:st.2=0
        · (obtain rfl:j=nn:=by omega);have HM:=zaa (HD.out.many.done_ (zab _) he);have HSP:=zaa HD.out.rd;obtain⟨r,er⟩:=st;simp only at he f2' HM HSP;have hrd:=‹(r,er).1=L.drop i2›;simp only at hrd;subst he;have hil:=‹i2<=L.length›;obtain⟨nL,hnL⟩:∃nL,L.length=nL:=⟨_,rfl⟩;rw[hnL]at f0' hil;by_cases hlt2:i2<nL
          · have hne:r≠[]:=by
             intro e;have:=congrArg List.length (e.symm.trans hrd);rw[zaM,zaW]at this;omega
            have HF2:=zaa (HF.out.trans (lz HPB.out (by rw[zaX];exact HM.out) hne));(have r1:(i2:Int)<(nL:Int):=by omega);have HB:=zaa HD.out.below;clear hrd hnL hne hgo;(go_wp2_with fail);(go_quiet (fail));obtain⟨q1,rfl⟩:∃m,m=nq:=⟨nq,rfl⟩;(go_wp2_with fail);(go_quiet (fail));(go_wp2_with fail);(go_ret2);refine de HF2.out (OwR.nil _ _ ?_) ?_
            · exact((ag HB.out q1).setCell HWG.out _).size
            · exact ag ((ag HB.out q1).setCell HWG.out _) _
          · (have hnil:r=[]:=by rw[hrd];exact zbA (by omega));subst hnil;(have r1:¬ (i2:Int)<(nL:Int):=by omega);have HB:=zaa HD.out.below;clear hrd hnL hgo;(go_wp2_with fail);(go_quiet (fail));obtain⟨q1,rfl⟩:∃m,m=nq:=⟨nq,rfl⟩;have hoq:=HD.out.out.drewN1 q1;have HOQ:=zaa hoq;have HCH:=zaa (gn _ done (wr.drewN q1) (hoq.sl (by decide)));clear hoq;(go_wp2_with fail);refine HCH.out.mono ?_;rintro e w3 ⟨rfl,hb3⟩;have HB3:=zaa ((ag HB.out q1).trans (hb3.mono HB.out.size));have HO3:=zaa (HOQ.out.keep hb3);have hcg:w3.cell? ⟨g,2,none⟩=some (.int .i64 0):=(bAt hb3 hgl 2).trans f2';have hfg:∀i,w3.frozen? ⟨g,i,none⟩=false:=fun i=>(bFz hb3 hgl i).trans (f3' i);clear hb3 f0' f1' f2' f3';by_cases hcc:aj done=0
            · (have t3:(aj done !=0)=false:=by simp[hcc]);have HF2:=zaa (HF.out.trans (mI HPB.out (by rw[zaX];exact HM.out) hcc));have HRW:=zaa (kT w3 g 2 (.int .i64 (aj done)));clear hcc;(go_wp2_with fail);(go_ret2);exact de HF2.out ((HO3.out.kept HRW.out (.inr fun e=>by have:=(HO3.out.base_le _ e).1;omega)).lower (by have:=HWG.out;omega)) (HB3.out.setCell HWG.out _)
            · (have t3:(aj done !=0)=true:=by simp[hcc]);have HF2:=zaa (HF.out.trans (mK HPB.out (by rw[zaX];exact HM.out) hcc));clear hcc;(go_wp2_with fail);(go_quiet (fail));(go_wp2_with fail);(go_ret2);exact de HF2.out (OwR.nil _ _ (HB3.out.setCell HWG.out _).size) (ag (HB3.out.setCell HWG.out _) _)
        · have HM:=zaa (HD.out.many.bad he);have HF2:=zaa (HF.out.trans (mJ HPB.out (by rw[zaX];exact HM.out)));(have t3:(st.2==0)=false:=by simpa using he);(have t4:(st.2 !=0)=true:=by simpa using he);have HB3:=zaa HD.out.below;clear he hgo;(go_wp2_with fail);all_goals
           (go_quiet (fail));obtain⟨q1,rfl⟩:∃m,m=nq:=⟨nq,rfl⟩;(go_wp2_with fail);(go_quiet (fail));(go_wp2_with fail);(go_ret2);exact de HF2.out (OwR.nil _ _ HB3.out.size) (ag (ag HB3.out q1) _)
   · have HF:=zaa (uF HL.out.1 HL.out.2 (HY0.out.trans H116.out) (by
      rw[HK4.out];intro e;have:=HTB.out;rw[e]at this
      simp at this))
     (go_wp2_with fail);(go_ret2);exact de HF.out (OwR.nil _ _ B1.out.size) B1.out
 · have HF:=zaa (ri hl1 hl2 (fun e=>h116 (HY0.out.symm.trans e)));have t1:((y0.toNat:Int) !=116)=true:=by
    simp only[bne_iff_ne,ne_eq];intro e;exact h116 (UInt8.toNat_inj.1 (by show _=116;omega))
   clear h116;(go_enter Tryz.func45,Tryz.ntmps45);(go_wp2_with fail);(go_ret2);exact de HF.out (OwR.nil _ _ (zab _)) (zac _ _)
theorem iJ(v1 v2:Value)(xs ys:List ab)(w:World)(h1:Sl aW w v1 xs)(h2:Sl aW w v2 ys):Calls Tryz.prog 46 #[v1,v2] w (CN (cJ aH xs ys) w):=by
 have hlen:=h2.len_le;obtain⟨A1,c1,rfl⟩:=h1.form;obtain⟨A2,c2,rfl⟩:=h2.form;have H1:=zaa h1;have H2:=zaa h2;clear h1 h2;go_enter Tryz.func46,Tryz.ntmps46
 go_wp2_with fail
 refine(gn _ xs _ H1.out).mono ?_;rintro r w1 ⟨rfl,hb1⟩;have HB1:=zaa hb1;have hz1:=hb1.size;clear hb1;by_cases hc:aj xs=0
 · (have t1:(aj xs==0)=true:=by simp[hc]);have HC:=zaa hc;clear hc;(go_wp2_with fail);refine(gn _ ys _ (H2.out.below HB1.out)).mono ?_;rintro r w2 ⟨rfl,hb2⟩;have HB2:=zaa (HB1.out.trans (hb2.mono hz1));have hz2:=HB2.out.size;clear hb2;by_cases hc2:aj ys=0
   · (have t2:(aj ys !=0)=false:=by simp[hc2]);have HC2:=zaa hc2;have HOKA:=zaa (dX HC.out);have HOKB:=zaa (dX hc2);have hl60:=HOKB.out.len;have HF:=zaa (js HC.out hc2);have HNL:=zaa (OwR.nil (w:=w2) aW 44 hz2);have HLN:=zaa (show([]:List ab).length+xs.length<=1000000 by have:=HOKA.out.len;simp;omega);clear hc2;(go_wp2_with (at_builtin;refine cL (base:=w.heap.size) rfl _ _ rfl HNL.out (H1.out.below HB2.out) rfl rfl HLN.out ?_;intro v3 w3 ho3 hg3));rw[zcf]at ho3;have HO3:=zaa ho3;have HB3:=zaa (HB2.out.grown hg3.grown hz2 (fun k e=>by cases e));clear ho3 hg3;(go_loopw [8,9,10,11] (fun s8 s9 s10 _ wr=>∃k:Nat,k<=ys.length/\s10= .int .i64 k/\Two w.heap.size wr s8 s9 (mTo xs ys k).1 (mTo xs ys k).2/\Below w.heap.size w wr) (fun _ _ s10 _ _=>ys.length-(intOf s10).toNat));(case atStart=>exact⟨0,zap _,rfl,⟨HO3.out,OwR.nil _ _ HB3.out.size,fun k hk hk'=>by cases hk'⟩,HB3.out⟩);case round=>
      obtain⟨k,hk,rfl,htw,hB⟩:=hrel;have HT:=zaa htw;have HB:=zaa hB;by_cases hlt:k<ys.length
      · obtain⟨b,off,rfl,hb⟩:=H2.out.at_ hlt;have hentY:=fun w' (hb':Below w.heap.size w w')=>(H2.out.below hb').ent hlt;have hsucc:=jt xs ys k hlt;have hok:=oQ HOKA.out HOKB.out.ok k;have hkl:=x9 xs ys k hk;obtain⟨y,hy⟩:∃y,ys[k]=y:=⟨_,rfl⟩;obtain⟨p,hp⟩:∃p,mTo xs ys k=p:=⟨_,rfl⟩;simp only[hy]at hentY;rw[hy]at hsucc;rw[hp]at hok hkl hsucc htw;obtain⟨f1,f2,f3,f4,hyw⟩:=hentY wr hB;have HEY:=zaa hentY;have HSUC:=zaa hsucc;have HOK:=zaa hok;have HYW:=zaa hyw;have HT2:=zaa htw;have hol:=hok.len;have hez:=hB.size;have HPL:=zaa (lX _ p.1 y.key wr (htw.out.sl (by decide)));have r0:(0:Int)<=(k:Int):=zai _;(have r1:(k:Int)<(ys.length:Int):=by omega);obtain⟨A9,c9,hv9⟩:=(htw.out.sl (by decide)).form;subst hv9;have HKL:=zaa (show p.2.length+[y.key].length<=1000000 by simp only[zaD,zaW];omega);have HWE:=zaa (fun w' (h:Sl aW w' (.slice A9 p.1.length c9) p.1)=>gY _ p.1 y w' h hok.ord (by omega) hyw h.wfs);unfold ab.val at HWE;clear htw hB hy hp hsucc hok hyw HT hentY;(go_wp2_with fail);refine HPL.out.mono ?_;rintro r w4 ⟨rfl,rfl⟩;rcases hh:dm p.1 y.key with _|_
        · have hpl:=gR hh;rw[hpl];by_cases hroom:p.1.length<60
          · have HST:=zaa (tf hh hroom);(have hr1:(p.1.length:Int)<60:=by omega);clear hh hroom hpl;(go_wp2_with fail);(go_quiet (fail));obtain⟨q1,rfl⟩:∃m,m=nq:=⟨nq,rfl⟩;have HT5:=zaa (HT2.out.keep (ag (zac wr.heap.size wr) q1));have HB5:=zaa (ag HB.out q1);obtain⟨f1',f2',f3',f4',_⟩:=HEY.out _ HB5.out;(go_wp2_with fail);refine(HWE.out _ (HT5.out.out.sl (by decide))).mono ?_;rintro e w6 ⟨v6,rfl,ho6,hb6⟩;have HT6:=zaa (HT5.out.new ho6 hb6);have HB6:=zaa (HB5.out.trans (hb6.mono HB5.out.size));clear ho6 hb6 f1' f2' f3' f4';obtain⟨f1',f2',f3',f4',_⟩:=HEY.out _ HB6.out;(go_wp2_with (at_builtin;refine gK (base:=w.heap.size) rfl (.tmp 64) (.tmp 70) rfl (HT6.out.keys.alloc1 _) (nf HYW.out.1) rfl rfl HKL.out ?_;intro v8 w8 ho8 hg8));(go_roundw);case rel=>
             refine⟨k+1,by omega,by go_num,?_,gbO (HB6.out.alloc HB6.out.size _) (HT6.out.keys.alloc1 _) hg8⟩;rw[HSUC.out,HST.out];exact(HT6.out.keep ((zac _ _).alloc (zab _) _)).keys' ho8 hg8
            case measure=>simp[intOf];omega
          · have HST:=zaa (qk hh hroom);(have hr1:¬ (p.1.length:Int)<60:=by omega);clear hh hroom hpl;(go_wp2_with fail);(go_quiet (fail));(go_wp2_with fail);(go_roundw);case rel=>
             refine⟨k+1,by omega,by go_num,?_,ag HB.out _⟩;rw[HSUC.out,HST.out];exact HT2.out.keep (ag (zac _ _) _)
            case measure=>simp[intOf];omega
        · obtain⟨hl,hkeq⟩:=(cF HOK.out.ord y.key).1 hh;have hpl:=mw HOK.out.ord y.key hl hkeq;obtain⟨g,cap,hv9,hg1,hg2,hg3⟩:=HT2.out.out.at_ (by omega);injection hv9 with e1 e2 e3;subst e1 e3;have hAB:=th HOK.out.ord hl hkeq;have hBE:=nQ HOK.out.ord hl hkeq;have hent:=(HT2.out.out.sl (by decide)).ent hl;obtain⟨i,hi⟩:∃i,lbE p.1 y.key=i:=⟨_,rfl⟩;(have hli:i<p.1.length:=by omega);simp only[hi]at hAB hBE hent;rw[zbb]at hent;obtain⟨g1,g2,g3,g4,how⟩:=hent;obtain⟨o,ho⟩:∃o,p.1[i]=o:=⟨_,rfl⟩;rw[ho]at g1 g2 g3 g4 hAB hBE;have HAB:=zaa hAB;have HBE:=zaa hBE;have i0:(0:Int)<=(i:Int):=zai _;(have i1:(i:Int)<(p.1.length:Int):=by omega);rw[hpl,hi];clear hh hl hkeq hAB hBE how ho hi e2 hpl;(go_wp2_with fail);refine gu 11 (by kernel_rfl) (by kernel_rfl) ?_;intro wd hwd;(have g1':wd.cell? ⟨g,i*4,none⟩=some (.string o.key):=by rw[hwd,zaY];exact g1);(have g2':wd.cell? ⟨g,i*4+1,none⟩=some (.int .i64 o.version):=by rw[hwd,zaY];exact g2);(have g3':wd.cell? ⟨g,i*4+2,none⟩=some (.int .i64 o.origin):=by rw[hwd,zaY];exact g3);(have g4':wd.cell? ⟨g,i*4+3,none⟩=some (.string o.value):=by rw[hwd,zaY];exact g4);(have hBd:Below w.heap.size w wd:=by rw[hwd];exact HB.out.drew);have hTd:=HT2.out.keep (show Below wr.heap.size wr wd by rw[hwd];exact(zac _ _).drew);obtain⟨f1',f2',f3',f4',_⟩:=HEY.out wd hBd;have HTD:=zaa hTd;have HBD:=zaa hBd;have HAV:=zaa (Au y o wd);unfold ab.val at HAV;clear hwd g1 g2 g3 g4 hTd hBd hg3 f1 f2 f3 f4;simp only[zbz,zcw,zbD,List.drop_zero];(iterate 11 still_step);refine wpStill_nil ?_;clear g1' g2' g3' g4' f1' f2' f3' f4';(go_wp2_with fail);refine HAV.out.mono ?_;rintro e w5 ⟨rfl,hb5⟩;have HT5:=zaa (HTD.out.keep hb5);have HB5:=zaa (HBD.out.trans (hb5.mono HBD.out.size));clear hb5;rcases hab:aH y o with _|_
          · have HBE2:=zaa (HBE.out hab);clear hab;(go_wp2_with fail);(go_roundw);case rel=>
             refine⟨k+1,by omega,by go_num,?_,HB5.out⟩;rw[HSUC.out,HBE2.out];exact HT5.out
            case measure=>simp[intOf];omega
          · have HST:=zaa (HAB.out hab);clear hab
            skip
            skip
            skip
            obtain⟨f1',f2',f3',f4',_⟩:=HEY.out _ HB5.out;(go_wp2_with fail);refine(HWE.out _ (HT5.out.out.sl (by decide))).mono ?_;rintro e w6 ⟨v6,rfl,ho6,hb6⟩;have HT6:=zaa (HT5.out.new ho6 hb6);have HB6:=zaa (HB5.out.trans (hb6.mono HB5.out.size));clear ho6 hb6 f1' f2' f3' f4';obtain⟨f1',f2',f3',f4',_⟩:=HEY.out _ HB6.out;(go_wp2_with (at_builtin;refine gK (base:=w.heap.size) rfl (.tmp 64) (.tmp 70) rfl (HT6.out.keys.alloc1 _) (nf HYW.out.1) rfl rfl HKL.out ?_;intro v8 w8 ho8 hg8));(go_roundw);case rel=>
             refine⟨k+1,by omega,by go_num,?_,gbO (HB6.out.alloc HB6.out.size _) (HT6.out.keys.alloc1 _) hg8⟩;rw[HSUC.out,HST.out];exact(HT6.out.keep ((zac _ _).alloc (zab _) _)).keys' ho8 hg8
            case measure=>simp[intOf];omega
      · (obtain rfl:k=ys.length:=by omega);clear htw hB;(go_wp2_with fail);(go_ret3);exact qJ HF.out HT.out HB.out
   · (have t2:(aj ys !=0)=true:=by simp[hc2]);have HF:=zaa (oO HC.out hc2);clear hc2;(go_wp2_with fail);(go_ret3);exact qJ HF.out (mZ hz2) HB2.out
 · (have t1:(aj xs==0)=false:=by simp[hc]);(have t2:(aj xs !=0)=true:=by simp[hc]);have HF:=zaa (oP (b:=ys) hc);clear hc;(go_wp2_with fail);(go_ret3);exact qJ HF.out (mZ hz1) HB1.out
end
section
open Go.RowKit Go.Sort
theorem un(v:Value)(xs:List af)(addr:Int)(w:World)(h:Sl aB w v xs):Calls Tryz.prog 88 #[v,.int .i64 addr] w (ec xs addr w):=by
 have hB0:Below w.heap.size w (w.alloc (.cells #[.int .i64 0,.int .i64 0,.bool false,.int .i64 0,.slice none 0 0] 130)):=(zac _ _).alloc (zab _) _;have H0:=zaa (h.below hB0);have hlen:=h.len_le;obtain⟨A,c,rfl⟩:=h.form;have H:=zaa h;clear h hB0;go_enter Tryz.func88,Tryz.ntmps88
 go_wp2_with fail
 refine(nM _ xs _ H0.out).mono ?_;rintro r w1 ⟨rfl,hb1⟩;obtain⟨hA,hN,hM,hS⟩:=aT hb1;have HA:=zaa hA;clear hA hb1 H0;by_cases hc:ah xs=0
 · (have t1:(ah xs !=0)=false:=by simp[hc]);(have t2:(ah xs==0)=true:=by simp[hc]);have hok:=fk hc;have hl2:=hok.1;have HOK:=zaa hok.2;have HC:=zaa hc;clear hok hc;by_cases ha:addr<0∨255<addr
   · have HL:=zaa (oS HC.out ha);have hfin:∀{w'},Below w.heap.size w w'->ec xs addr w (.returned (.tuple #[.agg #[.int .i64 0,.int .i64 0,.bool false,.int .i64 0,.slice none 0 0],.int .i64 2])) w':=fun hb=>fL HL.out (Sl.nil _ _) hb;have HF:=zaa (hfin (b5 HA.out (.int .i64 0) (.int .i64 0) (.bool false) (.int .i64 0) (.slice none 0 0)));clear hfin;rcases ha with ha|ha
     · (have q1:decide ((0:Int)<=addr)=false:=by rw[decide_eq_false_iff_not];omega);(go_wp2_with (go_at_call 36;refine(aU _ _ _ _).mono ?_;rintro e w' ⟨rfl,rfl⟩));exact bodyPost_ret (v:= .tuple #[.agg #[.int .i64 0,.int .i64 0,.bool false,.int .i64 0,.slice none 0 0],.int .i64 2]) (by simp[results,Tryz.results88,go_sem,hN,hS]) rfl HF.out
     · (have q1:decide ((0:Int)<=addr)=true:=by rw[decide_eq_true_iff];omega);(have q2:decide (addr<=(255:Int))=false:=by rw[decide_eq_false_iff_not];omega);(go_wp2_with (go_at_call 36;refine(aU _ _ _ _).mono ?_;rintro e w' ⟨rfl,rfl⟩));exact bodyPost_ret (v:= .tuple #[.agg #[.int .i64 0,.int .i64 0,.bool false,.int .i64 0,.slice none 0 0],.int .i64 2]) (by simp[results,Tryz.results88,go_sem,hN,hS]) rfl HF.out
   · (have a1:0<=addr:=by omega);(have a2:addr<=255:=by omega);(have q1:decide ((0:Int)<=addr)=true:=by rw[decide_eq_true_iff];omega);(have q2:decide (addr<=(255:Int))=true:=by rw[decide_eq_true_iff];omega);clear ha;(go_wp2_with (go_at_call 36;refine(aU _ _ _ _).mono ?_;rintro e w' ⟨rfl,rfl⟩));(go_loopw [7,8] (fun s7 _ wr=>∃n:Nat,n<=9/\s7= .int .i64 ((n:Int)-1)/\(∀i,(h:i<xs.length)->fv addr xs[i]=true->xs[i].pre.bits<(n:Int))/\Below w1.heap.size w1 wr) (fun s7 _ _=>(intOf s7+1).toNat));(case atStart=>exact⟨9,zab _,rfl,fun i h _=>by have:=eH (dy (HOK.out i h)).1;omega,zac _ _⟩);case round=>
      obtain⟨wo,rfl⟩:∃wo:World,wo=wr:=⟨_,rfl⟩;obtain⟨n,hn,rfl,hlow,hB⟩:=hrel;have hez:=hB.size;have HLOW:=zaa hlow;have HB:=zaa hB;have HBW:=zaa (HA.out.trans (hB.mono HA.out.size));have hNr:∀i,wo.cell? ⟨w.heap.size,i,none⟩= #[Value.int .i64 0,.int .i64 0,.bool false,.int .i64 0,.slice none 0 0][i]? :=fun i=>(bAt hB hS i).trans (hN i);have hMr:∀i,wo.frozen? ⟨w.heap.size,i,none⟩=false:=fun i=>(bFz hB hS i).trans (hM i);have hSr:w.heap.size<wo.heap.size:=zas hS hez;clear hB hN hM hlow;rcases zaG n with h0|h0
      · subst h0;have hno:cW xs addr xs.length=none:=DD xs addr _ fun i hi=>by
         (have e:xs.getD i bW=xs[i]:=by simp[List.getD,hi]);rw[e,Bool.eq_false_iff];intro hm;have h1:=HLOW.out i hi hm;have h2:=(eH (dy (HOK.out i hi)).1).1;omega
        have HL:=zaa (qM HC.out ⟨a1,a2⟩ hno);have hfin:∀{w'},Below w.heap.size w w'->ec xs addr w (.returned (.tuple #[.agg #[.int .i64 0,.int .i64 0,.bool false,.int .i64 0,.slice none 0 0],.int .i64 6])) w':=fun hb=>fL HL.out (Sl.nil _ _) hb;have HF:=zaa (hfin (b5 HBW.out (.int .i64 0) (.int .i64 0) (.bool false) (.int .i64 0) (.slice none 0 0)));clear hfin hno;(go_wp2_with fail);exact bodyPost_ret (v:= .tuple #[.agg #[.int .i64 0,.int .i64 0,.bool false,.int .i64 0,.slice none 0 0],.int .i64 6]) (by simp[results,Tryz.results88,go_sem,hNr,hSr]) rfl HF.out
      · obtain⟨m,rfl⟩:∃m,n=m+1:=⟨n-1,by omega⟩;(have e1:(((m+1:Nat):Int)-1)=(m:Int):=by omega);rw[e1];clear e1;(go_wp2_with fail);(go_loopw [8] (fun s8 wr=>∃j:Nat,j<=xs.length/\s8= .int .i64 j/\(∀i,(h:i<xs.length)->i<j->fv addr xs[i]=true->xs[i].pre.bits≠(m:Int))/\Below wo.heap.size wo wr) (fun s8 _=>xs.length-(intOf s8).toNat));(case atStart=>exact⟨0,zap _,rfl,fun i _ hi=>absurd hi (by omega),zac _ _⟩);case round=>
         obtain⟨j,hj,rfl,hnot,hB2⟩:=hrel;have HNOT:=zaa hnot;have HB2:=zaa hB2;have HBW2:=zaa (HBW.out.trans (hB2.mono HBW.out.size));have hNs:∀i,wr.cell? ⟨w.heap.size,i,none⟩= #[Value.int .i64 0,.int .i64 0,.bool false,.int .i64 0,.slice none 0 0][i]? :=fun i=>(bAt hB2 hSr i).trans (hNr i);have hMs:∀i,wr.frozen? ⟨w.heap.size,i,none⟩=false:=fun i=>(bFz hB2 hSr i).trans (hMr i);have hSs:w.heap.size<wr.heap.size:=zas hSr hB2.size;clear hB2 hNr hMr hnot;by_cases hlt:j<xs.length
         · obtain⟨b,off,rfl,hb⟩:=H.out.at_ hlt;obtain⟨hv,f1,f2,f3,f4,f5,hsl,hwf⟩:=(SlR.keep (S':=fun k=>k<w.heap.size) H.out HBW2.out.block (fun _ h=>h)).route hlt;obtain⟨A2,c2,rfl⟩:=hsl.form;have HSL:=zaa hsl;have r0:(0:Int)<=(j:Int):=zai _;(have r1:(j:Int)<(xs.length:Int):=by omega);have hspn:=qm (m:Int) (by omega) (by omega);have htm:addr.tmod (b7 (m:Int))=addr%b7 (m:Int):=zby a1;have hem:=Int.emod_lt_of_pos addr (show 0<b7 (m:Int)by omega);have hem0:=Int.emod_nonneg addr (show b7 (m:Int)≠0 by omega);(have hws:IntKind.i64.wrap (addr-addr%b7 (m:Int))=addr-addr%b7 (m:Int):=by rw[IntKind.wrap_i64];omega);(have hnz:¬ b7 (m:Int)=0:=by omega);clear hsl hwf hem hem0;by_cases hbb:xs[j].pre.bits=(m:Int)
           · (have u1:(xs[j].pre.bits==(m:Int))=true:=by simp[hbb]);have HBB:=zaa hbb;rcases hmm:fv addr xs[j]with _|_
             · have hm:(xs[j].pre.addr==addr-addr%b7 (m:Int))=false:=by
                have:(addr-addr%b7 xs[j].pre.bits==xs[j].pre.addr)=false:=hmm;rw[hbb]at this;rw[beq_eq_false_iff_ne]at this⊢;exact fun e=>this e.symm
               have HMM:=zaa hmm;clear hmm hbb;(go_wp2_with fail);(go_quiet ((go_at_call 72;exact zbO (kN _ _ (by omega) (by omega)))));(go_wp2_with fail);(go_roundw);case rel=>
                refine⟨j+1,by omega,by go_num,fun i hi hij hmi=> ?_,ag HB2.out _⟩;by_cases e:i=j
                · subst e;rw[HMM.out]at hmi;cases hmi
                · exact HNOT.out i hi (by omega) hmi
               case measure=>simp[intOf];omega
             · have hm:(xs[j].pre.addr==addr-addr%b7 (m:Int))=true:=by
                have:(addr-addr%b7 xs[j].pre.bits==xs[j].pre.addr)=true:=hmm;rw[hbb]at this;rw[beq_iff_eq]at this⊢;exact this.symm
               (have hgj:xs.getD j bW=xs[j]:=by simp[List.getD,hlt]);have hbest:cW xs addr xs.length=some j:=DE xs addr _ j hlt (by rw[hgj];exact hmm) fun i hi hmi=>by
                (have e:xs.getD i bW=xs[i]:=by simp[List.getD,hi]);rw[e]at hmi⊢;rw[hgj,hbb];have h1:=HLOW.out i hi hmi;by_cases e2:xs[i].pre.bits=(m:Int)
                · right;refine⟨e2,?_⟩;rcases zbF i j with h3|h3
                  · exact absurd e2 (HNOT.out i hi h3 hmi)
                  · exact h3
                · left;omega
               have HL:=zaa (qL HC.out ⟨a1,a2⟩ hbest hlt);clear hmm hbb hbest hgj;(go_wp2_with fail);(go_quiet ((go_at_call 72;exact zbO (kN _ _ (by omega) (by omega)))));(go_wp2_with fail);exact bodyPost_ret (v:= .tuple #[.agg #[.int .i64 xs[j].pre.addr,.int .i64 xs[j].pre.bits,.bool xs[j].here,.int .i64 xs[j].cost,.slice A2 xs[j].hops.length c2],.int .i64 0]) (by simp[results,Tryz.results88,go_sem,hNs,hSs]) rfl
                (fL HL.out (Sl.five (B:=w.heap.size) (SlR.keep HSL.out (fun _ _=>rfl) (fun k hk=>⟨Nat.lt_trans hk hSs,by omega⟩)) _ _ _ _ _) (b5 (ag HBW2.out _) _ _ _ _ _))
           · (have u1:(xs[j].pre.bits==(m:Int))=false:=by simp[hbb]);have HBB:=zaa hbb;clear hbb;(go_wp2_with fail);(go_quiet (fail));(go_wp2_with fail);(go_roundw);case rel=>
              refine⟨j+1,by omega,by go_num,fun i hi hij hmi=> ?_,ag HB2.out _⟩;by_cases e:i=j
              · subst e;exact HBB.out
              · exact HNOT.out i hi (by omega) hmi
             case measure=>simp[intOf];omega
         · (go_wp2_with fail);(go_roundw);case rel=>
            refine⟨m,by omega,by go_num,fun i hi hmi=> ?_,HB.out.trans (HB2.out.mono hez)⟩;have h1:=HLOW.out i hi hmi;have h2:=HNOT.out i hi (by omega) hmi;omega
           case measure=>simp[intOf]<;>omega
 · (have t1:(ah xs !=0)=true:=by simp[hc]);(have t2:(ah xs==0)=false:=by simp[hc]);have HL:=zaa (tY (addr:=addr) hc);have hfin:∀{w'},Below w.heap.size w w'->ec xs addr w (.returned (.tuple #[.agg #[.int .i64 0,.int .i64 0,.bool false,.int .i64 0,.slice none 0 0],.int .i64 (ah xs)])) w':=fun hb=>fL HL.out (Sl.nil _ _) hb;have HF:=zaa (hfin (b5 HA.out (.int .i64 0) (.int .i64 0) (.bool false) (.int .i64 0) (.slice none 0 0)));clear hc hfin;(go_wp2_with fail);exact bodyPost_ret (v:= .tuple #[.agg #[.int .i64 0,.int .i64 0,.bool false,.int .i64 0,.slice none 0 0],.int .i64 (ah xs)]) (by simp[results,Tryz.results88,go_sem,hN,hS]) rfl HF.out
end
section
open Go Go.RowKit Go.Deep
def CK(r:List Int × Int × Int)(w:World)(e:Ending)(w':World):Prop:=
 ∃vp,e= .returned (.tuple #[vp,.int .i64 r.2.1,.int .i64 r.2.2])/\SlF aI w.heap.size w' vp r.1/\Below w.heap.size w w'
theorem nE{r:List Int × Int × Int}{p:List Int}{c n:Int}(hr:r=(p,c,n)){w w':World}{vp:Value}(h1:SlF aI w.heap.size w' vp p)(h3:Below w.heap.size w w'):
 CK r w (.returned (.tuple #[vp,.int .i64 c,.int .i64 n])) w':=⟨vp,by rw[hr],by rw[hr];exact h1,h3⟩
theorem vv{X:Nat->Prop}(vs:List Value)(a:Nat)(addr pick:Int)(x:Net)(w:World)(h:bZ X w vs x)(ha:a<12)(hx:bg x)(hadd:inR addr)(hpk:inR pick):
  Calls Tryz.prog 49 #[.agg vs.toArray,.int .i64 (a:Nat),.int .i64 addr,.int .i64 pick] w (CK (du x a addr pick) w):=by
 have HM:=zaa h;have hal:=(zac w.heap.size w).alloc (zab _) (.cells vs.toArray 51);have HAL:=zaa hal;have HBV:=zaa (bM.box w vs 51 _ rfl);have HSZ:=zaa (show(w.alloc (.cells vs.toArray 51)).heap.size=w.heap.size+1 by simp);have HX:=zaa hx;have ha0:(0:Int)<=(a:Int):=zai a;have ha1:(a:Int)<12:=by omega
 have HA12:=zaa ha;by_cases hp:pick<0
 · have HL:=zaa (show du x a addr pick=([],0,2)by unfold du;rw[if_pos hp]);clear h hx hal;(go_enter Tryz.func49,Tryz.ntmps49);(go_wp2_with fail);(go_ret3);exact nE HL.out (SlF.nil _ _ _) HAL.out
 · obtain⟨p,rfl⟩:∃p:Nat,pick=p:=⟨pick.toNat,by omega⟩;have HL:=zaa (show du x a addr p=dQ x addr p 13 [(a:Int)] 0 a by unfold du;rw[if_neg hp];rfl);have hp0:(0:Int)<=(p:Int):=zai p;unfold inR at hpk;clear h hx hal;(go_enter Tryz.func49,Tryz.ntmps49);(go_wp2_with fail);obtain⟨W,hW⟩:∃x,x=(w.alloc (.cells vs.toArray 51)).alloc (.cells #[.int .i64 (a:Int)] 3):=⟨_,rfl⟩;obtain⟨NB,hNB⟩:∃B,B=w.heap.size:=⟨_,rfl⟩;have HOW:=zaa (show OwR aI 3 (NB+1) W (.slice (some ⟨NB+1,0,none⟩) 1 1) [(a:Int)]by rw[hW,hNB];exact ye (by unfold inR;omega) (by simp) (by simp));have HBW:=zaa (show Below (NB+1) W W from zac _ _);have HWZ:=zaa (show Below w.heap.size w W by rw[hW];exact HAL.out.alloc HAL.out.size _);have HBV2:=zaa (show bM W NB vs by rw[hW,hNB];exact HBV.out.below ((zac _ _).alloc (zab _) _));have HWS:=zaa (show W.heap.size=NB+2 by rw[hW,hNB];simp);rw[<-hW,<-hNB];have HNB:=zaa hNB;have HVB:=zaa (fun w' (hb:Below (NB+1) W w')=>(⟨fun i v hv=>(hb.cell (p:=⟨NB,i,none⟩) (zbt NB)).trans (HBV2.out.cell i v hv),fun o=>(hb.frozen (p:=⟨NB,o,none⟩) (zbt NB)).trans (HBV2.out.fz o),zas HBV2.out.lt hb.size⟩:bM w' NB vs));have HWB:=zaa (fun w' (hb:Below (NB+1) W w')=>(HWZ.out.trans (hb.mono (by rw[<-hNB];omega)):Below w.heap.size w w'));clear hW hNB HBV HBV2 HSZ HWZ;go_loopw [1,11,12,13,14,15] (fun s1 s11 s12 _ _ _ wr=>∃(b f:Nat) (path:List Int) (cost:Int),s1= .int .i64 b/\b<12/\s12= .int .i64 cost/\0<=cost/\cost<=1000*(path.length:Int)/\path.length+f=13/\1<=path.length/\OwR aI 3 (NB+1) wr s11 path/\Below (NB+1) W wr/\
    du x a addr p=dQ x addr p (f+1) path cost b) (fun _ s11 _ _ _ _ _=>14-slN s11)
   (case atStart=>exact⟨a,12,[(a:Int)],0,rfl,HA12.out,rfl,zbZ _,by simp,rfl,by simp,HOW.out,HBW.out,HL.out⟩);case round=>
    obtain⟨b,f,path,cost,rfl,hb12,rfl,hc0,hc1,hpf,hp1,ho,hb,hw⟩:=hrel;obtain⟨A1,n1,c1,rfl⟩:=ap ho (by decide);(have hn1:n1=path.length:=by obtain⟨A,c,e⟩:=(ho.sl (by decide)).form;injection e);subst hn1;have HO:=zaa ho;have HB:=zaa hb;have HW:=zaa hw;have HB12:=zaa hb12;have hb0:(0:Int)<=(b:Int):=zai b;(have hb1:(b:Int)<12:=by omega);obtain⟨vt,t0,q0⟩:=HM.out.tb b hb12;have htb:=(HX.out.nd b hb12).tb;have t1:=(HVB.out _ hb).cell _ _ t0;have HTB:=zaa htb;have HLK:=zaa (un vt (x.nd b).tb addr wr (q0.sl.below (HWB.out _ hb)));(obtain⟨At,nt,ct,rfl⟩:∃A n c,vt= .slice A n c:=by obtain⟨A,c,e,_⟩:=q0;exact⟨A,_,c,e⟩);obtain⟨r,n,hr⟩:∃r n,bX (x.nd b).tb addr=(r,n):=⟨_,_,rfl⟩;have HR:=zaa hr;unfold ec at HLK;rw[hr]at HLK;have HBS:=zaa (show NB+1<=wr.heap.size by have:=hb.size;have:=HWS.out;omega);clear ho hb hw q0 htb t0 hr;(go_wp2_with fail);refine HLK.out.mono ?_;rintro e w1 ⟨vh,rfl,hs1,hbl⟩;have HB1:=zaa (HB.out.trans (hbl.mono HBS.out));have HO1:=zaa (HO.out.keep hbl);have HZ1:=zaa (zax HBS.out hbl.size);obtain⟨Ah,ch,rfl⟩:=hs1.form;have HS1:=zaa hs1;clear hbl hs1 t1;by_cases hn:n=0
    · subst hn;cases hh:r.here with
      | true=>
        have HE:=zaa (HW.out.trans (qi HR.out hh));(go_wp2_with fail);(go_ret3);exact nE HE.out (((HO1.out.slG (by decide) (fun _ _ _ _ h=>h)).below ((zac _ _).alloc (zab _) _)).mono (by have:=HNB.out;omega)) (HWB.out _ (HB1.out.alloc HZ1.out _))
      | false=>
        by_cases hl13:12<path.length
        · have HE:=zaa (HW.out.trans (qh HR.out hh hl13));(go_wp2_with fail);(go_ret3);exact nE HE.out (SlF.nil _ _ _) (HWB.out _ (HB1.out.alloc HZ1.out _))
        · obtain⟨hp2,hp3,hp4⟩:=qN HTB.out HR.out hh;obtain⟨i,hi,hil⟩:∃i:Nat,i=p%r.hops.length/\i<r.hops.length:=⟨_,rfl,Nat.mod_lt _ hp2⟩;obtain⟨y,hy,hy12⟩:∃y:Nat,r.hops[i]=(y:Int)/\y<12:=⟨r.hops[i].toNat,by have:=hp4 i hil;omega,by have:=hp4 i hil;omega⟩;obtain⟨bh,oh,hAh,hbh⟩:=HS1.out.at_ hil;subst hAh;have fh:=(HS1.out.int hil).1;rw[hy]at fh;have hrem:(p:Int).tmod (r.hops.length:Int)=(i:Int):=by
           rw[hi,zby hp0,Int.natCast_emod]
          (have hlz:¬ (r.hops.length:Int)=0:=by omega);(have hii:(i:Int)<(r.hops.length:Int):=by omega);have hi0:(0:Int)<=(i:Int):=zai i;have hy0:(0:Int)<=(y:Int):=zai y;(have hy1:(y:Int)<12:=by omega);(have hl14:¬ (12:Int)<(path.length:Int):=by omega);have co1:=(HVB.out _ HB1.out).cell _ _ (HM.out.co b y HB12.out hy12);have cb:=HX.out.co b y;have hal:=(zac w1.heap.size w1).alloc (zab _) (.cells #[.int .i64 r.pre.addr,.int .i64 r.pre.bits,.bool false,.int .i64 r.cost,.slice (some ⟨bh,oh,none⟩) r.hops.length ch] 130);(have b4:(w1.alloc (.cells #[.int .i64 r.pre.addr,.int .i64 r.pre.bits,.bool false,.int .i64 r.cost,.slice (some ⟨bh,oh,none⟩) r.hops.length ch] 130)).cell? ⟨w1.heap.size,4,none⟩=some (.slice (some ⟨bh,oh,none⟩) r.hops.length ch):=by rw[zah _ _ _ _ rfl];rfl);have fh2:=aa hal fh;have HAL1:=zaa hal;have HO2:=zaa (HO1.out.keep hal);have HB2:=zaa (HB1.out.trans (hal.mono HZ1.out));have HZ2:=zaa (zax HZ1.out hal.size);by_cases hc:x.co b y=0
          · have HE:=zaa (HW.out.trans (sO HR.out hh hl13 hi hil hy hc));rw[hc]at co1;have co2:=aa hal co1;clear hal hi hil hp4 hc hp2 hp3 hy fh cb;(go_wp2_with fail);(go_quiet (fail));obtain⟨q1,rfl⟩:∃m,m=nq:=⟨nq,rfl⟩;(go_wp2_with fail);(go_ret3);exact nE HE.out (SlF.nil _ _ _) (HWB.out _ (ag HB2.out q1))
          · have HE:=zaa (HW.out.trans (qg (f:=f) HR.out hh hl13 hi hil hy hc));(have hcb:(x.co b y==0)=false:=by rw[beq_eq_false_iff_ne];exact hc);have co2:=aa hal co1;obtain⟨z,hz⟩:∃z,x.co b y=z:=⟨_,rfl⟩;rw[hz]at co1 co2 cb hcb HE;have hz0:=cb.1;have hz1:=cb.2;have HIY:=zaa (show inR (y:Int)by unfold inR;omega);have HPL:=zaa (show path.length<=1000000 by omega);clear hal hi hil hp4 hc hp2 hp3 hy fh cb hz;(go_wp2_with fail);(go_quiet (fail));obtain⟨q1,rfl⟩:∃m,m=nq:=⟨nq,rfl⟩;(go_wp2_with (at_builtin;refine fF (base:=NB+1) (y:=(y:Int)) (cs:=[.int .i64 (y:Int)]) (S:=fun _=>False) fD rfl (.tmp 63) (.tmp 65) rfl (HO2.out.keep (ag (zac _ _) q1)) ⟨rfl,HIY.out⟩ (fun _ h=>h.elim) rfl rfl (by first|rfl|simp) HPL.out (by decide) ?_;intro v5 w5 ho5 hg5;obtain⟨A5,c5,e5⟩:=Sl.form (ho5.sl (by decide));subst e5));(go_roundw);case rel=>
             refine⟨y,f-1,path++[(y:Int)],cost+z,by go_num,by omega,by go_num,by omega,by simp;omega,by simp;omega,by simp,(by have h9:=ho5;rw[zaq]at h9;exact h9),?_,?_⟩
             · exact(au (HO2.out.keep (ag (zac _ _) q1)) _).below_grown ((ag HB2.out q1).alloc HZ2.out _) hg5.grown
             · rw[HE.out];congr 1;omega
            case measure=>simp only[slN,zaq,zaD,zaW];omega
    · (have hnb:(n !=0)=true:=by simpa using hn);have HE:=zaa (HW.out.trans (xE HR.out hn));(go_wp2_with fail);(go_ret3);exact nE HE.out (SlF.nil _ _ _) (HWB.out _ (HB1.out.alloc HZ1.out _))
end
end Go.Proofs.YtojojpjldkpmoaaGreatDoor
