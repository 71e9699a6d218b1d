/-
  
-/
import Derived.Test.YtojojpjldkpmoaaGreatDoorGDeB
import Derived.Test.YtojojpjldkpmoaaGreatDoorGStP
set_option linter.unusedVariables false
set_option linter.unusedSimpArgs false
set_option maxHeartbeats 16000000
set_option maxRecDepth 100000
namespace Go.Proofs.YtojojpjldkpmoaaGreatDoor
section
open Go.RowKit Go.Deep
def mQ(s s':RSt)(i m:Nat):Prop:=
 (s'.2=0/\s.2=0/\ku s.1=fp i m s'.1/\i<=7/\m<128^i)∨(s'.2≠0/\(s.2≠0->s'.2=s.2)/\(s.2=0->ku s.1= .error s'.2)/\i<=8)
theorem mQ.off{s s':RSt}{i m:Nat}(h:mQ s s' i m)(h0:s'.2≠0)(a:Int):Stp ku s a s':=by
 rcases h with⟨h1,_⟩|⟨_,h2,h3,_⟩
 · exact absurd h1 h0
 · by_cases hs:s.2=0
   · exact .err hs (h3 hs) rfl
   · exact .off hs (h2 hs)
theorem nc(i:Nat)(h:i<=7):128^i<=562949953421312:=by
 have:128^i<=128^7:=Nat.pow_le_pow_right (by omega) h;simpa using this
theorem vJ(m c i:Nat)(hm:m<128^i)(hi:i<=7):bits .or .i64 (m:Int) ((c%128*128^i:Nat):Int)=((m+c%128*128^i:Nat):Int):=by
 have hp:=nc i hi;have h1:c%128*128^i<=127*562949953421312:=zcv (by omega) hp;rw[jS m _ (by omega) (by omega)];congr 1;have e:128^i=2^(7*i):=by rw[Nat.pow_mul]
 rw[e]at hm⊢;rw[Nat.or_comm,l6 m (c%128) (7*i) hm,Nat.add_comm]
theorem Ev(c:Nat)(h:c<9223372036854775808):bits .and .i64 (c:Int) 127=((c%128:Nat):Int):=by
 rw[show(127:Int)=((127:Nat):Int)from rfl,ug c 127 h (by omega),show 127=2^7-1 from rfl,Nat.and_two_pow_sub_one_eq_mod]
theorem qn(m c i:Nat)(hm:m<128^i)(hi:i<=7)(hc:c<=255):bits .or .i64 (m:Int) (wrap64 (bits .and .i64 (c:Int) 127*2^(7*i)))=((m+c%128*128^i:Nat):Int):=by
 have hp:=nc i hi;have h1:c%128*128^i<=127*562949953421312:=zcv (by omega) hp;have e:bits .and .i64 (c:Int) 127*2^(7*i)=((c%128*128^i:Nat):Int):=by
  have e1:128^i=2^(7*i):=by rw[Nat.pow_mul]
  rw[e1,Ev c (by omega)]
  push_cast
  rfl
 have hw:wrap64 ((c%128*128^i:Nat):Int)=((c%128*128^i:Nat):Int):=by
  unfold wrap64;omega
 rw[e,hw,vJ m c i hm hi]
theorem oI(i n:Nat):fp i n []= .error 5:=rfl
theorem mz(i n:Nat)(c:UInt8)(r:List UInt8):fp i n (c::r)=if i=7∨(0<i/\c.toNat=0)then .error 4 else
 if c.toNat<128 then .ok (((n+c.toNat%128*128^i:Nat):Int),r)else fp (i+1) (n+c.toNat%128*128^i) r:=by rw[fp]
theorem Bc(w:World)(g:Nat)(s:RSt)(h:gl w g s):
  Calls Tryz.prog 99 #[.pointer (some ⟨g,0,none⟩)] w (xD ku (Value.int .i64) (fun a=>0<=a/\a<9223372036854775808) w g s):=by
 have HR:=zaa h;have hst:mQ s s 0 0:=by
  by_cases hs:s.2=0
  · exact .inl ⟨hs,hs,rfl,by omega,by decide⟩
  · exact .inr ⟨hs,fun _=>rfl,fun h=>absurd h hs,by omega⟩
 have HST:=zaa hst;clear h hst;go_enter Tryz.func99,Tryz.ntmps99
 go_wp2_with fail
 go_loopw [3,4,5] (fun s3 s4 _ wr=>∃(m i:Nat) (s':RSt),s3= .int .i64 m/\s4= .int .i64 i/\m<9223372036854775808/\mQ s s' i m/\gl wr g s'/\w.grownBy wr (some g)/\s'.1.length<=s.1.length) (fun _ s4 _ _=>9-(intOf s4).toNat)
 case atStart=>exact⟨0,0,s,rfl,rfl,by omega,HST.out,HR.out,zaV _ _,zab _⟩
 case round=>
  obtain⟨m,i,s',rfl,rfl,hm,hna,hrd,hgr,hle⟩:=hrel;have HRD:=zaa hrd;have HGR:=zaa hgr;have HNA:=zaa hna;obtain⟨A,c,hg,f0,f1,f2,hs,hl,hc1,hc2⟩:=hrd.open;clear hrd hgr hs;by_cases he:s'.2=0
  · rcases hna with⟨_,hs0,hpn,hi7,hmi⟩|⟨hx,_⟩
    · have HS0:=zaa hs0;have HPN:=zaa hpn;have HBY:=zaa (jK wr g s' HRD.out);have HE:=zaa he;rw[he]at f1;clear hs0 hpn he;(go_wp2_with fail);refine HBY.out.mono ?_;rintro e w1 ⟨a,s1,rfl,hst,ha,hr1,hg1,hl1⟩;obtain⟨cn,rfl⟩:=zaZ ha.1;(have hcn:cn<=255:=by omega);clear f0 f1 f2 hc1 hc2 hl hg ha;have HR1:=zaa hr1;have HG1:=zaa (HGR.out.trans hg1);obtain⟨A1,c1,hg,f0,f1,f2,hs,hl,hc1,hc2⟩:=hr1.open;clear hr1 hg1 hs;have hp7:=nc i hi7;have hmul:cn%128*128^i<=127*562949953421312:=zcv (by omega) hp7;rcases hp:bJ s'.1 with e|⟨c0,r⟩
      · have h5:=(hst.2 HE.out).2 e hp;(have hne:s1.2≠0:=by rw[h5];exact fq hp);(have t1:(s1.2==0)=false:=by simpa using hne);have HN:=zaa (show ku s.1= .error s1.2 by
         rw[HPN.out,h5];cases hq:s'.1 with
         | nil=>rw[hq]at hp;rw[oI];simpa [bJ]using hp
         | cons c0 r=>rw[hq]at hp;simp[bJ]at hp)
        clear hst hp h5;have hval:=qn m cn i hmi hi7 hcn;have HV:=zaa hval;have HNA2:=zaa (show∀m',mQ s s1 (i+1) m' from fun m'=> .inr ⟨hne,fun h=>absurd HS0.out h,fun _=>HN.out,by omega⟩);clear hval;go_wp2_with fail
        · (go_ret);exact⟨((m+cn%128*128^i:Nat):Int),s1,ei HV.out,(HNA2.out m).off hne _,by omega,HR1.out,HG1.out,by omega⟩
        · exact⟨⟨m+cn%128*128^i,i+1,s1,by rw[HV.out],by go_num,by omega,HNA2.out _,HR1.out,HG1.out,by omega⟩,by simp[intOf];omega⟩
      · obtain⟨rfl,rfl⟩:=(hst.2 HE.out).1 _ _ hp;obtain⟨x,hx⟩:∃x:UInt8,s'.1=x::r/\cn=x.toNat:=by
         cases hq:s'.1 with
         | nil=>rw[hq]at hp;simp[bJ]at hp
         | cons x r'=>
           rw[hq]at hp;simp only[bJ,Except.ok.injEq,Prod.mk.injEq]at hp;exact⟨x,by rw[hp.2],by omega⟩
        have hstep:=mz i m x r;rw[<-hx.1,<-HPN.out,<-hx.2]at hstep;have HSTEP:=zaa hstep;have hval:=qn m cn i hmi hi7 hcn;have HV:=zaa hval;simp only at f0 f1 hl hc1 hl1;clear hval hst hp hx hstep;by_cases hbad:i=7∨(0<i/\cn=0)
        · obtain⟨h1,h2⟩:=HR1.out.err 4;have H1:=zaa h1;have H2:=zaa h2;have HN:=zaa (show ku s.1= .error 4 by rw[HSTEP.out,if_pos hbad]);have HNA2:=zaa (show∀m',mQ s (r,(4:Int)) (i+1) m' from fun m'=> .inr ⟨by simp,fun h=>absurd HS0.out h,fun _=>HN.out,by omega⟩);clear h1 h2;have HI7:=zaa hi7;by_cases h7:i=7
          · (have t7:((i:Int)==7)=true:=by simp;omega);clear hbad h7;go_wp2_with fail
            · (go_ret);exact⟨((m+cn%128*128^i:Nat):Int),(r,4),ei HV.out,(HNA2.out m).off (by simp) _,by omega,H1.out,HG1.out.trans H2.out,by simp only;omega⟩
            · exact⟨⟨m+cn%128*128^i,i+1,(r,4),by rw[HV.out],by go_num,by omega,HNA2.out _,H1.out,HG1.out.trans H2.out,by simp only;omega⟩,by simp[intOf];omega⟩
          · (have t7:((i:Int)==7)=false:=by simp;omega);(have h0:(0:Int)<(i:Int):=by omega);(have t8:((cn:Int)==0)=true:=by simp;omega);clear hbad h7;go_wp2_with fail
            · (go_ret);exact⟨((m+cn%128*128^i:Nat):Int),(r,4),ei HV.out,(HNA2.out m).off (by simp) _,by omega,H1.out,HG1.out.trans H2.out,by simp only;omega⟩
            · exact⟨⟨m+cn%128*128^i,i+1,(r,4),by rw[HV.out],by go_num,by omega,HNA2.out _,H1.out,HG1.out.trans H2.out,by simp only;omega⟩,by simp[intOf];omega⟩
        · have HG:=zaa hbad;(have t7:((i:Int)==7)=false:=by simp;omega);by_cases h0:0<i
          · (have h0':(0:Int)<(i:Int):=by omega);(have t8:((cn:Int)==0)=false:=by simp;omega);clear hbad h0;go_wp2_with fail
            · have hc:=‹(cn:Int)<128›;(go_ret);exact⟨((m+cn%128*128^i:Nat):Int),(r,0),ei HV.out,.ok HS0.out (by rw[HSTEP.out,if_neg HG.out,if_pos (by omega)]),by omega,HR1.out,HG1.out,by simp only;omega⟩
            · have hc:=‹128<=(cn:Int)›;refine⟨⟨m+cn%128*128^i,i+1,(r,0),by rw[HV.out],by go_num,by omega,.inl ⟨rfl,HS0.out,by rw[HSTEP.out,if_neg HG.out,if_neg (by omega)],?_,?_⟩,HR1.out,HG1.out,by simp only;omega⟩,by simp[intOf];omega⟩
              · have:=HG.out;omega
              · rw[Nat.pow_succ];have h1:cn%128*128^i<=127*128^i:=zcd _ (by omega);omega
          · (have h0':¬ (0:Int)<(i:Int):=by omega);clear hbad h0;go_wp2_with fail
            · have hc:=‹(cn:Int)<128›;(go_ret);exact⟨((m+cn%128*128^i:Nat):Int),(r,0),ei HV.out,.ok HS0.out (by rw[HSTEP.out,if_neg HG.out,if_pos (by omega)]),by omega,HR1.out,HG1.out,by simp only;omega⟩
            · have hc:=‹128<=(cn:Int)›;refine⟨⟨m+cn%128*128^i,i+1,(r,0),by rw[HV.out],by go_num,by omega,.inl ⟨rfl,HS0.out,by rw[HSTEP.out,if_neg HG.out,if_neg (by omega)],?_,?_⟩,HR1.out,HG1.out,by simp only;omega⟩,by simp[intOf];omega⟩
              · have:=HG.out;omega
              · rw[Nat.pow_succ];have h1:cn%128*128^i<=127*128^i:=zcd _ (by omega);omega
    · exact absurd he hx
  · (have t1:(s'.2==0)=false:=by simpa using he);have HE:=zaa he;clear he hna;(go_wp2_with fail);(go_ret);exact⟨(m:Int),s',rfl,HNA.out.off HE.out _,by omega,HRD.out,HGR.out,hle⟩
theorem Stp.keeps{α:Type}{p:List UInt8->Except Int (α × List UInt8)}{s s':RSt}{a:α}(h:Stp p s a s')(h0:s'.2=0):s.2=0:=by
 rcases zct s.2 0 with c|c|c
 · have:=h.1 (by omega);omega
 · exact c
 · have:=h.1 (by omega);omega
theorem Stp.entry{s s1 s2 s3 s4:RSt}{a x:ByteArray}{v o:Int}(h1:Stp eK s a s1)(h2:Stp ku s1 v s2)(h3:Stp bJ s2 o s3)(h4:Stp eK s3 x s4):Stp gC s ⟨a,v,o,x⟩ s4:=by
 refine⟨fun h0=> ?_,fun h0=> ?_⟩
 · have e1:=h1.1 h0;have e2:=h2.1 (by rw[e1];exact h0);have e3:=h3.1 (by rw[e2,e1];exact h0);have e4:=h4.1 (by rw[e3,e2,e1];exact h0);rw[e4,e3,e2,e1]
 · unfold gC;rcases p1:eK s.1 with e|⟨y1,r1⟩
   · have e1:=(h1.2 h0).2 e p1;have hne:=lY p1;have e2:=h2.1 (by rw[e1];exact hne);have e3:=h3.1 (by rw[e2,e1];exact hne);have e4:=h4.1 (by rw[e3,e2,e1];exact hne);exact⟨fun z r hz=>by simp at hz,fun e' he=>by simp at he;rw[e4,e3,e2,e1,he]⟩
   obtain⟨rfl,rfl⟩:=(h1.2 h0).1 y1 r1 p1;simp only;rcases p2:ku r1 with e|⟨y2,r2⟩
   · have e2:=(h2.2 rfl).2 e p2;have hne:=kt _ _ _ _ p2;have e3:=h3.1 (by rw[e2];exact hne);have e4:=h4.1 (by rw[e3,e2];exact hne);exact⟨fun z r hz=>by simp at hz,fun e' he=>by simp at he;rw[e4,e3,e2,he]⟩
   obtain⟨rfl,rfl⟩:=(h2.2 rfl).1 y2 r2 p2;simp only;rcases p3:bJ r2 with e|⟨y3,r3⟩
   · have e3:=(h3.2 rfl).2 e p3;have hne:=fq p3;have e4:=h4.1 (by rw[e3];exact hne);exact⟨fun z r hz=>by simp at hz,fun e' he=>by simp at he;rw[e4,e3,he]⟩
   obtain⟨rfl,rfl⟩:=(h3.2 rfl).1 y3 r3 p3;simp only;rcases p4:eK r3 with e|⟨y4,r4⟩
   · have e4:=(h4.2 rfl).2 e p4;exact⟨fun z r hz=>by simp at hz,fun e' he=>by simp at he;rw[e4,he]⟩
   obtain⟨rfl,rfl⟩:=(h4.2 rfl).1 y4 r4 p4;exact⟨fun z r hz=>by simp at hz;exact⟨hz.1,by rw[hz.2]⟩,fun e' he=>by simp at he⟩
def fB(n:Nat)(l:List UInt8)(k:Nat)(done:List ab)(st:RSt):Prop:=
 done.length=k/\((st.2=0/\dk n l=(match dk (n-k) st.1 with| .error e=> .error e| .ok (xs,r)=> .ok (done++xs,r)))∨(st.2≠0/\dk n l= .error st.2))
theorem fB.start(n:Nat)(l:List UInt8):fB n l 0 [] (l,0):=by
 refine⟨rfl,.inl ⟨rfl,?_⟩⟩;rw[Nat.sub_zero];rcases dk n l with e|⟨xs,r⟩<;>simp
theorem fB.next{n:Nat}{l:List UInt8}{k:Nat}{done:List ab}{st st':RSt}{x:ab}(h:fB n l k done st)(hk:k<n)(h0:st.2=0)(hs:Stp gC st x st'):fB n l (k+1) (done++[x]) st':=by
 obtain⟨hl,h1⟩:=h;refine⟨by simp[hl],?_⟩;rcases h1 with⟨_,h1⟩|⟨h1,_⟩
 · obtain⟨m,hm⟩:∃m,n-k=m+1:=⟨n-k-1,by omega⟩;(have hm':n-(k+1)=m:=by omega);rw[hm]at h1;unfold dk at h1;rcases p:gC st.1 with e|⟨y,r⟩
   · rw[p]at h1;simp only at h1;have:=(hs.2 h0).2 e p;refine .inr ⟨by rw[this];exact oK p,by rw[this];unfold dk;exact h1⟩
   · rw[p]at h1;obtain⟨rfl,rfl⟩:=(hs.2 h0).1 y r p;refine .inl ⟨rfl,?_⟩;rw[hm'];simp only at h1⊢;rw[show dk n l=_ from by unfold dk;exact h1];rcases dk m r with e|⟨ys,q⟩<;>simp
 · exact absurd h0 h1
theorem fB.done_{n:Nat}{l:List UInt8}{k:Nat}{done:List ab}{st:RSt}(h:fB n l k done st)(hk:n<=k)(h0:st.2=0):dk n l= .ok (done,st.1):=by
 rcases h.2 with⟨_,h1⟩|⟨h1,_⟩
 · rw[h1,show n-k=0 by omega];simp[dk]
 · exact absurd h0 h1
theorem fB.bad{n:Nat}{l:List UInt8}{k:Nat}{done:List ab}{st:RSt}(h:fB n l k done st)(h0:st.2≠0):dk n l= .error st.2:=by
 rcases h.2 with⟨h1,_⟩|⟨_,h1⟩
 · exact absurd h1 h0
 · exact h1
theorem mJ{l l1:List UInt8}{n:Int}{e:Int}(h:bJ l= .ok (n,l1))(h2:dk n.toNat l1= .error e):eD l=([],e):=by unfold eD;rw[h];simp only;rw[h2]
theorem lz{l l1 r:List UInt8}{n:Int}{es:List ab}(h:bJ l= .ok (n,l1))(h2:dk n.toNat l1= .ok (es,r))(h3:r≠[]):eD l=([],4):=by
 unfold eD;rw[h];simp only;rw[h2];simp only;rw[if_pos h3]
theorem mK{l l1:List UInt8}{n:Int}{es:List ab}(h:bJ l= .ok (n,l1))(h2:dk n.toNat l1= .ok (es,[]))(h3:aj es≠0):eD l=([],aj es):=by
 unfold eD;rw[h];simp only;rw[h2];simp only;rw[if_neg (by simp),if_pos h3]
theorem mI{l l1:List UInt8}{n:Int}{es:List ab}(h:bJ l= .ok (n,l1))(h2:dk n.toNat l1= .ok (es,[]))(h3:aj es=0):eD l=(es,0):=by
 unfold eD;rw[h];simp only;rw[h2];simp only;rw[if_neg (by simp),if_neg (by simp[h3])]
theorem rg{b:List UInt8}(h:20000<b.length):eP b=([],1):=by unfold eP;rw[if_pos h]
theorem pn{b:List UInt8}(h:¬ 20000<b.length)(h2:b.length<6):eP b=([],5):=by unfold eP;rw[if_neg h,if_pos h2]
theorem ri{b:List UInt8}(h:¬ 20000<b.length)(h2:¬ b.length<6)(h3:b[0]'(by omega)≠116):eP b=([],4):=by
 unfold eP;rw[if_neg h,if_neg h2,if_pos];rw[zca,zad (by omega)];simpa using h3
theorem uF{b:List UInt8}(h:¬ 20000<b.length)(h2:¬ b.length<6)(h3:b[0]'(by omega)=116)(h4:et (b.take (b.length-4))≠b.drop (b.length-4)):eP b=([],9):=by
 unfold eP;rw[if_neg h,if_neg h2,if_neg,if_pos h4];rw[zca,zad (by omega)];simpa using h3
theorem rj{b:List UInt8}(h:¬ 20000<b.length)(h2:¬ b.length<6)(h3:b[0]'(by omega)=116)(h4:et (b.take (b.length-4))=b.drop (b.length-4)):eP b=eD ((b.take (b.length-4)).drop 1):=by
 unfold eP;rw[if_neg h,if_neg h2,if_neg,if_neg (by simpa using h4)];rw[zca,zad (by omega)];simpa using h3
def AG(a b c d:Nat):Int:=bits .or .i64 (bits .or .i64 (bits .or .i64 ((a:Int)*16777216) ((b:Int)*65536)) ((c:Int)*256)) (d:Int)
theorem CT(a b c d:Nat)(ha:a<256)(hb:b<256)(hc:c<256)(hd:d<256):AG a b c d=((a*16777216+b*65536+c*256+d:Nat):Int):=by
 unfold AG;have e1:((a:Int)*16777216)=((a*16777216:Nat):Int):=by omega
 have e2:((b:Int)*65536)=((b*65536:Nat):Int):=by omega
 have e3:((c:Int)*256)=((c*256:Nat):Int):=by omega
 rw[e1,e2,e3,jS _ _ (by omega) (by omega)];have o1:(a*16777216)|||(b*65536)=a*16777216+b*65536:=l6 (b*65536) a 24 (by omega);rw[o1,jS _ _ (by omega) (by omega)];have o2:(a*16777216+b*65536)|||(c*256)=a*16777216+b*65536+c*256:=by
  have:=l6 (c*256) (a*256+b) 16 (by omega);rw[show(a*256+b)*2^16=a*16777216+b*65536 by omega]at this;exact this
 rw[o2,jS _ _ (by omega) (by omega)];have o3:(a*16777216+b*65536+c*256)|||d=a*16777216+b*65536+c*256+d:=by
  have:=l6 d (a*65536+b*256+c) 8 (by omega);rw[show(a*65536+b*256+c)*2^8=a*16777216+b*65536+c*256 by omega]at this;exact this
 rw[o3]
theorem AW(l:List UInt8)(a b c d:UInt8):ta l=AG a.toNat b.toNat c.toNat d.toNat↔et l=[a,b,c,d]:=by
 rw[CT _ _ _ _ a.toNat_lt b.toNat_lt c.toNat_lt d.toNat_lt];obtain⟨h1,h2,h3,h4⟩:=m7 l;have ha:=a.toNat_lt;have hb:=b.toNat_lt;have hc:=c.toNat_lt;have hd:=d.toNat_lt;unfold ta et;constructor
 · intro h;(have e1:(eG l).2/256=(a.toNat:Int):=by omega);(have e2:(eG l).2%256=(b.toNat:Int):=by omega);(have e3:(eG l).1/256=(c.toNat:Int):=by omega);(have e4:(eG l).1%256=(d.toNat:Int):=by omega);rw[e1,e2,e3,e4,mN,mN,mN,mN]
 · intro h;simp only[List.cons.injEq,and_true]at h;obtain⟨e1,e2,e3,e4⟩:=h;have g1:=congrArg (fun x:UInt8=>(x.toNat:Int)) e1;have g2:=congrArg (fun x:UInt8=>(x.toNat:Int)) e2;have g3:=congrArg (fun x:UInt8=>(x.toNat:Int)) e3;have g4:=congrArg (fun x:UInt8=>(x.toNat:Int)) e4;(try simp only at g1 g2 g3 g4);rw[lI (by omega) (by omega)]at g1 g2 g3 g4;omega
theorem EJ(b:List UInt8)(h:6<=b.length):b.drop (b.length-4)=[b[b.length-4],b[b.length-4+1],b[b.length-4+2],b[b.length-4+3]]:=by
 apply List.ext_getElem
 · simp;omega
 · intro i h1 h2;rw[zbY]
   match i,h2 with
   | 0,_=>rfl
   | 1,_=>rfl
   | 2,_=>rfl
   | 3,_=>rfl
   | i+4,h2=>simp at h2;omega
def gW(xs:List UInt8)(w:World)(e:Ending)(w':World):Prop:=
 ∃v',e= .returned (.tuple #[v',.int .i64 (eP xs).2])/\OwR aW 44 w.heap.size w' v' (eP xs).1/\Below w.heap.size w w'
theorem de{xs:List UInt8}{w w':World}{v':Value}{ys:List ab}{n:Int}(h:eP xs=(ys,n))(ho:OwR aW 44 w.heap.size w' v' ys)(hb:Below w.heap.size w w'):
 gW xs w (.returned (.tuple #[v',.int .i64 n])) w':=⟨v',by rw[h],by rw[h];exact ho,hb⟩
theorem EH(v:Value)(xs:List UInt8)(w:World)(h:Sl aG w v xs):
 Calls Tryz.prog 96 #[v] w fun e w'=>e= .returned (.int .i64 (ta xs))/\w'=w:=(xL v xs w h).mono fun _ _ h=>⟨h.1,h.2.symm⟩
theorem Sl.byte{w:World}{b off c n:Nat}{xs:List UInt8}(h:Sl aG w (.slice (some ⟨b,off,none⟩) n c) xs){k:Nat}(hk:k<xs.length):w.cell? ⟨b,off+k,none⟩=some (.int .u8 xs[k].toNat):=by
 obtain⟨cs,⟨rfl,hw⟩,hc⟩:=h.cell hk;have:=hc 0 _ rfl;simpa [aG,dw]using this
theorem Sl.cap{α:Type}{r:Rep α}{w:World}{A:Option Addr}{n c:Nat}{xs:List α}(h:Sl r w (.slice A n c) xs):xs.length<=c/\c<=9223372036854775807:=by
 obtain⟨_,_,hv,h1,h2,_⟩:=h;injection hv with _ _ e;subst e;exact⟨h1,by unfold maxLen at h2;omega⟩
theorem gl.keep{w w':World}{g:Nat}{s:RSt}(h:gl w g s)(hk:∀k,k<=g->w'.heap[k]? =w.heap[k]?)(hz:w.heap.size<=w'.heap.size):gl w' g s:=by
 obtain⟨h0,v,h1,h2,h3,h4,h5⟩:=h;refine⟨by omega,v,(zav (hk g (zab _))).trans h1,(zav (hk g (zab _))).trans h2,fun i=>(zaK (hk g (zab _))).trans (h3 i),?_,h5⟩;exact SlR.keep h4 (fun k hk'=>hk k (by omega)) (fun k hk'=>⟨by omega,hk'.2⟩)
theorem gl.alloc{w:World}{g:Nat}{s:RSt}(h:gl w g s)(o:Obj):gl (w.alloc o) g s:=h.keep (fun k hk=>zbf _ _ _ (by have:=h.1;omega)) (by simp)
theorem gl.grown{w w':World}{g:Nat}{s:RSt}{row:Option Nat}(h:gl w g s)(hg:w.grownBy w' row)(hr:∀k,row=some k->g<k):gl w' g s:=
 h.keep (fun k hk=>hg.block k (by have:=h.1;omega) (fun e=>by have:=hr k e.symm;omega)) hg.size
structure mR(w:World)(g n:Nat)(l:List UInt8)(k:Nat)(done:List ab)(st:RSt)(wr:World)(v:Value):Prop where
 many:fB n l k done st
 rd:gl wr g st
 out:OwR aW 44 (g+1) wr v done
 below:Below w.heap.size w wr
theorem mR.turn{w:World}{g:Nat}{wr w':World}{v:Value}{done:List ab}(hB:Below w.heap.size w wr)(ho:OwR aW 44 (g+1) wr v done)(hgw:w.heap.size<=g)(hg:wr.grownBy w' (some g)):
  Below w.heap.size w w'/\OwR aW 44 (g+1) w' v done:=
 ⟨hB.grown hg hB.size (fun k e=>by injection e with e;omega),ho.kept hg (.inr fun e=>by have:=(ho.base_le _ e).1;omega)⟩
theorem pm(v:Value)(xs:List UInt8)(w:World)(h:Sl aG w v xs):Calls Tryz.prog 61 #[v] w (gW xs w):=by
 have hlen:=h.len_le;obtain⟨A,c,rfl⟩:=h.form;have H:=zaa h;clear h;by_cases hl1:20000<xs.length
 · have HF:=zaa (rg hl1);(have hl1':(20000:Int)<(xs.length:Int):=by omega);(go_enter Tryz.func61,Tryz.ntmps61);(go_wp2_with fail);(go_ret2);exact de HF.out (OwR.nil _ _ (zab _)) (zac _ _)
 by_cases hl2:xs.length<6
 · have HF:=zaa (pn hl1 hl2);(have hl1':¬ (20000:Int)<(xs.length:Int):=by omega);(have hl2':(xs.length:Int)<6:=by omega);(go_enter Tryz.func61,Tryz.ntmps61);(go_wp2_with fail);(go_ret2);exact de HF.out (OwR.nil _ _ (zab _)) (zac _ _)
 obtain⟨b,off,rfl,hb⟩:=H.out.at_ (show 0<xs.length by omega);have f0:=H.out.byte (show 0<xs.length by omega);rw[zbH]at f0;have hl1':¬ (20000:Int)<(xs.length:Int):=by omega
 have hl2':¬ (xs.length:Int)<6:=by omega
 obtain⟨y0,hy0⟩:∃y,xs[0]'(by omega)=y:=⟨_,rfl⟩;rw[hy0]at f0;have HY0:=zaa hy0;clear hy0;by_cases h116:y0=116
 · obtain⟨k,hk⟩:∃k,xs.length=k+4:=⟨xs.length-4,by omega⟩;(have hk4:xs.length-4=k:=by omega);obtain⟨hc1,hc2⟩:=H.out.cap;have d0:=H.out.byte (show k<xs.length by omega);have d1:=H.out.byte (show k+1<xs.length by omega);have d2:=H.out.byte (show k+2<xs.length by omega);have d3:=H.out.byte (show k+3<xs.length by omega);have hdrop:=EJ xs (by omega);simp only[hk4]at hdrop;obtain⟨e0,he0⟩:∃x,xs[k]=x:=⟨_,rfl⟩;obtain⟨e1,he1⟩:∃x,xs[k+1]=x:=⟨_,rfl⟩;obtain⟨e2,he2⟩:∃x,xs[k+2]=x:=⟨_,rfl⟩;obtain⟨e3,he3⟩:∃x,xs[k+3]=x:=⟨_,rfl⟩;rw[he0]at d0 hdrop;rw[he1]at d1 hdrop;rw[he2]at d2 hdrop;rw[he3]at d3 hdrop;have HTK:=zaa (SlR.take H.out k (by omega));have hsn:=AW (xs.take k) e0 e1 e2 e3;rw[<-hdrop]at hsn;have HSN:=zaa hsn;(have t1:((y0.toNat:Int) !=116)=false:=by rw[h116];rfl);have H116:=zaa h116;have HK:=zaa hk;have HK4:=zaa hk4;have HL:=zaa (And.intro hl1 hl2);clear he0 he1 he2 he3 hsn hdrop h116 hk4;obtain⟨tb,t2⟩:∃tb,(ta (xs.take k) !=AG e0.toNat e1.toNat e2.toNat e3.toNat)=tb:=⟨_,rfl⟩;have T2:=zaa t2;clear t2;obtain⟨n,hn⟩:∃n,xs.length=n:=⟨_,rfl⟩;(have hn4:(n:Int)-4=(k:Int):=by omega);have HN4:=zaa hn4;(have k3:(k:Int)+3<(n:Int):=by omega);(have k2:(2:Int)<=(k:Int):=by omega);rw[hn]at hl1' hl2' hc1 hlen⊢;clear hk hn hn4;(go_enter Tryz.func61,Tryz.ntmps61);(go_upto_region 8 with fail);rw[HN4.out];have b0:=e0.toNat_lt;have b1:=e1.toNat_lt;have b2:=e2.toNat_lt;have b3:=e3.toNat_lt;have t2:=T2.out;unfold AG at t2;(go_quiet ((go_at_call 96;exact zbO (EH _ _ _ HTK.out))));rcases tb with _|_
   · have hs:et (xs.take k)=xs.drop k:=by
      have:=T2.out;simp only[bne_eq_false_iff_eq]at this;exact HSN.out.1 this
     have hdb:=rj HL.out.1 HL.out.2 (HY0.out.trans H116.out) (by rw[HK4.out];exact hs);rw[HK4.out]at hdb;have HF:=zaa hdb;have hbw:=ag (zac w.heap.size w) nq;obtain⟨wd,hwd⟩:∃wd,w.drewN nq=wd:=⟨_,rfl⟩;rw[hwd]at hbw⊢;(have hzw:wd.heap.size=w.heap.size:=by rw[<-hwd];rfl);have HBW:=zaa hbw;have HZW:=zaa hzw;clear hdb t2 hs hwd hbw hzw d0 d1 d2 d3 b0 b1 b2 b3;obtain⟨z,l1,hzl⟩:∃z l1,(xs.take k).drop 1=z::l1:=by
      cases hq:(xs.take k).drop 1 with
      | nil=>
        have:=congrArg List.length hq;rw[zaM,zat,zaW]at this;have:=HK.out;omega
      | cons z l1=>exact⟨z,l1,rfl⟩
     have hsub:=SlR.sub H.out 1 k (by omega) (by have:=HK.out;omega);(have hc1':¬ c=1:=by omega);rw[if_neg hc1',hzl]at hsub;have hrd:gl (wd.alloc (.cells #[.slice (some ⟨b,off+1,none⟩) (k-1) (c-1),.int .i64 0] 165)) wd.heap.size (z::l1,0):=by
      have hba:Below w.heap.size w (wd.alloc (.cells #[.slice (some ⟨b,off+1,none⟩) (k-1) (c-1),.int .i64 0] 165)):=HBW.out.alloc (by rw[HZW.out];exact zab _) _;refine⟨by simp,.slice (some ⟨b,off+1,none⟩) (k-1) (c-1),zah _ _ _ _ rfl,zah _ _ _ _ rfl,fun i=>zaL _ _ _ _ rfl,?_,?_⟩
      · exact SlR.keep hsub hba.block (fun q hq=>by have hz:=HZW.out;simp only[zbq];omega)
      · have:=congrArg List.length hzl;rw[zaM,zat]at this;have:=HK.out;have e:(z::l1,(0:Int)).1.length=(z::l1).length:=rfl;omega
     have HZL:=zaa hzl;have HBY:=zaa (jK _ wd.heap.size (z::l1,0) hrd);have HB1:=zaa (HBW.out.alloc (zbG HZW.out.symm) (.cells #[.slice (some ⟨b,off+1,none⟩) (k-1) (c-1),.int .i64 0] 165));clear hsub hrd hzl;(go_wp2_with fail);refine HBY.out.mono ?_;rintro e w1 ⟨a,s1,rfl,hst,ha,hr1,hg1,_⟩;obtain⟨rfl,rfl⟩:=(hst.2 rfl).1 _ _ rfl;have HZW':=zaa HZW.out;obtain⟨g,hgd⟩:∃g,wd.heap.size=g:=⟨_,rfl⟩;rw[hgd]at hr1 hg1 HZW⊢;have hB1:=HB1.out.grown hg1 HB1.out.size (fun k e=>by injection e with e;have:=HZW.out;omega);have hgw:g<w1.heap.size:=hr1.1;have HPB:=zaa (show bJ ((xs.take k).drop 1)= .ok ((z.toNat:Int),l1)by rw[HZL.out];rfl);obtain⟨nn,hnn⟩:∃nn,z.toNat=nn:=⟨_,rfl⟩;(have hn255:nn<256:=by rw[<-hnn];exact z.toNat_lt);rw[hnn]at HPB⊢;have HD0:=zaa (show mR w g nn l1 0 [] (l1,0) w1 (.slice none 0 0)from⟨fB.start _ _,hr1,OwR.nil _ _ hgw,hB1⟩);have HWG:=zaa (show w.heap.size<=g by rw[<-hgd];exact zbG HZW'.out.symm);clear hst ha hr1 hg1 hB1 hgd hnn HBY hgw;(go_wp2_with fail);(go_loopw [6,7] (fun s6 s7 wr=>∃(j:Nat) (done:List ab) (st:RSt),j<=nn/\s7= .int .i64 j/\mR w g nn l1 j done st wr s6) (fun _ s7 _=>nn-(intOf s7).toNat));(case atStart=>exact⟨0,[],(l1,0),zap _,rfl,HD0.out⟩);case round=>
      obtain⟨j,done,st,hj,rfl,hd⟩:=hrel;have HD:=zaa hd;have hgl:=hd.rd.1;obtain⟨A2,c2,_,f0',f1',f2',_,hl',_,_⟩:=hd.rd.open;clear hd;by_cases hgo:j<nn/\st.2=0
      · obtain⟨hlt,he⟩:=hgo;have HE:=zaa he;rw[he]at f1';clear he;(go_wp2_with fail);refine(qp wr g st HD.out.rd).mono ?_;rintro e w2 ⟨a2,s2,rfl,hst2,ha2,hr2,hg2,_⟩;have HP2:=zaa (mR.turn HD.out.below HD.out.out HWG.out hg2);have HST2:=zaa hst2;have HRN:=zaa (Bc w2 g s2 hr2);clear f0' f1' f2' hst2 hr2 hg2 hgl;(go_wp2_with fail);refine HRN.out.mono ?_;rintro e w3 ⟨a3,s3,rfl,hst3,ha3,hr3,hg3,_⟩;have HP3:=zaa (mR.turn HP2.out.1 HP2.out.2 HWG.out hg3);have HST3:=zaa hst3;have HRB:=zaa (jK w3 g s3 hr3);clear hst3 hr3 hg3;(go_wp2_with fail);refine HRB.out.mono ?_;rintro e w4 ⟨a4,s4,rfl,hst4,ha4,hr4,hg4,_⟩;have HP4:=zaa (mR.turn HP3.out.1 HP3.out.2 HWG.out hg4);have HST4:=zaa hst4;have HRT:=zaa (qp w4 g s4 hr4);clear hst4 hr4 hg4;(go_wp2_with fail);refine HRT.out.mono ?_;rintro e w5 ⟨a5,s5,rfl,hst5,ha5,hr5,hg5,_⟩;have HP5:=zaa (mR.turn HP4.out.1 HP4.out.2 HWG.out hg5);have HSTE:=zaa (Stp.entry HST2.out HST3.out HST4.out hst5);have HR5:=zaa hr5;have HWF:=zaa (show ab.wf ⟨a2,a3,a4,a5⟩from⟨by show a2.size<=maxLen;unfold maxLen;omega,by show inR a3;unfold inR;omega,by show inR a4;unfold inR;omega,by show a5.size<=maxLen;unfold maxLen;omega⟩);have HLEN:=zaa (show done.length+[(⟨a2,a3,a4,a5⟩:ab)].length<=1000000 by
         have:=HD.out.many.1
         simp only[zaD,zaW];omega)
        clear hst5 hr5 hg5 ha2 ha3 ha4 ha5;(go_wp2_with (at_builtin;refine cL (base:=g+1) rfl (.tmp 76) (.tmp 86) rfl (HP5.out.2.alloc1 _) (gT HWF.out) rfl rfl HLEN.out ?_;intro v6 w6 ho6 hg6));(go_roundw);case rel=>
         refine⟨j+1,_,s5,by omega,by go_num,⟨HD.out.many.next hlt HE.out HSTE.out,(HR5.out.alloc _).grown hg6.grown (fun q e=>(HP5.out.2.base_le q e).1),ho6,?_⟩⟩;exact(HP5.out.1.alloc HP5.out.1.size _).grown hg6.grown (by simp;have:=HP5.out.1.size;omega) (fun q e=>by have:=(HP5.out.2.base_le q e).1;have:=HWG.out;omega)
        case measure=>simp[intOf];omega
      · by_cases he:st.2=0
        · (obtain rfl:j=nn:=by omega);have HM:=zaa (HD.out.many.done_ (zab _) he);obtain⟨r,er⟩:=st;simp only at he f0' f1' hl' HM;subst he;rcases r with _|⟨q,r⟩
          · have HCH:=zaa (fy _ done wr (HD.out.out.sl (by decide)));simp only[zaW]at f0';(go_wp2_with fail);refine HCH.out.mono ?_;rintro e w2 ⟨rfl,hb2⟩;have HB2:=zaa (HD.out.below.trans (hb2.mono HD.out.below.size));have HO2:=zaa (HD.out.out.keep hb2);clear hb2;by_cases hcc:aj done=0
            · (have t3:(aj done !=0)=false:=by simp[hcc]);have HF2:=zaa (HF.out.trans (mI HPB.out (by rw[zaX];exact HM.out) hcc));clear hcc;(go_wp2_with fail);(go_ret2);exact de HF2.out (HO2.out.lower (by have:=HWG.out;omega)) HB2.out
            · (have t3:(aj done !=0)=true:=by simp[hcc]);have HF2:=zaa (HF.out.trans (mK HPB.out (by rw[zaX];exact HM.out) hcc));clear hcc;(go_wp2_with fail);(go_ret2);exact de HF2.out (OwR.nil _ _ HB2.out.size) HB2.out
          · have HF2:=zaa (HF.out.trans (lz HPB.out (by rw[zaX];exact HM.out) (by simp)));have hB3:Below w.heap.size w (wr.setCell ⟨g,1,none⟩ (.int .i64 4)):=HD.out.below.setCell HWG.out _;have HB3:=zaa hB3;obtain⟨m,hm⟩:∃m,(q::r).length=m:=⟨_,rfl⟩;(have hm1:(0:Int)<(m:Int):=by rw[<-hm];simp<;>omega);rw[hm]at f0' hl';clear hB3 hm;(go_wp2_with fail);(go_quiet (fail));(go_wp2_with fail);(go_ret2);exact de HF2.out (OwR.nil _ _ HB3.out.size) (ag HB3.out _)
        · have HM:=zaa (HD.out.many.bad he);have HF2:=zaa (HF.out.trans (mJ HPB.out (by rw[zaX];exact HM.out)));(have t3:(st.2==0)=false:=by simpa using he);(have t4:(st.2 !=0)=true:=by simpa using he);have HB3:=zaa HD.out.below;clear he hgo;(go_wp2_with fail);all_goals
           (go_quiet (fail));(go_wp2_with fail);(go_ret2);exact de HF2.out (OwR.nil _ _ HB3.out.size) (ag HB3.out _)
   · have HF:=zaa (uF HL.out.1 HL.out.2 (HY0.out.trans H116.out) (by
      rw[HK4.out];intro e;have:=T2.out;rw[HSN.out.2 e]at this
      simp at this))
     (go_wp2_with fail);(go_ret2);exact de HF.out (OwR.nil _ _ (zab _)) (ag (zac _ _) _)
 · have HF:=zaa (ri hl1 hl2 (fun e=>h116 (HY0.out.symm.trans e)));have t1:((y0.toNat:Int) !=116)=true:=by
    simp only[bne_iff_ne,ne_eq];intro e;exact h116 (UInt8.toNat_inj.1 (by show _=116;omega))
   clear h116;(go_enter Tryz.func61,Tryz.ntmps61);(go_wp2_with fail);(go_ret2);exact de HF.out (OwR.nil _ _ (zab _)) (zac _ _)
end
end Go.Proofs.YtojojpjldkpmoaaGreatDoor
