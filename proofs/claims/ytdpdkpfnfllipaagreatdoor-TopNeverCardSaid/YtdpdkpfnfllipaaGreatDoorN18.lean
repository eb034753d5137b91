/- A part of the proof, no condition. -/
import Derived.Test.YtdpdkpfnfllipaaGreatDoorN17
set_option linter.unusedVariables false
set_option linter.unusedSimpArgs false
namespace Go.Proofs.YtdpdkpfnfllipaaGreatDoor
theorem SrOk.mt{W:Int→List UInt8→Prop}{N:Nat}{X:StD}(o:SrOk W N X)(l:Live X.dv):MtOk W N X.inn X.count X.tx X.dv:=by
 have c:=o.cr
 exact⟨l,o.wf,o.n,o.size,o.good,o.slots,o.count,o.text,fun m hm p hp=>(c.rows m hm p hp).2,o.w⟩
theorem room_eq(inn count:Nat):SlV.room ⟨0,3,6,96,inn,count,false⟩=11440:=by simp[SlV.room]
theorem save_live{W:Int→List UInt8→Prop}{N inn count:Nat}{tx t:List UInt8}{d:Dv}(m:MtOk W N inn count tx d)(hN:N≤900000)(ht:t.length≤11360) :
 ∃ d',saveV d ⟨0,3,6,96,inn,count,false⟩ tx t=(0,d',⟨0,3,6,96,1-inn,count+1,false⟩,t)∧OkD d d'∧AllGood d'∧SlInv d' 0 3 6 (1-inn) t (count+1):=by
 have hi:=m.slots.le1
 have hc:=m.count
 have hn:=m.n
 have hs:=m.size
 have hch:nCh t+2≤286:=by unfold nCh;omega
 have hw:∃ lo hi',SlV.f ⟨0,3,6,96,inn,count,false⟩ (1-inn)=lo∧SlV.f ⟨0,3,6,96,inn,count,false⟩ (1-inn+1)=hi'∧lo=(if inn=0 then 3 else 0)∧hi'=(if inn=0 then 6 else 3):=by
  rcases(show inn=0∨inn=1 by omega) with rfl | rfl
  ·exact⟨3,6,rfl,rfl,rfl,rfl⟩
  ·exact⟨0,3,rfl,rfl,rfl,rfl⟩
 obtain⟨lo,hi',f1,f2,e1,e2⟩:=hw
 have hdiff:hi'-lo=3∧lo≤hi'∧hi'≤6:=by rw[e1,e2];split <;> omega
 obtain⟨w1,w2,w3,w4,w5⟩:=wr_live m.live m.wf (lo:=lo) (hi:=hi') (n:=count+1) (t:=t) (by omega) (by omega) (by rw[hdiff.1,hs];omega)
 rw[hs]at w1 w2 w3 w4 w5
 refine⟨(d.wr lo hi' 96 (count+1) t).2,?_,w2,w5,?_⟩
 ·unfold saveV
  rw[room_eq,if_neg (by omega),if_neg (by simp),f1,f2]
  show(if (d.wr lo hi' 96 (count+1) t).1≠0 then _ else _)=_
  rw[if_neg (by omega)]
 ·refine m.slots.wrote (by omega) (by omega) w2.size (by omega) (by omega) ?_ fun j h1 h2 h3=>w4 j ?_
  ·rw[hdiff.1]at w3
   rw[← e1]
   have:(if inn=0 then 6-3 else 3-0)=3:=by split <;> rfl
   rw[this];exact w3
  ·rw[← e1,← e2]at h3;omega
section
variable{G:Gh}{h:Hp}{M sb db:Nat}{X:StD}
theorem sCheck_spec(t:HT G h)(x:StAt G h M sb db X){N:Nat}(mt:MtOk G.W N X.inn X.count X.tx X.dv)(o:MgrOk N X.D)(hoff:X.off=false)(hN:N≤900000)(hM:M≤1000000):HC Tryz.prog 53 #[pv sb] h fun r h'=>∃ (G':Gh) (X':StD),r=.int .i64 (0:Int)∧To sSt G h G' h'∧G'.W=G.W∧StAt G' h' M sb db X'∧SrOk G.W (N+1) X'∧Live X'.dv∧X'.D=X.D:=by
 have x0:=x
 obtain⟨lb,mb,ts,em,bk,am,q,tb,x⟩:=x
 apply wc53
 unfold vc53
 refine(sDead_spec x).mono ?_
 rintro _ _ ⟨rfl,hh⟩
 obtain rfl:=hh.symm
 obtain⟨ob,hob,rob⟩:=x.row.only
 have hsb:=x.row.lt
 refine⟨_,rfl,.no hoff ⟨onlyB sb ob,sub_only hob,_,rfl,_,rob.get rfl,(sText_spec t x0 o.last hM).mono ?_⟩⟩
 rintro _ h1 ⟨s,P,G1,rfl,y1,w1,sl,hP,hPw,hPl,hPn,_⟩
 have x1:=x.pure y1
 have t1:=y1.ht
 have e1:=y1.toExt
 have s1:=y1.size
 have hob1:h1[sb]? = some ob:=by rw[e1.block _ hsb];exact hob
 refine⟨s,rfl,sub_only hob1,?_⟩
 have htl:=textB_len (last:=X.D.last) hP
 obtain⟨d2,hsv,ok2,good2,slots2⟩:=save_live mt hN (t:=textB X.D.last P) (by omega)
 have hcnt:=mt.count
 refine(Save_spec x1.dev (Nat.zero_le _) x1.sl ⟨by show 0≤3;omega,by show 3≤6;omega,by show 6≤64;omega,by show 1≤96∧96≤192;omega,mt.slots.le1,by show X.count<_;omega⟩ (by rw[mt.n];show 6≤8;omega) (sl.rd t1) (fun a ha=>?_) (by omega)).mono ?_
 ·have hs0:s.len≠0:=by rw[sl.slen];omega
  have st:=sl.stab t1 a ha hs0
  exact⟨st.dev0,st.1,fun e=>st.2 (by rw[e,x1.kl];trivial)⟩
 rintro _ h2 ⟨rfl,F2,ts2,dv2,sl2,hs2,g2,c2,hts2⟩
 have hS:X.S=⟨0,3,6,96,X.inn,X.count,false⟩:=rfl
 rw[hS,hsv]at dv2 sl2
 rw[hS,hsv]
 obtain⟨y2,F2e⟩:=devTo (S:=fun k=>k=.one 8) t1 (fun b hb=>(dv2.dom b hb).2) hs2 g2 (fun b hb hF hk=>c2 b hb hF fun e=>hk (by rw[e];exact x1.kl)) (fun k hk=>by subst hk;exact⟨trivial,fun h=>h⟩)
 generalize hG2:G1.dev h1.size F2=G2 at *
 have w2:G2.W=G1.W:=by rw[← hG2];rfl
 rw[← F2e]at dv2 sl2
 have y2':To (fun k=>isDev k∨k=.one 8) G1 h1 G2 h2:=y2
 have st2:∀ a,ts2.base=some a→Stab G2 h2 a.block:=fun a ha=>by
  obtain⟨b1,b2,b3⟩:=sl2.tb a ha
  refine⟨b2,?_⟩
  rcases hts2 a ha with h | h
  ·exact(y2.stab (x1.tst a h)).2.2
  ·rw[← hG2,Gh.dev_new (by omega),if_pos (by rw[← F2e];exact b1)];exact fun h=>h
 have x2:StIn G2 h2 M sb { X with dv:=d2,inn:=1-X.inn,count:=X.count+1,tx:=textB X.D.last P } db lb mb ts2 em bk am q tb:=
  ⟨y2.kd x1.kd (by simp),y2.rowK x1.row x1.kd (by simp[isDev]),dv2,y2.kd x1.kl (by simp),sl2,st2,x1.mgr.to y2 (Nat.le_refl _) (fun k hk hs=>by
   rcases hs with hs | hs
   ·cases k <;> first | exact hs | exact hk
   ·subst hs;simp[sMgr]at hk),fun a ha=>by
   rcases hts2 a ha with h | h
   ·exact x1.tlo a h
   ·have:=x1.row.lt;omega⟩
 have hob2:h2[sb]? = some ob:=by rw[c2 sb (by omega) (by show devK (G1.k sb)=0;rw[x1.kd];rfl) fun e=>by have:=x1.kl;rw[← e,x1.kd]at this;cases this];exact hob1
 refine⟨_,rfl,sub_only hob2,_,rfl,_,x2.row.getA rfl,?_⟩
 have y02:To sSt G h G2 h2:=(y1.mono fun _ h=>h.elim).trans (y2.mono fun k hk=>by
  rcases hk with hk | rfl
  ·exact isDev_st k hk
  ·simp[sSt])
 have hn2:d2.n=8:=ok2.n.trans mt.n
 refine⟨fun e z n h'=>∃ (j:Nat) (G':Gh) (d':Dv),e=0∧z=((6+j:Nat):Int)∧n+j=2∧To isDev G2 h2 G' h'∧G'.W=G2.W∧DevAt 0 (devF G') h' db d'∧OkD d2 d'∧∀ i,d'.z i=if 6≤i∧i<6+j then ⟨[],0⟩ else d2.z i,2,
  ⟨0,G2,d2,rfl,rfl,rfl,.refl y2.ht,rfl,dv2,⟨ok2.live,ok2.wf,rfl,rfl⟩,fun i=>by rw[if_neg (by omega)]⟩,?_⟩
 rintro _ _ _ n3 h3 ⟨j,G3,d3,rfl,rfl,hn3,y3,w3,dv3,ok3,hz3⟩
 have x3:=x2.dv' y3 (fun _ h=>h) dv3
 refine⟨_,rfl,_,x3.row.getA rfl,IfB.dec (fun hlt=>.yes rfl ?_) (fun hge=>.no rfl ?_)⟩
 ·have hj:j<2:=by omega
  have hd3:d3.n=8:=ok3.n.trans hn2
  refine⟨_,rfl,_,x3.row.get0 rfl,(Pointer_spec dv3 _).mono ?_⟩
  rintro _ h3' ⟨hh,⟨hno,_⟩ | ⟨k',hk',hkn,rfl⟩⟩
  ·exact absurd ⟨by omega,by show((6+j:Nat):Int)<(d3.n:Int);omega⟩ hno
  obtain rfl:=hh.symm
  obtain rfl:k'=6+j:=by omega
  have step:∀ i,(if i=6+j then (⟨[],0⟩:Zn) else d3.z i)=if 6≤i∧i<6+(j+1) then ⟨[],0⟩ else d2.z i:=fun i=>by
   by_cases e:i=6+j
   ·rw[if_pos e,if_pos (by omega)]
   ·rw[if_neg e,hz3 i]
    by_cases h6:6≤i∧i<6+j
    ·rw[if_pos h6,if_pos (by omega)]
    ·rw[if_neg h6,if_neg (by omega)]
  refine⟨_,_,rfl,IfB.dec (fun hpos=>?_) (fun hzero=>?_)⟩
  ·refine⟨_,rfl,_,x3.row.get0 rfl,(Reset_spec dv3 _).mono ?_⟩
   rw[reset_live ok3.live (by omega)]
   rintro _ h4 ⟨rfl,t4⟩
   obtain⟨G4,y4,w4,dv4⟩:=t4.to y3.ht
   refine⟨_,rfl,n3-1,by omega,j+1,G4,_,rfl,by rw[iAdd64 (by omega)];push_cast;omega,by omega,y3.trans y4,w4.trans w3,dv4,ok3.trans ⟨ok3.live.tick.setZ _ _,dv4.1,rfl,rfl⟩,fun i=>?_⟩
   rw[← step i]
   rw[Dv.z_set _ (by have:=ok3.wf.n;show 6+j<d3.zs.length;omega)]
   rfl
  ·have h0:(d3.z (6+j)).rows.length=0:=by omega
   refine⟨n3-1,by omega,j+1,G3,d3,rfl,by rw[iAdd64 (by omega)];push_cast;omega,by omega,y3,w3,dv3,ok3,fun i=>?_⟩
   rw[← step i]
   by_cases e:i=6+j
   ·rw[if_pos e,e,Dv.empty_z ok3.wf h0]
   ·rw[if_neg e]
 ·obtain rfl:j=2:=by omega
  obtain⟨ok8,b8,row8⟩:=kset y3.ht x3.kd (fun h=>h) x3.row (i:=7) (by simp[stV]) (.int .i64 (0:Int))
  have row8:Row (hset h3 ((⟨sb,0,none⟩:Addr).add 7) (.int .i64 (0:Int))) sb (stV db mb lb 0 X.num X.off):=row8
  obtain⟨ok9,b9,row9⟩:=kset b8.ht x3.kd (fun h=>h) row8 (i:=8) (by simp[stV]) (.int .i64 (0:Int))
  have b89:=b8.trans b9
  have y9:To (fun k=>k=.one 2) G3 h3 G3 _:=b89.to (by rw[x3.kd];exact⟨trivial,rfl⟩)
  have x9:=x3.reown y9 (pos:=0) (num:=0) (off:=X.off) row9
  refine⟨_,rfl,ok8,_,rfl,ok9,G3,_,rfl,(y02.trans (y3.mono isDev_st)).trans (y9.mono fun k hk=>s62_st k (.inr hk)),w3.trans (w2.trans w1),⟨lb,mb,ts2,em,bk,am,q,tb,x9⟩,?_,ok3.live,rfl⟩
  have hm:=o.more (N':=N+1) (by omega)
  refine⟨ok3.n.trans hn2,ok3.size.trans (ok2.size.trans mt.size),ok3.wf,fun i=>?_,hoff,slots2.same ok3.size (fun i _ h6=>?_) (by omega) (by omega),by show X.count+1≤_;omega,by show 0≤_;omega,.inr ⟨X.D.last,P,rfl,o.last,hP,hPw,hPn⟩,⟨[],rfl,by show 0≤192;omega,fun p hp=>by simp at hp,fun m hm=>?_⟩,hm,mt.w⟩
  ·show(d3.z i).good=(d3.z i).rows.length
   rw[hz3 i]
   split
   ·rfl
   ·exact good2 i
  ·show(d3.z i).rows=_
   rw[hz3 i,if_neg (by omega)]
  ·show(d3.z (6+m)).rows=_
   rw[hz3,if_pos (by omega)]
   simp[part]
end
theorem outJ_two(d:Dv):outJ d 2=if (d.z 6).rows.length<d.size then (d.z 6).rows else (d.z 6).rows++(d.z 7).rows:=by
 simp only[outJ,gapJ,Bool.false_or]
 by_cases h:(d.z 6).rows.length<d.size
 ·simp[h]
 ·simp[h]
theorem behJ_two(d:Dv):behJ d 2=if (d.z 6).rows.length<d.size then (d.z 7).rows else []:=by
 simp only[behJ,gapJ,Bool.false_or]
 by_cases h:(d.z 6).rows.length<d.size
 ·simp[h]
 ·simp[h]
theorem outJ_mem{d:Dv}{p:List UInt8}(h:p∈outJ d 2):∃ m,m<2∧p∈(d.z (6+m)).rows:=by
 rw[outJ_two]at h
 split at h
 ·exact⟨0,by omega,h⟩
 ·rcases List.mem_append.1 h with h | h
  ·exact⟨0,by omega,h⟩
  ·exact⟨1,by omega,h⟩
theorem behJ_mem{d:Dv}{p:List UInt8}(h:p∈behJ d 2):∃ m,m<2∧p∈(d.z (6+m)).rows:=by
 rw[behJ_two]at h
 split at h
 ·exact⟨1,by omega,h⟩
 ·simp at h
theorem outJ_part{d:Dv}(w:d.Wf)(hs:d.size=96)(hb:behJ d 2 = []):∀ m,m<2→(d.z (6+m)).rows=part 96 (outJ d 2) m:=by
 intro m hm
 have l6:=(w.zone 6).rows
 have l7:=(w.zone 7).rows
 rw[hs]at l6 l7
 rw[behJ_two]at hb
 rw[outJ_two]
 rw[hs]at hb ⊢
 rcases(show m=0∨m=1 by omega) with rfl | rfl
 ·unfold part
  split
  ·simp only[Nat.zero_mul,List.drop_zero];exact(List.take_of_length_le l6).symm
  ·simp only[Nat.zero_mul,List.drop_zero]
   rw[List.take_left' (by omega)]
 ·unfold part
  split
  ·rename_i h
   rw[if_pos h]at hb
   rw[Nat.one_mul,List.drop_of_length_le (by omega)]
   simpa using hb
  ·rw[Nat.one_mul,List.drop_left' (by omega)]
   exact(List.take_of_length_le l7).symm
theorem outJ_len{d:Dv}(w:d.Wf)(hs:d.size=96):(outJ d 2).length≤192∧(behJ d 2).length≤192:=by
 have l6:=(w.zone 6).rows
 have l7:=(w.zone 7).rows
 rw[hs]at l6 l7
 rw[outJ_two,behJ_two]
 constructor
 ·split
  ·omega
  ·rw[List.length_append];omega
 ·split
  ·omega
  ·simp
theorem MtOk.same{W:Int→List UInt8→Prop}{N inn count:Nat}{tx:List UInt8}{d d':Dv}(m:MtOk W N inn count tx d)(ok:OkD d d')(g:AllGood d')(hr:∀ j,(d'.z j).rows=(d.z j).rows):MtOk W N inn count tx d':=
 ⟨ok.live,ok.wf,ok.n.trans m.n,ok.size.trans m.size,g,m.slots.same ok.size (fun j _ _=>hr j) (by omega) (by omega),m.count,m.text,fun k hk p hp=>m.rows k hk p (by rw[← hr];exact hp),m.w⟩
section
variable{G:Gh}{h:Hp}
theorem newDev{F:Nat→Nat}{h1:Hp}{db:Nat}{d:Dv}(t:HT G h)(e:Ext h h1)(x:DevAt h.size F h1 db d):∃ G',To (fun _=>False) G h G' h1∧G'.W=G.W∧DevAt 0 (devF G') h1 db d:=by
 have dom:=x.dom
 have hF:∀ c,F c≠0→(fun b=>if b<h.size then devF G b else F b) c=F c:=fun c hc=>by
  have:=(dom c hc).1
  exact if_neg (by omega)
 have hd:∀ b,(fun b=>if b<h.size then devF G b else F b) b≠0→b<h1.size:=fun b hb=>by
  by_cases hl:b<h.size
  ·have:=e.size;omega
  ·have hb:(if b<h.size then devF G b else F b)≠0:=hb
   rw[if_neg hl]at hb;exact(dom b hb).2
 obtain⟨y,ef⟩:=devTo (S:=fun _=>False) (F:=fun b=>if b<h.size then devF G b else F b) t hd e.size (fun b hb=>if_pos hb) (fun b hb _ _=>e.block b hb) (fun _ h=>h.elim)
 refine⟨_,⟨y.le,y.old,y.size,fun b hb _=>e.block b hb,y.ht⟩,rfl,?_⟩
 rw[ef]
 have x:=x.low (Nat.zero_le _)
 obtain⟨w,zs,zb,x⟩:=x
 exact⟨w,zs,zb,x.move hF (fun b hb=>⟨Nat.zero_le _,hd b hb⟩) fun _ _=>rfl⟩
theorem Chg.toG{h':Hp}(t:HT G h)(c:Chg (devF G) h h'):To isDev G h G h':=
 ⟨.refl G,fun _ _=>rfl,c.size,fun b hb hn=>by
  refine c.block b hb ?_
  rcases Nat.eq_zero_or_pos (devF G b) with h0 | h0
  ·exact h0
  ·have h1:devK (G.k b)≠0:=by unfold devF at h0;omega
   exact absurd ⟨(devK_mut h1).1,devK_is h1⟩ hn,t.keep c.size fun b hb=>by
  refine c.block b (t.dom b (by intro hk;rw[hk]at hb;exact hb)) ?_
  rcases Nat.eq_zero_or_pos (devF G b) with h0 | h0
  ·exact h0
  ·have h1:devK (G.k b)≠0:=by unfold devF at h0;omega
   exact absurd hb (devK_mut h1).2⟩
theorem Two.rows1{h1:Hp}{out beh:Sl}{rows rows2:List (Sl × List UInt8)}(t:HT G h)(x:Two h.size h1 out beh rows rows2):RowsS G h1 out rows:=by
 have o:=x.o
 have st:∀ b,h.size≤b→b<h1.size→Stab G h1 b:=fun b h1 h2=>⟨h2,by rw[t.fresh h1];exact fun h=>h⟩
 exact⟨o.own.toRd,o.each,fun a ha=>st _ (o.own.lt ha).1 (o.own.lt ha).2,fun p hp a ha=>st _ (o.base p hp a ha).1 (o.base p hp a ha).2.1⟩
theorem Two.rows2{h1:Hp}{out beh:Sl}{rows rows2:List (Sl × List UInt8)}(t:HT G h)(x:Two h.size h1 out beh rows rows2):RowsS G h1 beh rows2:=by
 obtain⟨L,hL,_,o,_⟩:=x.b
 have st:∀ b,h.size≤b→b<h1.size→Stab G h1 b:=fun b h1 h2=>⟨h2,by rw[t.fresh h1];exact fun h=>h⟩
 exact⟨o.own.toRd,o.each,fun a ha=>st _ (Nat.le_trans hL (o.own.lt ha).1) (o.own.lt ha).2,fun p hp a ha=>st _ (Nat.le_trans hL (o.base p hp a ha).1) (o.base p hp a ha).2.1⟩
end
structure MidIn(G:Gh)(h:Hp)(sb db lb:Nat)(ts:Sl)(d:Dv)(inn count:Nat)(tx:List UInt8)(m:Option Addr)(pos num:Nat):Prop where
 kd:G.k sb=.one 2
 row:Row h sb (stW db m (some ⟨lb,0,none⟩) pos num false)
 dev:DevAt 0 (devF G) h db d
 kl:G.k lb=.one 8
 sl:SlotAt (devF G) h lb db ⟨0,3,6,96,inn,count,false⟩ tx ts
 tst:∀ a,ts.base=some a→Stab G h a.block
 tlo:∀ a,ts.base=some a→sb<a.block
section
variable{G:Gh}{h:Hp}{sb db lb:Nat}{ts:Sl}{d:Dv}{inn count:Nat}{tx:List UInt8}{m:Option Addr}{pos num:Nat}
theorem MidIn.to{S:Kd→Prop}{G':Gh}{h':Hp}(x:MidIn G h sb db lb ts d inn count tx m pos num)(y:To S G h G' h')(hS:∀ k,sStO k →¬ S k):MidIn G' h' sb db lb ts d inn count tx m pos num:=by
 obtain⟨s1,s2,s3⟩:=x.sl.to x.kl x.tst y (hS _ (.inr (.inr rfl)))
 exact⟨y.kd x.kd (by simp),y.rowK x.row x.kd (hS _ (.inr (.inl rfl))),x.dev.to y fun k hk=>hS k (.inl hk),s2,s1,s3,x.tlo⟩
theorem MidIn.pure{G':Gh}{h':Hp}(x:MidIn G h sb db lb ts d inn count tx m pos num)(y:To (fun _=>False) G h G' h'):MidIn G' h' sb db lb ts d inn count tx m pos num:=x.to y fun _ _ h=>h
theorem MidIn.dv{S:Kd→Prop}{G':Gh}{h':Hp}{d':Dv}(x:MidIn G h sb db lb ts d inn count tx m pos num)(y:To S G h G' h')(hS:∀ k,S k→isDev k)(dv:DevAt 0 (devF G') h' db d'):MidIn G' h' sb db lb ts d' inn count tx m pos num:=by
 obtain⟨s1,s2,s3⟩:=x.sl.to x.kl x.tst y fun h=>hS _ h
 exact⟨y.kd x.kd (by simp),y.rowK x.row x.kd fun h=>hS _ h,dv,s2,s1,s3,x.tlo⟩
theorem MidIn.re{S:Kd→Prop}{G':Gh}{h':Hp}{m':Option Addr}{pos' num':Nat}(x:MidIn G h sb db lb ts d inn count tx m pos num)(y:To S G h G' h')(hS:∀ k,S k →¬ isDev k∧k ≠ .one 8)(hr:Row h' sb (stW db m' (some ⟨lb,0,none⟩) pos' num' false)):MidIn G' h' sb db lb ts d inn count tx m' pos' num':=by
 obtain⟨s1,s2,s3⟩:=x.sl.to x.kl x.tst y fun h=>(hS _ h).2 rfl
 exact⟨y.kd x.kd (by simp),hr,x.dev.to y fun k hk h=>(hS k h).1 hk,s2,s1,s3,x.tlo⟩
theorem MidIn.st{M mb em bk am:Nat}{q:Sl}{tb:Nat→Nat}{D:MgrD}(x:MidIn G h sb db lb ts d inn count tx (some ⟨mb,0,none⟩) pos num)(mg:MgrIn G h M mb (1≤D.last) D em bk am q tb):StIn G h M sb ⟨d,inn,count,tx,pos,num,false,D⟩ db lb mb ts em bk am q tb:=
 ⟨x.kd,x.row,x.dev,x.kl,x.sl,x.tst,mg,x.tlo⟩
theorem mount_mgr(t:HT G h)(x:MidIn G h sb db lb ts d inn count tx m pos num)(hn:d.n=8)(hs:d.size=96){stb mp:Nat}{last:Int}{P:List PutD}(st:StateIn G h stb mp last P)(hla:0≤last∧last≤1099511627776)(hne:P ≠ []→1≤last){K K':Int→Hp→Prop}
 (hK:∀ (G':Gh) (h':Hp) (mb em bk am:Nat),To sSt G h G' h'→G'.W=G.W→StIn G' h' 258 sb ⟨d,inn,count,tx,pos,num,false,⟨[],[],0,0,last,last,last,false⟩⟩ db lb mb ts em bk am Sl.nil id→K 0 h') :
 ∃ hR:Hp,Sub hR h∧
   ∃ a2:Addr,(some (⟨stb,0,none⟩:Addr))=some a2∧
   ∃ c26:Int,hY hR a2=some (.int .i64 c26)∧
   HC Tryz.prog 66 #[dp db] h fun r9 vh13=>
   ∃ c27:Int,∃ c28:Int,r9=.agg #[.int .i64 c27,.int .i64 c28]∧
   Sub hR vh13∧
   HC Tryz.prog 75 #[.agg #[.int .i64 c27,.int .i64 c28]] vh13 fun r10 vh14=>
   ∃ c29:Int,r10=.int .i64 c29∧
   Sub hR vh14∧
   HC Tryz.prog 74 #[.int .i64 c29,.int .i64 c26] vh14 fun r11 vh15=>
   ∃ c30:Option Addr,∃ c31:Int,r11=.tuple #[.pointer c30,.int .i64 c31]∧
   Sub hR vh15∧
   ∃ a3:Addr,(some (⟨sb,0,none⟩:Addr))=some a3∧
   StOk vh15 (a3.add 5)∧
   Lt (hset vh15 (a3.add 5) (.pointer c30)) fun vh16=>
   Sub hR vh16∧
   IfB (c31 ==(0:Int)) (∃ hR1:Hp,Sub hR1 vh16∧
    ∃ a4:Addr,(some (⟨sb,0,none⟩:Addr))=some a4∧
    ∃ c32:Option Addr,hY hR1 (a4.add 5)=some (.pointer c32)∧
    HC Tryz.prog 77 #[.pointer (some (⟨stb,0,none⟩:Addr))] vh16 fun r12 vh17=>
    ∃ c33:Sl,r12=.slice c33.base c33.len c33.cap∧
    Sub hR1 vh17∧
    HC Tryz.prog 76 #[.pointer c32,.slice c33.base c33.len c33.cap] vh17 fun r13 vh18=>
    ∃ c34:Int,r13=.int .i64 c34∧
    Sub hR1 vh18∧K c34 vh18) (K' c31 vh16):=by
 have eg:(Value.agg #[.int .i64 (d.n:Int),.int .i64 (d.size:Int)])=.agg #[.int .i64 (8:Int),.int .i64 (96:Int)]:=by rw[hn,hs];rfl
 obtain⟨ob,hob,rob⟩:=st.row.only
 have hstb:=st.row.lt
 refine⟨onlyB stb ob,sub_only hob,_,rfl,_,rob.get0 rfl,(Geometry_spec x.dev).mono ?_⟩
 rintro _ h1 ⟨rfl,e1⟩
 rw[eg]
 refine⟨_,_,rfl,sub_only (by rw[e1.block _ hstb];exact hob),(spCap_spec h1).mono ?_⟩
 rintro _ h2 ⟨rfl,e2⟩
 have e02:=e1.trans e2
 refine⟨_,rfl,sub_only (by rw[e02.block _ hstb];exact hob),(mNew_spec (t.ext e02) 0 (1≤last) hla).mono ?_⟩
 rintro _ h3 ⟨mb,G3,em,bk,am,rfl,y3,w3,m3,hem,_,hmb⟩
 have y03:To (fun _=>False) G h G3 h3:=(e02.to t).trans y3
 have x3:=x.pure y03
 have st3:=st.to y03 id id
 have hob3:h3[stb]? = some ob:=by rw[y03.toExt.block _ hstb];exact hob
 have hne2:stb≠sb:=fun e=>by have:=st3.kb;rw[e,x3.kd]at this;cases this
 obtain⟨ok4,b4,row4⟩:=kset y03.ht x3.kd (fun h=>h) x3.row (i:=5) (by simp[stW]) (.pointer (some ⟨mb,0,none⟩))
 have y4:To (fun k=>k=.one 2) G3 h3 G3 _:=b4.to (by rw[x3.kd];exact⟨trivial,rfl⟩)
 refine⟨_,_,rfl,sub_only hob3,_,rfl,ok4,sub_only (by rw[b4.fr _ (by have:=y03.size;omega) hne2];exact hob3),.yes rfl ?_⟩
 have x4:=x3.re y4 (m':=some ⟨mb,0,none⟩) (pos':=pos) (num':=num) (fun k hk=>by subst hk;exact⟨fun h=>h,by simp⟩) row4
 have st4:=st3.to y4 (by simp) (by simp)
 have m4:=m3.to y4 (Nat.le_refl _) fun k hk e=>by rw[e]at hk;simp[sMgr]at hk
 have hem4:hY (hset h3 ((⟨sb,0,none⟩:Addr).add 5) (.pointer (some ⟨mb,0,none⟩))) ((⟨em,0,none⟩:Addr).add 2)=some (.int .i64 0):=by
  rw[← hem]
  refine hcell_eq (b4.fr _ (by have:=hcell_lt hem;exact this) fun e=>?_)
  have e:em=sb:=e
  have:=m3.ext.kd
  rw[e,x3.kd]at this;cases this
 generalize hset h3 ((⟨sb,0,none⟩:Addr).add 5) (.pointer (some ⟨mb,0,none⟩))=h4 at *
 obtain⟨ob4,hob4,rob4⟩:=x4.row.only
 have hsb4:=x4.row.lt
 refine⟨onlyB sb ob4,sub_only hob4,_,rfl,_,rob4.get rfl,(stPuts_spec y4.ht st4).mono ?_⟩
 rintro _ h5 ⟨s,rfl,y5,p5⟩
 have hob5:h5[sb]? = some ob4:=by rw[y5.toExt.block _ hsb4];exact hob4
 refine⟨s,rfl,sub_only hob5,?_⟩
 have m5:=m4.pure y5
 have hem5:hY h5 ((⟨em,0,none⟩:Addr).add 2)=some (.int .i64 0):=by
  rw[← hem4];exact hcell_eq (y5.toExt.block _ (hcell_lt hem4))
 refine(mLoad_spec y5.ht m5 hem5 p5 st.ok st.ok.le258 (by omega) (fun q hq=>by rw[w3];exact st.w q hq) hla hne).mono ?_
 rintro _ h6 ⟨G6,rfl,y6,w6,m6,_⟩
 have x6:=(x4.pure y5).to y6 sO_ext
 refine⟨_,rfl,sub_only ?_,hK G6 h6 mb em bk am ?_ (w6.trans w3) (x6.st (m6.imp fun h=>h.elim id id))⟩
 ·rw[y6.fr _ (by have:=y5.size;omega) fun hh=>by
   rw[(x4.pure y5).kd]at hh;exact absurd hh.2 (sO_ext _ (.inr (.inl rfl)))]
  exact hob5
 ·exact(((y03.mono fun _ h=>h.elim).trans (y4.mono fun k hk=>s62_st k (.inr hk))).trans (y5.mono fun _ h=>h.elim)).trans (y6.mono sExt_st)
end
section
variable{G:Gh}{h:Hp}
theorem sMount_spec{db:Nat}{d:Dv}(t:HT G h)(x:DevAt 0 (devF G) h db d){N inn count:Nat}{tx:List UInt8}(mt:MtOk G.W N inn count tx d)(hN:192≤N)(hN2:N≤900000) :
 HC Tryz.prog 35 #[dp db] h fun r h'=>∃ (sb:Nat) (G':Gh) (X':StD) (last:Int),r=.tuple #[pv sb,.int .i64 0]∧To sSt G h G' h'∧G'.W=G.W∧StAt G' h' 258 sb db X'∧SrOk G.W (N+1) X'∧Live X'.dv∧X'.D=⟨[],[],0,0,last,last,last,false⟩∧
  (tx = []→(∀ m,m<2→(d.z (6+m)).rows = [])→last=0∧X'.num=0∧X'.pos=0∧X'.count=count):=by
 apply wc35
 unfold vc35
 have hn:=mt.n
 have hs:=mt.size
 have eg:(Value.agg #[.int .i64 (d.n:Int),.int .i64 (d.size:Int)])=.agg #[.int .i64 (8:Int),.int .i64 (96:Int)]:=by rw[hn,hs];rfl
 refine(Geometry_spec x).mono ?_
 rintro _ h1 ⟨rfl,e1⟩
 rw[eg]
 refine⟨_,_,rfl,(spSplit_spec h1).mono ?_⟩
 rintro _ h2 ⟨rfl,e2⟩
 refine⟨_,_,_,_,_,rfl,?_⟩
 intro h3
 have e3:Ext h2 h3:=alc_ext _ _ _
 have s3:h3.size=h2.size+1:=size_alc _ _ _
 have r3:Row h3 h2.size [.int .i64 (0:Int),.int .i64 (0:Int),.int .i64 (0:Int),.int .i64 (0:Int)]:=Row.alc _ _ _
 refine r3.put (vs:=[.int .i64 (0:Int),.int .i64 (3:Int),.int .i64 (6:Int),.int .i64 (7:Int)]) rfl (by simp[cellOk]) fun h4 r4 s4 o4=>.no rfl ⟨_,_,_,_,r4.get0 rfl,r4.get rfl,r4.get rfl,r4.get rfl,?_⟩
 intro h5
 have e4:Ext h2 h4:=⟨by omega,fun b hb=>by rw[o4 b (by omega),e3.block b hb]⟩
 have e5:Ext h4 h5:=alc_ext _ _ _
 have s5:h5.size=h4.size+1:=size_alc _ _ _
 have e04:=(e1.trans e2).trans e4
 have row5:Row h5 h4.size (stW db none none 0 0 false):=Row.alc _ _ _
 have t4:=t.ext e04
 obtain⟨y5,k5,w5⟩:=t4.kindNew e5 (b:=h4.size) (Nat.le_refl _) row5.lt (k := .one 2) id
 generalize G.set h4.size (.one 2) 0=G5 at *
 have y05:To (fun _=>False) G h G5 h5:=(e04.to t).trans y5
 have x5:=x.to y05 fun _ _ h=>h
 have r45:=r4.ext e5
 refine⟨_,r45.get0 rfl,_,r45.get rfl,_,r45.get rfl,(Open_spec x5 _ _ _).mono ?_⟩
 rintro _ h6 hop
 have hok:OpenOk d 0 3 6:=⟨by omega,by omega,by omega,by rw[hn];omega⟩
 have hfl:d.flush.1=0:=by rw[flush_live mt.live]
 have hpick:=mt.slots.pick
 rcases hop with ⟨hno,_⟩ | ⟨_,q,⟨i,hi,hodd⟩,_⟩ | ⟨_,q,F6,dv6,g6,c6,_,_,⟨hne,_⟩ | ⟨_,lb,ts,hlb,htsb,rfl,sl6⟩⟩
 ·exact absurd hok hno
 ·exfalso
  rcases(show i=0∨i=1 by omega) with rfl | rfl
  ·have h1:(zRows d 0 (3-0)).any oddB=true:=hodd
   rw[mt.slots.odd0]at h1;cases h1
  ·have h1:(zRows d 3 (6-3)).any oddB=true:=hodd
   rw[mt.slots.odd1]at h1;cases h1
 ·exact absurd hfl hne
 have sl6:SlotAt F6 h6 lb db ⟨0,3,6,d.size,(pickS (zRows d 0 (3-0)) (zRows d 3 (6-3))).1,(pickS (zRows d 0 (3-0)) (zRows d 3 (6-3))).2.2,false⟩ (pickS (zRows d 0 (3-0)) (zRows d 3 (6-3))).2.1 ts:=sl6
 rw[hpick,hs]at sl6
 have lq:Live (withReads d q):=mt.live
 have wq:(withReads d q).Wf:=mt.wf.reads q
 rw[flush_live lq]at dv6
 have ok6:OkD d (withReads d q).tick.flushed:=⟨⟨lq.tick.1,lq.tick.2⟩,wq.tick.flushed,rfl,rfl⟩
 have mt6:MtOk G.W N inn count tx (withReads d q).tick.flushed:=mt.same ok6 (fun j=>by rw[Dv.flushed_z]) fun j=>by rw[Dv.flushed_z];rfl
 generalize hd6:(withReads d q).tick.flushed=d6 at *
 have hr6:∀ j,(d6.z j).rows=(d.z j).rows:=fun j=>by rw[← hd6,Dv.flushed_z];rfl
 have s6:=c6.size
 obtain⟨y6,ef6⟩:=devTo (S:=fun _=>False) y5.ht (fun b hb=>(dv6.dom b hb).2) s6 g6 (fun b hb hF _=>c6.block b hb hF) (fun _ h=>h.elim)
 have y6:To isDev G5 h5 (G5.dev h5.size F6) h6:=y6.mono fun k hk=>hk.elim id False.elim
 have kl6:(G5.dev h5.size F6).k lb=.any:=by rw[Gh.dev_new (by omega),if_pos sl6.role]
 have t6:=y6.ht.setOne kl6 sl6.row.lt (k := .one 8) id
 have y6':To isDev G5 h5 ((G5.dev h5.size F6).set lb (.one 8) ((G5.dev h5.size F6).n lb)) h6:=y6.give (Gh.set_le kl6 (Nat.le_refl _)) t6 (s:=⟨some ⟨lb,0,none⟩,0,0⟩) (fun a ha=>by cases ha;exact hlb) fun c hc=>Gh.set_ne (hc _ rfl)
 have w6:((G5.dev h5.size F6).set lb (.one 8) ((G5.dev h5.size F6).n lb)).W=G.W:=w5
 have ef6':devF ((G5.dev h5.size F6).set lb (.one 8) ((G5.dev h5.size F6).n lb))=F6:=by
  funext b
  by_cases e:b=lb
  ·subst e
   show devK (((G5.dev h5.size F6).set b (.one 8) ((G5.dev h5.size F6).n b)).k b)=_
   rw[Gh.set_k,sl6.role];rfl
  ·show devK (((G5.dev h5.size F6).set lb (.one 8) ((G5.dev h5.size F6).n lb)).k b)=_
   rw[Gh.set_ne e]
   exact congrFun ef6 b
 have kl6':((G5.dev h5.size F6).set lb (.one 8) ((G5.dev h5.size F6).n lb)).k lb=.one 8:=Gh.set_k
 have tst6:∀ a,ts.base=some a→Stab ((G5.dev h5.size F6).set lb (.one 8) ((G5.dev h5.size F6).n lb)) h6 a.block:=fun a ha=>by
  obtain⟨b1,b2,b3⟩:=sl6.tb a ha
  have:=htsb a ha
  refine⟨b2,?_⟩
  rw[Gh.set_ne b3,Gh.dev_new (by omega),if_pos b1]
  exact fun h=>h
 generalize (G5.dev h5.size F6).set lb (.one 8) ((G5.dev h5.size F6).n lb)=G6 at *
 rw[← ef6']at dv6 sl6
 have kd6:G6.k h4.size=.one 2:=y6'.kd k5 (by simp)
 have row6:Row h6 h4.size (stW db none none 0 0 false):=y6'.rowK row5 k5 fun h=>h
 obtain⟨ok7,b7,row7⟩:=kset y6'.ht kd6 (fun h=>h) row6 (i:=6) (by simp[stW]) (.pointer (some ⟨lb,0,none⟩))
 have row7:Row (hset h6 ((⟨h4.size,0,none⟩:Addr).add 6) (.pointer (some ⟨lb,0,none⟩))) h4.size (stW db none (some ⟨lb,0,none⟩) 0 0 false):=row7
 have y7:To (fun k=>k=.one 2) G6 h6 G6 _:=b7.to (by rw[kd6];exact⟨trivial,rfl⟩)
 obtain⟨sl7,kl7,tst7⟩:=sl6.to kl6' tst6 y7 (by simp)
 have x7:MidIn G6 _ h4.size db lb ts d6 inn count tx none 0 0:=⟨kd6,row7,dv6.to y7 (fun k hk e=>by rw[e]at hk;exact hk),kl7,sl7,tst7,fun a ha=>by have:=htsb a ha;omega⟩
 have y07:To sSt G h G6 _:=((y05.mono fun _ h=>h.elim).trans (y6'.mono isDev_st)).trans (y7.mono fun k hk=>s62_st k (.inr hk))
 refine⟨_,_,rfl,_,rfl,ok7,.no rfl ?_⟩
 show ∃ a1:Addr,(some (⟨h4.size,0,none⟩:Addr))=some a1∧_
 rw[show nw h4=⟨h4.size,0,none⟩ from rfl]
 generalize hset h6 ((⟨h4.size,0,none⟩:Addr).add 6) (.pointer (some ⟨lb,0,none⟩))=h7 at *
 generalize h4.size=sb at *
 refine⟨_,rfl,_,x7.row.get rfl,(Load_spec x7.sl.row x7.sl.text (by have:=mt.text.len;omega)).mono ?_⟩
 rintro _ h8 ⟨u,rfl,ou,lu,e8⟩
 obtain⟨G8,y8,_,sl8,_,w8⟩:=OwnN.bytes (e8.to (S:=fun _=>False) y07.ht) (ou.toN y07.ht (Nat.le_refl _))
 refine⟨u,_,rfl,(parse_spec y8.ht sl8 (by rw[w8,w6];exact mt.text)).mono ?_⟩
 rintro _ h9 ⟨stb,mp,last,P,G9,rfl,y9,w9,st9,hla,hne,hemp⟩
 have x9:=(x7.pure y8).pure y9
 have y09:To sSt G h G9 h9:=(y07.trans (y8.mono fun _ h=>h.elim)).trans (y9.mono fun _ h=>h.elim)
 have hW9:G9.W=G.W:=w9.trans (w8.trans w6)
 refine⟨_,_,rfl,.no rfl ((sLog_spec x9.dev mt6.n x9.row (by show devK (G9.k sb)=0;rw[x9.kd];rfl)).mono ?_)⟩
 rintro _ h10 ⟨out,beh,rows,rows2,q2,rfl,tw,hr1,hr2,dv10,c10⟩
 have y10:=c10.toG y9.ht
 have x10:=x9.dv y10 (fun _ h=>h) dv10
 have st10:=st9.to y10 (fun h=>h) (fun h=>h)
 have rs1:=tw.rows1 y9.ht
 have rs2:=tw.rows2 y9.ht
 have hlen:=outJ_len mt6.wf mt6.size
 have hl1:rows.length≤192:=by have:=congrArg List.length hr1;rw[List.length_map]at this;omega
 have hl2:rows2.length≤192:=by have:=congrArg List.length hr2;rw[List.length_map]at this;omega
 have hj1:∀ p∈rows,JB G9.W p.2:=fun p hp=>by
  obtain⟨m,hm,hp⟩:=outJ_mem (d:=d6) (p:=p.2) (by rw[← hr1];exact List.mem_map_of_mem hp)
  rw[hW9];exact mt6.rows m hm _ hp
 have hj2:∀ p∈rows2,JB G9.W p.2:=fun p hp=>by
  obtain⟨m,hm,hp⟩:=behJ_mem (d:=d6) (p:=p.2) (by rw[← hr2];exact List.mem_map_of_mem hp)
  rw[hW9];exact mt6.rows m hm _ hp
 have nostr:∀ {l:List (Sl × List UInt8)},(∀ p∈l,JB G9.W p.2)→(l.any fun x=>strangeB x.2)=false:=fun hl=>by
  rw[List.any_eq_false]
  intro p hp
  have:=(hl p hp).2.1
  unfold strangeB
  simp only[decide_eq_true_eq]
  omega
 have hstr:∀ {l:List (Sl × List UInt8)},(∀ p∈l,JB G9.W p.2) →∀ x∈l,∀ c:Sl,Rd 1 h10 c (x.2.map bv)→HC Tryz.prog 72 #[.slice c.base c.len c.cap] h10 fun r h'=>r=.bool (strangeB x.2)∧h'=h10:=fun hl x hx c hc=>strange_spec hc (by have:=(hl x hx).1;omega)
 refine⟨out,beh,rfl,(rowsContains_spec rs1.rd.rd (by have:=rs1.rd.len;simpa using this.symm) rs1.each (by omega) (hstr hj1)).mono ?_⟩
 rintro _ _ ⟨rfl,hh⟩
 obtain rfl:=hh.symm
 rw[nostr hj1]
 refine⟨_,rfl,.no rfl ((rowsContains_spec rs2.rd.rd (by have:=rs2.rd.len;simpa using this.symm) rs2.each (by omega) (hstr hj2)).mono ?_)⟩
 rintro _ _ ⟨rfl,hh⟩
 obtain rfl:=hh.symm
 rw[nostr hj2]
 refine⟨_,rfl,.no rfl ((sReplay_spec y10.ht (by rw[hW9];exact mt.w) x10.kd x10.row x10.kl x10.sl.row x10.sl.text (by have:=mt.text.len;omega) st10 hla hne rs1 (by omega) hj1).mono ?_)⟩
 rintro _ h11 ⟨torn,pos,num,last',P',rfl,y11,row11,st11,hla',hne',hpos,hnp,htorn,hrows0⟩
 have x11:=x10.re y11 (fun k hk=>⟨fun hd=>by cases k <;> first | exact hk | exact hd,fun e=>by subst e;simp[sMnt]at hk⟩) row11
 have y011:To sSt G h G9 h11:=(y09.trans (y10.mono isDev_st)).trans (y11.mono sMnt_st)
 have mt11:MtOk G.W N inn count tx (withReads d6 q2):=mt6.same ⟨mt6.live,mt6.wf.reads q2,rfl,rfl⟩ mt6.good fun _=>rfl
 have mo:MgrOk N ⟨[],[],0,0,last',last',last',false⟩:=MgrOk.new N hla'
 have hbl:beh.len=rows2.length:=by have:=rs2.rd.len;simpa using this.symm
 have ck:∀ {G':Gh} {h':Hp} {mb em bk am:Nat},To sSt G9 h11 G' h'→G'.W=G9.W→StIn G' h' 258 sb ⟨withReads d6 q2,inn,count,tx,pos,num,false,⟨[],[],0,0,last',last',last',false⟩⟩ db lb mb ts em bk am Sl.nil id→(rows ≠ []∨rows2 ≠ [])→HC Tryz.prog 53 #[pv sb] h' fun r14 vh19=>
  ∃ c35:Int,r14=.int .i64 c35∧c35=0∧∃ (G':Gh) (X':StD) (last:Int),To sSt G h G' vh19∧G'.W=G.W∧StAt G' vh19 258 sb db X'∧SrOk G.W (N+1) X'∧Live X'.dv∧X'.D=⟨[],[],0,0,last,last,last,false⟩∧(tx = []→(∀ m,m<2→(d.z (6+m)).rows = [])→last=0∧X'.num=0∧X'.pos=0∧X'.count=count):=by
  intro G' h' mb em bk am y' w' xs hnz
  have hw':G'.W=G.W:=w'.trans hW9
  refine(sCheck_spec y'.ht ⟨lb,mb,ts,em,bk,am,Sl.nil,id,xs⟩ (N:=N) (by rw[hw'];exact mt11) mo rfl hN2 (by omega)).mono ?_
  rintro _ h12 ⟨G12,X12,rfl,y12,w12,x12,o12,l12,hD⟩
  refine⟨0,rfl,rfl,G12,X12,last',(y011.trans y').trans y12,w12.trans hw',x12,by rw[hw']at o12;exact o12,l12,hD,fun _ hz=>?_⟩
  exfalso
  have h0:∀ p,p ∉ (d6.z 6).rows:=fun p hp=>by rw[hr6 6,hz 0 (by omega)]at hp;simp at hp
  rcases hnz with hnz | hnz
  ·obtain⟨p,hp⟩:=List.exists_mem_of_ne_nil _ hnz
   obtain⟨m,hm,hp⟩:=outJ_mem (d:=d6) (p:=p.2) (by rw[← hr1];exact List.mem_map_of_mem hp)
   rw[hr6,hz m hm]at hp;simp at hp
  ·obtain⟨p,hp⟩:=List.exists_mem_of_ne_nil _ hnz
   obtain⟨m,hm,hp⟩:=behJ_mem (d:=d6) (p:=p.2) (by rw[← hr2];exact List.mem_map_of_mem hp)
   rw[hr6,hz m hm]at hp;simp at hp
 refine⟨torn,rfl,IfB.intro (fun ht=>mount_mgr y11.ht x11 mt11.n mt11.size st11 hla' hne' fun G' h' mb em bk am y' w' xs=>?_) (fun hf=>mount_mgr y11.ht x11 mt11.n mt11.size st11 hla' hne' fun G' h' mb em bk am y' w' xs=>?_)⟩
 ·refine .no rfl ((ck y' w' xs (.inl fun e=>by have:=(hrows0 e).1;rw[ht]at this;cases this)).mono ?_)
  rintro _ h12 ⟨c,rfl,rfl,G2,X2,last2,y2,w2,x2,o2,l2,hD,hz⟩
  exact⟨0,rfl,.no rfl ⟨sb,G2,X2,last2,rfl,y2,w2,x2,o2,l2,hD,hz⟩⟩
 ·refine .no rfl (IfB.dec (fun hb=>?_) (fun hb=>.no rfl ?_))
  ·refine(ck y' w' xs (.inr fun e=>by rw[e]at hbl;simp at hbl;omega)).mono ?_
   rintro _ h12 ⟨c,rfl,rfl,G2,X2,last2,y2,w2,x2,o2,l2,hD,hz⟩
   exact⟨0,rfl,.no rfl ⟨sb,G2,X2,last2,rfl,y2,w2,x2,o2,l2,hD,hz⟩⟩
  ·have h2:rows2 = []:=List.eq_nil_of_length_eq_zero (by omega)
   have hb0:behJ d6 2 = []:=by rw[← hr2,h2];rfl
   obtain⟨hp,hg⟩:=htorn hf
   have hpart:=outJ_part mt6.wf mt6.size hb0
   rw[hW9]at hj1
   refine⟨sb,G',_,last',rfl,y011.trans y',w'.trans hW9,⟨lb,mb,ts,em,bk,am,Sl.nil,id,xs⟩,?_,mt11.live,rfl,fun htx hz=>?_⟩
   ·refine⟨mt11.n,mt11.size,mt11.wf,mt11.good,rfl,mt11.slots,Nat.le_succ_of_le mt11.count,by show num≤_;omega,mt11.text,⟨outJ d6 2,?_,?_,fun p hp=>?_,hpart⟩,mo.more (Nat.le_succ _),mt11.w⟩
    ·show _=pos
     rw[← hr1,List.length_map,hp]
    ·show pos≤192;omega
    ·rw[← hr1]at hp
     obtain⟨z,hz,rfl⟩:=List.mem_map.1 hp
     exact⟨hg z hz,hj1 z hz⟩
   ·have hr0:rows = []:=by
     cases rows with
     | nil=>rfl
     | cons p r=>
       obtain⟨m,hm,hp⟩:=outJ_mem (d:=d6) (p:=p.2) (by rw[← hr1];simp)
       rw[hr6,hz m hm]at hp;simp at hp
    obtain⟨_,hn0,_,hl0⟩:=hrows0 hr0
    have:=(hemp htx).2
    refine⟨hl0.trans this,hn0,?_,rfl⟩
    show pos=0
    rw[hp,hr0];rfl
end
structure CSl where
 ops:Sl
 beg:Sl
 ans:Sl
 asked:Bool
 L:List Nat
def clV(c:CSl):List Value:=[.slice c.ops.base c.ops.len c.ops.cap,.slice c.beg.base c.beg.len c.beg.cap,.slice c.ans.base c.ans.len c.ans.cap,.bool c.asked]
def scV(db sb:Nat)(cl:List CSl)(all:Sl)(ev:Int):List Value:=[dp db,pv sb]++cl.flatMap clV ++ [.slice all.base all.len all.cap,.int .i64 ev]
structure BgD where
 h:Nat
 st:Int
 P:List PutD
 fr:Int
 to_:Int
theorem flat8(cl:List CSl)(h:cl.length=8):∃ a b c d e f g i,cl = [a,b,c,d,e,f,g,i]:=by
 match cl,h with
 | [a,b,c,d,e,f,g,i],_=>exact⟨a,b,c,d,e,f,g,i,rfl⟩
theorem scV_len{db sb:Nat}{cl:List CSl}{all:Sl}{ev:Int}(h:cl.length=8):(scV db sb cl all ev).length=36:=by
 obtain⟨a,b,c,d,e,f,g,i,rfl⟩:=flat8 cl h
 rfl
theorem scV_get{db sb:Nat}{cl:List CSl}{all:Sl}{ev:Int}(h:cl.length=8){k j:Nat}(hk:k<8)(hj:j<4){c:CSl}(hc:cl[k]? = some c):(scV db sb cl all ev)[2+(k*4+j)]? =(clV c)[j]?:=by
 obtain⟨a,b,c',d,e,f,g,i,rfl⟩:=flat8 cl h
 match k,hk with
 | 0,_=>simp at hc;subst hc;match j,hj with | 0,_=>rfl | 1,_=>rfl | 2,_=>rfl | 3,_=>rfl
 | 1,_=>simp at hc;subst hc;match j,hj with | 0,_=>rfl | 1,_=>rfl | 2,_=>rfl | 3,_=>rfl
 | 2,_=>simp at hc;subst hc;match j,hj with | 0,_=>rfl | 1,_=>rfl | 2,_=>rfl | 3,_=>rfl
 | 3,_=>simp at hc;subst hc;match j,hj with | 0,_=>rfl | 1,_=>rfl | 2,_=>rfl | 3,_=>rfl
 | 4,_=>simp at hc;subst hc;match j,hj with | 0,_=>rfl | 1,_=>rfl | 2,_=>rfl | 3,_=>rfl
 | 5,_=>simp at hc;subst hc;match j,hj with | 0,_=>rfl | 1,_=>rfl | 2,_=>rfl | 3,_=>rfl
 | 6,_=>simp at hc;subst hc;match j,hj with | 0,_=>rfl | 1,_=>rfl | 2,_=>rfl | 3,_=>rfl
 | 7,_=>simp at hc;subst hc;match j,hj with | 0,_=>rfl | 1,_=>rfl | 2,_=>rfl | 3,_=>rfl
theorem scV_all{db sb:Nat}{cl:List CSl}{all:Sl}{ev:Int}(h:cl.length=8):(scV db sb cl all ev)[34]? = some (.slice all.base all.len all.cap)∧(scV db sb cl all ev)[35]? = some (.int .i64 ev):=by
 obtain⟨a,b,c',d,e,f,g,i,rfl⟩:=flat8 cl h
 exact⟨rfl,rfl⟩
theorem clV_len(c:CSl):(clV c).length=4:=rfl
theorem flat_set{post:List Value}{j:Nat}(hj:j<4){c c':CSl}{v:Value}(hv:(clV c).set j v=clV c'):∀ (cl:List CSl) (k:Nat),cl[k]? = some c→(cl.flatMap clV++post).set (k*4+j) v=(cl.set k c').flatMap clV++post
 | [],k,h=>by simp at h
 | x::r,0,h=>by
   simp at h
   subst h
   simp only[List.flatMap_cons,List.set_cons_zero,List.append_assoc]
   rw[show 0*4+j=j by omega,List.set_append_left _ _ (by rw[clV_len];exact hj),hv]
 | x::r,k+1,h=>by
   simp at h
   simp only[List.flatMap_cons,List.set_cons_succ,List.append_assoc]
   rw[List.set_append_right _ _ (by rw[clV_len];omega),clV_len,show(k+1)*4+j-4=k*4+j by omega,flat_set hj hv r k h]
theorem scV_set{db sb:Nat}{cl:List CSl}{all:Sl}{ev:Int}{k j:Nat}(hj:j<4){c c':CSl}(hc:cl[k]? = some c){v:Value}(hv:(clV c).set j v=clV c'):(scV db sb cl all ev).set (2+(k*4+j)) v=scV db sb (cl.set k c') all ev:=by
 unfold scV
 rw[List.append_assoc,List.append_assoc,List.set_append_right _ _ (by simp),← flat_set hj hv cl k hc]
 congr 2
 simp
theorem scV_setAll{db sb:Nat}{cl:List CSl}{all all':Sl}{ev:Int}(h:cl.length=8):(scV db sb cl all ev).set 34 (.slice all'.base all'.len all'.cap)=scV db sb cl all' ev:=by
 obtain⟨a,b,c',d,e,f,g,i,rfl⟩:=flat8 cl h
 rfl
theorem scV_setEv{db sb:Nat}{cl:List CSl}{all:Sl}{ev ev':Int}(h:cl.length=8):(scV db sb cl all ev).set 35 (.int .i64 ev')=scV db sb cl all ev':=by
 obtain⟨a,b,c',d,e,f,g,i,rfl⟩:=flat8 cl h
 rfl
structure ClOk(G:Gh)(h:Hp)(N k:Nat)(c:CSl)(n:Nat)(bb:Nat→Nat):Prop where
 ops:SlA G (.ops 0) c.ops
 len:c.ops.len≤200
 asked:c.asked=true→1≤c.ops.len
 beg:OwnK (.one (12+k)) 1 G h c.beg (c.L.map fun i=>pv (bb i))
 L:∀ i∈c.L,i<n
 ans:SlA G (.ans 0) c.ans
 ansN:c.ans.len≤N
 LN:c.L.length≤N
structure BgAt(G:Gh)(h:Hp)(i bk:Nat)(b:BgD):Prop where
 kd:G.k bk=.beg i
 row:∃ (g tm f t:Int) (rs ps:Sl),Row h bk [.int .i64 (b.h:Int),.int .i64 b.fr,.int .i64 b.to_,.int .i64 b.st,.int .i64 g,.int .i64 tm,.int .i64 f,.int .i64 t,.slice rs.base rs.len rs.cap,.slice ps.base ps.len ps.cap]∧SlA G (.reads 0) rs∧rs.len≤1000000∧SlP G ps b.P∧PutsB b.P
structure SdIn(G:Gh)(h:Hp)(M N sc:Nat)(X:StD)(cl:List CSl)(bg:List BgD)(na:Nat)(ev:Int)(db sb:Nat)(all:Sl)(bb:Nat→Nat):Prop where
 kd:G.k sc=.one 1
 row:Row h sc (scV db sb cl all ev)
 len:cl.length=8
 st:StAt G h M sb db X
 cls:∀ k c,cl[k]? = some c→ClOk G h N k c bg.length bb
 all:OwnK (.one 11) 1 G h all ((List.range na).map fun i=>pv (bb i))
 beg:∀ i b,bg[i]? = some b→BgAt G h i (bb i) b
def sSc:Kd→Prop
 | .one n=>n=1∨(11≤n∧n≤19)
 | .beg _=>True
 | .arr (.ops _) _=>True
 | .arr (.ans _) _=>True
 | _=>False
theorem sSc_not:∀ k,sStO k∨sMgr k →¬ sSc k:=fun k hk=>by
 rcases hk with (hk | rfl | rfl) | hk
 ·cases k <;> first | exact hk.elim | exact fun h=>h
 ·simp[sSc]
 ·simp[sSc]
 ·cases k <;> first | exact hk.elim | (simp only[sMgr]at hk;simp only[sSc];omega) | exact fun h=>h
section
variable{G:Gh}{h:Hp}{M N sc:Nat}{X:StD}{cl:List CSl}{bg:List BgD}{na:Nat}{ev:Int}{db sb:Nat}{all:Sl}{bb:Nat→Nat}
theorem StAt.to{S:Kd→Prop}{G':Gh}{h':Hp}{M':Nat}(x:StAt G h M sb db X)(y:To S G h G' h')(hM:M≤M')(hS:∀ k,sStO k∨sMgr k →¬ S k):StAt G' h' M' sb db X:=by
 obtain⟨lb,mb,ts,em,bk,am,q,tb,x⟩:=x
 exact⟨lb,mb,ts,em,bk,am,q,tb,x.to y hM hS⟩
theorem ClOk.to{S:Kd→Prop}{G':Gh}{h':Hp}{N' k n n':Nat}{c:CSl}{bb':Nat→Nat}(x:ClOk G h N k c n bb)(y:To S G h G' h')(hN:N≤N')(hn:n≤n')(hb:∀ i,i<n→bb' i=bb i)(hS:¬ S (.one (12+k))):ClOk G' h' N' k c n' bb':=by
 refine⟨x.ops.mono y.le,x.len,x.asked,?_,fun i hi=>Nat.lt_of_lt_of_le (x.L i hi) hn,x.ans.mono y.le,Nat.le_trans x.ansN hN,Nat.le_trans x.LN hN⟩
 have:=x.beg.to y hS
 have e:(c.L.map fun i=>pv (bb' i))=c.L.map fun i=>pv (bb i):=List.map_congr_left fun i hi=>by rw[hb i (x.L i hi)]
 rw[e];exact this
theorem BgAt.to{S:Kd→Prop}{G':Gh}{h':Hp}{i bk:Nat}{b:BgD}(x:BgAt G h i bk b)(y:To S G h G' h')(hS:¬ S (.beg i)):BgAt G' h' i bk b:=by
 obtain⟨g,tm,f,t,rs,ps,r,a,l,p,q⟩:=x.row
 exact⟨y.kd x.kd (by simp),g,tm,f,t,rs,ps,y.rowK r x.kd hS,a.mono y.le,l,p.mono y.le,q⟩
theorem sSt_cl{k:Nat}(hk:k<8):¬ sSt (.one (12+k)):=by simp only[sSt];omega
theorem SdIn.lt(x:SdIn G h M N sc X cl bg na ev db sb all bb){k:Nat}{c:CSl}(hc:cl[k]? = some c):k<8:=by
 have:=(List.getElem?_eq_some_iff.1 hc).1
 have:=x.len
 omega
theorem SdIn.str{G':Gh}{h':Hp}{M' N':Nat}{X':StD}(x:SdIn G h M N sc X cl bg na ev db sb all bb)(y:To sSt G h G' h')(hN:N≤N')(s:StAt G' h' M' sb db X'):SdIn G' h' M' N' sc X' cl bg na ev db sb all bb:=
 ⟨y.kd x.kd (by simp),y.rowK x.row x.kd (by simp[sSt]),x.len,s,fun k c hc=>(x.cls k c hc).to y hN (Nat.le_refl _) (fun _ _=>rfl) (sSt_cl (x.lt hc)),x.all.to y (by simp[sSt]),fun i b hb=>(x.beg i b hb).to y id⟩
theorem SdIn.pure{G':Gh}{h':Hp}(x:SdIn G h M N sc X cl bg na ev db sb all bb)(y:To (fun _=>False) G h G' h'):SdIn G' h' M N sc X cl bg na ev db sb all bb:=
 x.str (y.mono fun _ h=>h.elim) (Nat.le_refl _) (x.st.to y (Nat.le_refl _) fun _ _ h=>h)
theorem SdIn.own{G':Gh}{h':Hp}{ev':Int}(x:SdIn G h M N sc X cl bg na ev db sb all bb)(y:To (fun k=>k=.one 1) G h G' h')(hr:Row h' sc (scV db sb cl all ev')):SdIn G' h' M N sc X cl bg na ev' db sb all bb:=
 ⟨y.kd x.kd (by simp),hr,x.len,x.st.to y (Nat.le_refl _) fun k hk e=>by subst e;exact sSc_not _ hk (by simp[sSc]),fun k c hc=>(x.cls k c hc).to y (Nat.le_refl _) (Nat.le_refl _) (fun _ _=>rfl) (by simp;omega),x.all.to y (by simp),fun i b hb=>(x.beg i b hb).to y (by simp)⟩
theorem SdIn.evt(t:HT G h)(x:SdIn G h M N sc X cl bg na ev db sb all bb)(ev':Int):hY h ((⟨sc,0,none⟩:Addr).add 35)=some (.int .i64 ev)∧StOk h ((⟨sc,0,none⟩:Addr).add 35)∧To (fun k=>k=.one 1) G h G (hset h ((⟨sc,0,none⟩:Addr).add 35) (.int .i64 ev'))∧SdIn G (hset h ((⟨sc,0,none⟩:Addr).add 35) (.int .i64 ev')) M N sc X cl bg na ev' db sb all bb:=by
 obtain⟨ok,b,r⟩:=kset t x.kd (fun h=>h) x.row (i:=35) (by rw[scV_len x.len];omega) (.int .i64 ev')
 rw[scV_setEv x.len]at r
 have y:To (fun k=>k=.one 1) G h G _:=b.to (by rw[x.kd];exact⟨trivial,rfl⟩)
 exact⟨x.row.get (scV_all x.len).2,ok,y,x.own y r⟩
theorem dGone_spec(x:SdIn G h M N sc X cl bg na ev db sb all bb):HC Tryz.prog 31 #[pv sc] h fun r h'=>r=.bool false∧h'=h:=by
 apply wc31
 unfold vc31
 exact .no rfl ⟨_,rfl,_,x.row.get rfl,rfl,rfl⟩
theorem dStore_spec(x:SdIn G h M N sc X cl bg na ev db sb all bb):HC Tryz.prog 13 #[pv sc] h fun r h'=>r=pv sb∧h'=h:=by
 apply wc13
 unfold vc13
 refine(dGone_spec x).mono ?_
 rintro _ _ ⟨rfl,rfl⟩
 exact⟨_,rfl,.no rfl ⟨_,rfl,_,x.row.get rfl,rfl,rfl⟩⟩
def clA(sc k:Nat):Addr:=⟨sc,2+k*4,none⟩
theorem dClient_spec(x:SdIn G h M N sc X cl bg na ev db sb all bb)(k:Int):HC Tryz.prog 43 #[pv sc,.int .i64 k] h fun r h'=>h'=h∧((r=.pointer none∧¬ (1≤k∧k≤8)) ∨∃ (i:Nat) (c:CSl),k=((i+1:Nat):Int)∧i<8∧cl[i]? = some c∧r=.pointer (some (clA sc i))):=by
 apply wc43
 unfold vc43
 refine(dGone_spec x).mono ?_
 rintro _ _ ⟨rfl,rfl⟩
 refine⟨_,rfl,.no rfl (IfB.dec (fun h1=>⟨rfl,.inl ⟨rfl,by omega⟩⟩) fun h1=>IfB.dec (fun h2=>⟨rfl,.inl ⟨rfl,by omega⟩⟩) fun h2=>?_)⟩
 obtain⟨i,rfl⟩:∃ i:Nat,k=((i+1:Nat):Int):=⟨(k-1).toNat,by omega⟩
 have e:iSub .i64 ((i+1:Nat):Int) (1:Int)=(i:Int):=by rw[iSub64 (by omega)];omega
 rw[e]
 have hl:=x.len
 refine⟨_,rfl,by omega,by omega,rfl,.inr ⟨i,cl[i]'(by omega),rfl,by omega,List.getElem?_eq_getElem _,?_⟩⟩
 rw[Int.toNat_natCast,add_add,add_none]
 unfold clA
 simp
theorem SdIn.cell(x:SdIn G h M N sc X cl bg na ev db sb all bb){k:Nat}{c:CSl}(hc:cl[k]? = some c){j:Nat}(hj:j<4){v:Value}(hv:(clV c)[j]? = some v):hY h ((clA sc k).add j)=some v:=by
 have hk:=x.lt hc
 have:=x.row.get (i:=2+(k*4+j)) (v:=v) (by rw[scV_get x.len hk hj hc];exact hv)
 unfold clA
 rw[add_none]at this ⊢
 rw[show 2+k*4+j=0+(2+(k*4+j)) by omega]
 exact this
theorem SdIn.cell0(x:SdIn G h M N sc X cl bg na ev db sb all bb){k:Nat}{c:CSl}(hc:cl[k]? = some c):hY h (clA sc k)=some (.slice c.ops.base c.ops.len c.ops.cap):=by
 have:=x.cell hc (j:=0) (by omega) rfl
 rwa[Addr.add_zero]at this
theorem clA_add(sc k j:Nat):(clA sc k).add j=(⟨sc,0,none⟩:Addr).add (2+(k*4+j)):=by unfold clA;rw[add_none,add_none];congr 1;omega
theorem SdIn.cset(t:HT G h)(x:SdIn G h M N sc X cl bg na ev db sb all bb){k:Nat}{c c':CSl}(hc:cl[k]? = some c){j:Nat}(hj:j<4){v:Value}(hv:(clV c).set j v=clV c')(hok:ClOk G h N k c' bg.length bb) :
 StOk h ((clA sc k).add j)∧To (fun k=>k=.one 1) G h G (hset h ((clA sc k).add j) v)∧SdIn G (hset h ((clA sc k).add j) v) M N sc X (cl.set k c') bg na ev db sb all bb:=by
 have hk:=x.lt hc
 rw[clA_add]
 obtain⟨ok,b,r⟩:=kset t x.kd (fun h=>h) x.row (i:=2+(k*4+j)) (by rw[scV_len x.len];omega) v
 rw[scV_set hj hc hv]at r
 have y:To (fun k=>k=.one 1) G h G _:=b.to (by rw[x.kd];exact⟨trivial,rfl⟩)
 refine⟨ok,y,y.kd x.kd (by simp),r,by simpa using x.len,x.st.to y (Nat.le_refl _) fun k hk e=>by subst e;exact sSc_not _ hk (by simp[sSc]),fun i d hd=>?_,x.all.to y (by simp),fun i b hb=>(x.beg i b hb).to y (by simp)⟩
 rw[List.getElem?_set]at hd
 by_cases e:k=i
 ·subst e
  rw[if_pos rfl]at hd
  split at hd
  ·injection hd with hd;subst hd
   exact hok.to y (Nat.le_refl _) (Nat.le_refl _) (fun _ _=>rfl) (by simp;omega)
  ·cases hd
 ·rw[if_neg e]at hd
  exact(x.cls i d hd).to y (Nat.le_refl _) (Nat.le_refl _) (fun _ _=>rfl) (by simp;omega)
end
def LinkP(W:Int→List UInt8→Prop)(D:MgrD)(bg:List BgD)(base:Nat)(Q:Nat→Prop):Prop:=
 ∀ a l,W a l→(∃ (i:Nat) (b:BgD),bg[i]? = some b∧i<base∧(b.st=2∨b.st=3)∧(a,l)∈b.P) ∨∃ (j:Nat) (t:TxS),D.txs[j]? = some t∧Q t.state∧(a,l)∈t.P
structure SdOk(W:Int→List UInt8→Prop)(N:Nat)(X:StD)(bg:List BgD)(base:Nat):Prop where
 sr:SrOk W N X
 len:bg.length=base+X.D.txs.length
 bgN:bg.length≤N
 hs:∀ i b,bg[i]? = some b→b.h=if i<base then 0 else i-base+1
 link:LinkP W X.D bg base fun s=>s=3
structure WkOk(W:Int→List UInt8→Prop)(N:Nat)(X:StD)(bg:List BgD)(base:Nat):Prop where
 cr:CrOk W N X.inn X.count X.tx X.dv
 len:bg.length=base+X.D.txs.length
 bgN:bg.length≤N
 hs:∀ i b,bg[i]? = some b→b.h=if i<base then 0 else i-base+1
 link:LinkP W X.D bg base fun s=>s=3∨s=2
theorem LinkP.imp{W:Int→List UInt8→Prop}{D:MgrD}{bg:List BgD}{base:Nat}{Q Q':Nat→Prop}(h:LinkP W D bg base Q)(hq:∀ s,Q s→Q' s):LinkP W D bg base Q':=fun a l hw=>by
 rcases h a l hw with h | ⟨j,t,h1,h2,h3⟩
 ·exact .inl h
 ·exact .inr ⟨j,t,h1,hq _ h2,h3⟩
theorem SdOk.wk{W:Int→List UInt8→Prop}{N:Nat}{X:StD}{bg:List BgD}{base:Nat}(o:SdOk W N X bg base):WkOk W N X bg base:=
 ⟨o.sr.cr,o.len,o.bgN,o.hs,o.link.imp fun _ h=>.inl h⟩
theorem SdOk.same{W:Int→List UInt8→Prop}{N N':Nat}{X X':StD}{bg:List BgD}{base:Nat}(o:SdOk W N X bg base)(hN:N≤N')(s:SrOk W N' X')(ht:X'.D.txs=X.D.txs):SdOk W N' X' bg base:=
 ⟨s,by rw[ht];exact o.len,Nat.le_trans o.bgN hN,o.hs,fun a l hw=>by
  rcases o.link a l hw with h | ⟨j,t,h1,h2,h3⟩
  ·exact .inl h
  ·exact .inr ⟨j,t,by rw[ht];exact h1,h2,h3⟩⟩
def FlushS(X X':StD)(c:Int):Prop:=
 (c≠0∧X'=X∧X.D.queue = []) ∨
 (∃ k:Nat,1≤k∧k≤X.D.queue.length∧(c=0∨c=9)∧X'.D=doneD c X.D k∧(CheckP ((X.num+1:Nat):Int) ((waitT X.D).take k)→X.pos+blocksN ((waitT X.D).take k)≤192→c=0))
theorem flush_ok{W W':Int→List UInt8→Prop}{N:Nat}{X X':StD}{bg:List BgD}{base:Nat}{c:Int}(o:SdOk W N X bg base)(f:FlushR W W' N X X' c):WkOk W' (N+1) X' bg base∧(Live X.dv→SdOk W' (N+1) X' bg base∧Live X'.dv∧FlushS X X' c):=by
 have om:=o.sr.mg
 rcases f with ⟨hc,rfl,rfl,hq⟩ | ⟨k,hk1,hk2,hc,hD,hW,hsr,hl,hz⟩ | ⟨rfl,hnl,k,hD,hW,hcr⟩
 ·have o':=o.same (Nat.le_succ _) (o.sr.more (Nat.le_succ _)) rfl
  exact⟨o'.wk,fun hl=>⟨o',hl,.inl ⟨hc,rfl,hq⟩⟩⟩
 ·have o':SdOk W' (N+1) X' bg base:=by
   refine⟨hsr,by rw[hD,doneD_len];exact o.len,Nat.le_succ_of_le o.bgN,o.hs,fun a l hw=>?_⟩
   rcases(hW a l).1 hw with hw | ⟨rfl,p,hp,hm⟩
   ·rcases o.link a l hw with h | ⟨j,t,h1,h2,h3⟩
    ·exact .inl h
    ·refine .inr ⟨j,t,?_,h2,h3⟩
     rw[hD,doneD_tx om h1,if_neg fun hin=>?_]
     have:=(om.st j t h1).2.2.2 (List.mem_of_mem_take hin)
     omega
   ·obtain⟨e,h1,h2,h3⟩:=om.queued (List.mem_of_mem_take hp)
    refine .inr ⟨p-1,endT (X.D.at_ p) 3 0,?_,rfl,hm⟩
    rw[hD,doneD_tx om e,if_pos (by rw[show p-1+1=p by omega];exact hp)]
    rfl
  exact⟨o'.wk,fun hlv=>⟨o',hl hlv,.inr ⟨k,hk1,hk2,hc,hD,hz hlv⟩⟩⟩
 ·refine⟨⟨hcr,by rw[hD];exact o.len,Nat.le_succ_of_le o.bgN,o.hs,fun a l hw=>?_⟩,fun hl=>absurd hl hnl⟩
  rcases(hW a l).1 hw with hw | ⟨p,hp,hm⟩
  ·rcases o.link a l hw with h | ⟨j,t,h1,h2,h3⟩
   ·exact .inl h
   ·exact .inr ⟨j,t,by rw[hD];exact h1,.inl h2,h3⟩
  ·obtain⟨e,h1,h2,h3⟩:=om.queued (List.mem_of_mem_take hp)
   exact .inr ⟨p-1,X.D.at_ p,by rw[hD];exact e,.inr h3,hm⟩
def sStep:Kd→Prop
 | .one 1=>True
 | .one 11=>True
 | .one n=>sSt (.one n)∨(12≤n∧n≤19)
 | .beg _=>True
 | .arr (.ans _) _=>True
 | k=>sSt k
theorem sSt_step:∀ k,sSt k→sStep k
 | .any,h=>h
 | .dev _,h=>h
 | .one n,h=>by
   unfold sStep
   split <;> first | trivial | exact .inl h | (rename_i e;cases e;first | trivial | exact .inl h) | exact h
 | .tx _ _,h=>h
 | .beg _,_=>trivial
 | .bytes _,h=>h
 | .puts _,h=>h
 | .arr (.vers _) _,h=>h
 | .arr (.reads _) _,h=>h
 | .arr .exts _,h=>h
 | .arr (.ops _) _,h=>h
 | .arr (.begs _) _,h=>h
 | .arr (.ans _) _,_=>trivial
theorem s1_step:∀ k,k=Kd.one 1→sStep k:=fun k e=>by subst e;trivial
section
variable{G:Gh}{h:Hp}{M N sc:Nat}{X:StD}{cl:List CSl}{bg:List BgD}{na base:Nat}{ev:Int}{db sb:Nat}{all:Sl}{bb:Nat→Nat}
theorem dFlush_spec(t:HT G h)(x:SdIn G h M N sc X cl bg na ev db sb all bb)(o:SdOk G.W N X bg base)(hN:N≤900000)(hM:M+128≤1000000):HC Tryz.prog 10 #[pv sc] h fun r h'=>∃ (G':Gh) (c:Int) (X':StD),r=.int .i64 c∧To sStep G h G' h'∧SdIn G' h' (M+128) (N+1) sc X' cl bg na (iAdd .i64 ev 1) db sb all bb∧WkOk G'.W (N+1) X' bg base∧(Live X.dv→SdOk G'.W (N+1) X' bg base∧Live X'.dv∧FlushS X X' c):=by
 apply wc10
 unfold vc10
 refine(dGone_spec x).mono ?_
 rintro _ _ ⟨rfl,hh⟩
 obtain rfl:=hh.symm
 obtain⟨hc,ok,y1,x1⟩:=x.evt t (iAdd .i64 ev 1)
 refine⟨_,rfl,.no rfl ⟨_,rfl,_,hc,_,rfl,ok,_,rfl,_,x1.row.get rfl,(sFlush_spec y1.ht x1.st o.sr hN hM).mono ?_⟩⟩
 rintro _ h2 ⟨G2,c,X2,rfl,y2,s2,f2⟩
 obtain⟨wk,lv⟩:=flush_ok o f2
 exact⟨_,rfl,G2,c,X2,rfl,(y1.mono s1_step).trans (y2.mono sSt_step),x1.str y2 (Nat.le_succ _) s2,wk,lv⟩
theorem dCheck_spec(t:HT G h)(x:SdIn G h M N sc X cl bg na ev db sb all bb)(o:SdOk G.W N X bg base)(l:Live X.dv)(hN:N≤900000)(hM:M≤1000000):HC Tryz.prog 28 #[pv sc] h fun r h'=>∃ (G':Gh) (X':StD),r=.int .i64 (0:Int)∧To sStep G h G' h'∧SdIn G' h' M (N+1) sc X' cl bg na (iAdd .i64 ev 1) db sb all bb∧SdOk G'.W (N+1) X' bg base∧Live X'.dv∧X'.D=X.D:=by
 apply wc28
 unfold vc28
 refine(dGone_spec x).mono ?_
 rintro _ _ ⟨rfl,hh⟩
 obtain rfl:=hh.symm
 obtain⟨hc,ok,y1,x1⟩:=x.evt t (iAdd .i64 ev 1)
 refine⟨_,rfl,.no rfl ⟨_,rfl,_,hc,_,rfl,ok,_,rfl,_,x1.row.get rfl,(sCheck_spec y1.ht x1.st (o.sr.mt l) o.sr.mg o.sr.off hN hM).mono ?_⟩⟩
 rintro _ h2 ⟨G2,X2,rfl,y2,w2,s2,o2,l2,hD⟩
 exact⟨_,rfl,G2,X2,rfl,(y1.mono s1_step).trans (y2.mono sSt_step),x1.str y2 (Nat.le_succ _) s2,by rw[w2];exact o.same (Nat.le_succ _) o2 (by rw[hD]),l2,hD⟩
theorem dClean_spec(t:HT G h)(x:SdIn G h M N sc X cl bg na ev db sb all bb)(o:SdOk G.W N X bg base)(hM:M≤1000000):HC Tryz.prog 29 #[pv sc] h fun r h'=>∃ (G':Gh) (n:Int),r=.int .i64 n∧To sStep G h G' h'∧SdIn G' h' M N sc X cl bg na (iAdd .i64 ev 1) db sb all bb∧SdOk G'.W N X bg base:=by
 apply wc29
 unfold vc29
 refine(dGone_spec x).mono ?_
 rintro _ _ ⟨rfl,hh⟩
 obtain rfl:=hh.symm
 obtain⟨hc,ok,y1,x1⟩:=x.evt t (iAdd .i64 ev 1)
 refine⟨_,rfl,.no rfl ⟨_,rfl,_,hc,_,rfl,ok,_,rfl,_,x1.row.get rfl,(sClean_spec y1.ht x1.st o.sr.off hM).mono ?_⟩⟩
 rintro _ h2 ⟨G2,n,rfl,y2,w2,s2⟩
 exact⟨_,rfl,G2,n,rfl,(y1.mono s1_step).trans (y2.mono sSt_step),x1.str y2 (Nat.le_refl _) s2,by rw[w2];exact o⟩
theorem dReadOnly_spec(t:HT G h)(x:SdIn G h M N sc X cl bg na ev db sb all bb)(o:SdOk G.W N X bg base)(yes:Bool):HC Tryz.prog 30 #[pv sc,.bool yes] h fun r h'=>∃ (G':Gh) (X':StD),r=.tuple #[]∧To sStep G h G' h'∧SdIn G' h' M N sc X' cl bg na ev db sb all bb∧SdOk G'.W N X' bg base∧X'.dv=X.dv:=by
 apply wc30
 unfold vc30
 refine(dGone_spec x).mono ?_
 rintro _ _ ⟨rfl,hh⟩
 obtain rfl:=hh.symm
 refine⟨_,rfl,.yes rfl ⟨_,rfl,_,x.row.get rfl,(sReadOnly_spec t x.st o.sr.mg yes).mono ?_⟩⟩
 rintro _ h2 ⟨G2,rfl,y2,w2,s2,m2⟩
 exact⟨rfl,G2,_,rfl,y2.mono sSt_step,x.str y2 (Nat.le_refl _) s2,by rw[w2];exact o.same (Nat.le_refl _) (o.sr.mgr (Nat.le_refl _) m2) rfl,rfl⟩
theorem dCut_spec(t:HT G h)(x:SdIn G h M N sc X cl bg na ev db sb all bb)(o:SdOk G.W N X bg base){n:Int}(hn:n<9223372036854775808):HC Tryz.prog 9 #[pv sc,.int .i64 n] h fun r h'=>∃ (G':Gh) (X':StD),r=.tuple #[]∧To sStep G h G' h'∧SdIn G' h' M N sc X' cl bg na ev db sb all bb∧SdOk G'.W N X' bg base:=by
 apply wc9
 unfold vc9
 refine(dGone_spec x).mono ?_
 rintro _ _ ⟨rfl,hh⟩
 obtain rfl:=hh.symm
 obtain⟨lb,mb,ts,em,bk,am,q,tb,s⟩:=x.st
 refine⟨_,rfl,.yes rfl ⟨_,rfl,_,x.row.get0 rfl,(Cut_spec s.dev hn).mono ?_⟩⟩
 rintro _ h2 ⟨rfl,dv,c⟩
 have y:=c.toG t
 have s2:=s.dv' y (fun _ h=>h) dv
 have o':=o.sr
 refine⟨rfl,G,_,rfl,y.mono fun k hk=>sSt_step k (isDev_st k hk),x.str (y.mono isDev_st) (Nat.le_refl _) ⟨lb,mb,ts,em,bk,am,q,tb,s2⟩,o.same (Nat.le_refl _) ?_ rfl⟩
 exact⟨o'.n,o'.size,dv.1,o'.good,o'.off,o'.slots.same rfl (fun _ _ _=>rfl) (by omega) (by omega),o'.count,o'.num,o'.text,by
  obtain⟨ps,l⟩:=o'.log
  exact⟨ps,l.len,l.pos,l.each,l.rows⟩,o'.mg,o'.w⟩
end
def isLoc:Kd→Prop:=fun k=>k=.one 30
section
variable{G:Gh}{h:Hp}
theorem alcLoc(t:HT G h)(vs:List Value)(ty:Nat):∃ G',To (fun _=>False) G h G' (alc h vs ty)∧G'.W=G.W∧G'.k h.size=.one 30∧Row (alc h vs ty) h.size vs:=by
 have r:Row (alc h vs ty) h.size vs:=Row.alc _ _ _
 obtain⟨y,k,w⟩:=t.kindNew (alc_ext h vs ty) (b:=h.size) (Nat.le_refl _) r.lt (k := .one 30) id
 exact⟨_,y,w,k,r⟩
theorem locSet(t:HT G h){b:Nat}{l:List Value}(kd:G.k b=.one 30)(r:Row h b l){i:Nat}(hi:i<l.length)(v:Value):StOk h ((⟨b,0,none⟩:Addr).add i)∧ToB b G h G (hset h ((⟨b,0,none⟩:Addr).add i) v)∧To isLoc G h G (hset h ((⟨b,0,none⟩:Addr).add i) v)∧Row (hset h ((⟨b,0,none⟩:Addr).add i) v) b (l.set i v):=by
 obtain⟨ok,bb,r'⟩:=kset t kd (fun h=>h) r hi v
 exact⟨ok,bb,bb.to (by rw[kd];exact⟨trivial,rfl⟩),r'⟩
theorem locPut(t:HT G h){b:Nat}{l vs:List Value}(kd:G.k b=.one 30)(r:Row h b l)(hl:vs.length=l.length)(hok:∀ v∈vs,cellOk v=true){K:Hp→Prop}(hK:∀ h',ToB b G h G h'→To isLoc G h G h'→Row h' b vs→K h'):stCells ⟨b,0,none⟩ 0 vs h K:=
 r.put hl hok fun h' r' s' o'=>by
  have bb:ToB b G h G h':=t.toB (by rw[kd];exact fun h=>h) (by omega) fun c _ hc=>o' c hc
  exact hK h' bb (bb.to (by rw[kd];exact⟨trivial,rfl⟩)) r'
end
section
variable{G:Gh}{h:Hp}{M N sc:Nat}{X:StD}{cl:List CSl}{bg:List BgD}{na base:Nat}{ev:Int}{db sb:Nat}{all:Sl}{bb:Nat→Nat}
theorem SdIn.to{S:Kd→Prop}{G':Gh}{h':Hp}{M' N':Nat}(x:SdIn G h M N sc X cl bg na ev db sb all bb)(y:To S G h G' h')(hM:M≤M')(hN:N≤N')(h1:∀ k,sStO k∨sMgr k →¬ S k)(h2:∀ k,sSc k→(∀ a n,k ≠ .arr a n) →¬ S k):SdIn G' h' M' N' sc X cl bg na ev db sb all bb:=
 ⟨y.kd x.kd (by simp),y.rowK x.row x.kd (h2 _ (.inl rfl) (by simp)),x.len,x.st.to y hM h1,fun k c hc=>(x.cls k c hc).to y hN (Nat.le_refl _) (fun _ _=>rfl) (h2 _ (by have:=x.lt hc;simp only[sSc];omega) (by simp)),x.all.to y (h2 _ (by simp[sSc]) (by simp)),fun i b hb=>(x.beg i b hb).to y (h2 _ trivial (by simp))⟩
theorem SdIn.loc{G':Gh}{h':Hp}(x:SdIn G h M N sc X cl bg na ev db sb all bb)(y:To isLoc G h G' h'):SdIn G' h' M N sc X cl bg na ev db sb all bb:=
 x.to y (Nat.le_refl _) (Nat.le_refl _) (fun k hk e=>by unfold isLoc at e;subst e;rcases hk with (hk | hk | hk) | hk <;> first | exact hk | (simp only[sMgr]at hk;omega) | cases hk) (fun k hk _ e=>by unfold isLoc at e;subst e;simp[sSc]at hk)
theorem dAt_spec(x:SdIn G h M N sc X cl bg na ev db sb all bb){k:Nat}{c:CSl}(hc:cl[k]? = some c)(hd:Int):HC Tryz.prog 87 #[.pointer (some (clA sc k)),.int .i64 hd] h fun r h'=>h'=h∧((r=.pointer none∧¬ ∃ (j i:Nat) (b:BgD),hd=j∧c.L[j]? = some i∧bg[i]? = some b∧b.h≠0) ∨∃ (j i:Nat) (b:BgD),hd=j∧c.L[j]? = some i∧bg[i]? = some b∧b.h≠0∧r=pv (bb i)):=by
 apply wc87
 unfold vc87
 have ck:=x.cls k c hc
 have hl:c.beg.len=c.L.length:=by have:=ck.beg.own.len;simp at this;omega
 have c1:=x.cell hc (j:=1) (by omega) rfl
 refine IfB.dec (fun h0=>⟨rfl,.inl ⟨rfl,fun⟨j,i,b,e,_⟩=>by omega⟩⟩) fun h0=>⟨_,rfl,c.beg,c1,IfB.dec (fun hge=>⟨rfl,.inl ⟨rfl,fun⟨j,i,b,e,hj,_⟩=>?_⟩⟩) fun hlt=>?_⟩
 ·have:=(List.getElem?_eq_some_iff.1 hj).1;omega
 obtain⟨j,rfl⟩:∃ j:Nat,hd=j:=⟨hd.toNat,by omega⟩
 have hj:j<c.L.length:=by omega
 have hi:=ck.L _ (List.getElem_mem hj)
 have hcj:c.L[j]? = some c.L[j]:=List.getElem?_eq_getElem hj
 have hbg:bg[c.L[j]]? = some bg[c.L[j]]:=List.getElem?_eq_getElem hi
 obtain⟨g,tm,f,t,rs,ps,r,_⟩:=(x.beg _ _ hbg).row
 refine⟨_,rfl,c.beg,c1,ix1 ck.beg.own.rd (by simpa using hl.symm) j rfl (by simpa using hj) fun a _ hY=>⟨_,by simpa [pv] using hY,_,rfl,_,r.get0 rfl,IfB.eq (fun hz=>⟨rfl,.inl ⟨rfl,fun⟨j',i,b,e,h1,h2,h3⟩=>?_⟩⟩) fun hnz=>⟨_,rfl,c.beg,c1,ix1 ck.beg.own.rd (by simpa using hl.symm) j rfl (by simpa using hj) fun a' _ hcell'=>⟨_,by simpa [pv] using hcell',rfl,.inr ⟨j,c.L[j],bg[c.L[j]],rfl,hcj,hbg,by omega,rfl⟩⟩⟩⟩⟩
 obtain rfl:j=j':=by omega
 rw[hcj]at h1
 cases h1
 rw[hbg]at h2
 cases h2
 omega
end
end Go.Proofs.YtdpdkpfnfllipaaGreatDoor
