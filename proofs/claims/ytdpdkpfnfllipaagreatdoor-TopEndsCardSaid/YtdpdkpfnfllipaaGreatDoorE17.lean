/- A part of the proof, no condition. -/
import Derived.Test.YtdpdkpfnfllipaaGreatDoorE16
set_option linter.unusedVariables false
set_option linter.unusedSimpArgs false
namespace Go.Proofs.YtdpdkpfnfllipaaGreatDoor
structure LogOk(W:Int→List UInt8→Prop)(d:Dv)(pos:Nat)(ps:List (List UInt8)):Prop where
 len:ps.length=pos
 pos:pos≤192
 each:∀ p∈ps,goodB p∧JB W p
 rows:∀ m,m<2→(d.z (6+m)).rows=part 96 ps m
structure SrOk(W:Int→List UInt8→Prop)(N:Nat)(X:StD):Prop where
 n:X.dv.n=8
 size:X.dv.size=96
 wf:X.dv.Wf
 good:AllGood X.dv
 off:X.off=false
 slots:SlInv X.dv 0 3 6 X.inn X.tx X.count
 count:X.count≤N
 num:X.num≤N
 text:TextOk W X.tx
 log:∃ ps,LogOk W X.dv X.pos ps
 mg:MgrOk N X.D
 w:WOk W
theorem LogOk.mono{W W':Int→List UInt8→Prop}{d:Dv}{pos:Nat}{ps:List (List UInt8)}(l:LogOk W d pos ps)(hw:∀ a l,W a l→W' a l):LogOk W' d pos ps:=
 ⟨l.len,l.pos,fun p hp=>⟨(l.each p hp).1,(l.each p hp).2.mono hw⟩,l.rows⟩
theorem SrOk.more{W:Int→List UInt8→Prop}{N N':Nat}{X:StD}(o:SrOk W N X)(h:N≤N'):SrOk W N' X:=
 ⟨o.n,o.size,o.wf,o.good,o.off,o.slots,Nat.le_trans o.count h,Nat.le_trans o.num h,o.text,o.log,o.mg.more h,o.w⟩
theorem SrOk.mgr{W:Int→List UInt8→Prop}{N N':Nat}{X:StD}{D':MgrD}(o:SrOk W N X)(h:N≤N')(m:MgrOk N' D'):SrOk W N' { X with D:=D' }:=
 ⟨o.n,o.size,o.wf,o.good,o.off,o.slots,Nat.le_trans o.count h,Nat.le_trans o.num h,o.text,o.log,m,o.w⟩
theorem mem_part{size m:Nat}{ps:List (List UInt8)}{p:List UInt8}(h:p∈part size ps m):p∈ps:=List.mem_of_mem_drop (List.mem_of_mem_take h)
structure MtOk(W:Int→List UInt8→Prop)(N inn count:Nat)(tx:List UInt8)(d:Dv):Prop where
 live:Live d
 wf:d.Wf
 n:d.n=8
 size:d.size=96
 good:AllGood d
 slots:SlInv d 0 3 6 inn tx count
 count:count≤N
 text:TextOk W tx
 rows:∀ m,m<2 →∀ p∈(d.z (6+m)).rows,JB W p
 w:WOk W
structure CrOk(W:Int→List UInt8→Prop)(N inn count:Nat)(tx:List UInt8)(d:Dv):Prop where
 wf:d.Wf
 n:d.n=8
 size:d.size=96
 good:∀ j,j<6→(d.z j).good=(d.z j).rows.length
 slots:SlInv d 0 3 6 inn tx count
 count:count≤N
 text:TextOk W tx
 rows:∀ m,m<2 →∀ p∈(d.z (6+m)).rows,goodB p∧JB W p
 w:WOk W
theorem SrOk.cr{W:Int→List UInt8→Prop}{N:Nat}{X:StD}(o:SrOk W N X):CrOk W N X.inn X.count X.tx X.dv:=by
 obtain⟨ps,l⟩:=o.log
 exact⟨o.wf,o.n,o.size,fun j _=>o.good j,o.slots,o.count,o.text,fun m hm p hp=>l.each p (mem_part (by rw[← l.rows m hm];exact hp)),o.w⟩
theorem CrOk.crash{W:Int→List UInt8→Prop}{N inn count:Nat}{tx:List UInt8}{d:Dv}(c:CrOk W N inn count tx d)(picks torn:List Int):MtOk W N inn count tx (d.crash picks torn):=by
 have ok:=crash_ok c.wf picks torn
 refine⟨ok.live,ok.wf,ok.n.trans c.n,ok.size.trans c.size,crash_good c.wf picks torn,c.slots.same ok.size (fun j _ h2=>crash_keep c.wf picks torn (c.good j h2)) (by omega) (by omega),c.count,c.text,fun m hm p hp=>?_,c.w⟩
 rw[Dv.crash_z _ _ _ (by rw[c.n];omega)]at hp
 obtain⟨a,t,h1,h2,h3,h4⟩:=zone_crash (c.wf.zone (6+m)) (pickL picks (6+m)) (pickL torn (6+m))
 rw[h1]at hp
 rcases List.mem_append.1 hp with hp | hp
 ·exact(c.rows m hm p (List.mem_of_mem_take hp)).2
 ·rcases h4 with rfl | ⟨h4,rfl⟩
  ·simp at hp
  ·simp only[List.mem_cons,List.not_mem_nil,or_false]at hp
   have hin:(d.z (6+m)).rows.getD a []∈(d.z (6+m)).rows:=by
    rw[List.getD_eq_getElem?_getD,List.getElem?_eq_getElem h4];exact List.getElem_mem h4
   obtain⟨g,j⟩:=c.rows m hm _ hin
   subst hp
   exact⟨tornL_length j.1,by rw[torn_dK j.1];exact j.2.1,fun gg=>absurd gg (torn_bad g.1 (goodP_sumOk g.2))⟩
theorem take_self{α:Type}{l r:List α}:(l++r).take l.length=l:=by simp
theorem wV_live{W:Int→List UInt8→Prop}{d:Dv}{pos:Nat}{ps L:List (List UInt8)}(l:Live d)(w:d.Wf)(hn:d.n=8)(hs:d.size=96)(lg:LogOk W d pos ps)(h64:∀ p∈L,p.length=64)(hfit:pos+L.length≤192) :
 (wV d pos L).1=0∧OkD d (wV d pos L).2∧AllGood (wV d pos L).2∧(∀ m,m<2→((wV d pos L).2.z (6+m)).rows=part 96 (ps++L) m)∧∀ j,j<6→((wV d pos L).2.z j).rows=(d.z j).rows:=by
 have hl:=lg.len
 subst hl
 obtain⟨p1,p2,p3,p4⟩:=puts_live (base:=6) (cnt:=2) (ps:=ps++L) (fun p hp=>by
  rcases List.mem_append.1 hp with hp | hp
  ·exact(lg.each p hp).2.1
  ·exact h64 p hp) L d ps.length l w (by omega) (by rw[List.length_append,hs];omega) (by simp) (by simp) (fun m hm=>by rw[take_self,hs];exact lg.rows m hm)
 rw[hs]at p1 p2 p3 p4
 unfold wV
 rw[if_neg (by omega),flush_live p2.live,if_neg (by simp)]
 refine⟨rfl,p2.trans ⟨⟨p2.live.1,p2.live.dead⟩,p2.wf.tick.flushed,rfl,rfl⟩,fun j=>by rw[Dv.flushed_z],fun m hm=>?_,fun j hj=>?_⟩
 ·rw[Dv.flushed_z];exact p3 m hm
 ·rw[Dv.flushed_z]
  show((d.puts 6 96 ps.length L).2.z j).rows=_
  rw[p4 j (.inl hj)]
theorem wV_any{W:Int→List UInt8→Prop}{d:Dv}{pos:Nat}{ps L:List (List UInt8)}(w:d.Wf)(hn:d.n=8)(hs:d.size=96)(lg:LogOk W d pos ps)(h64:∀ p∈L,p.length=64)(hfit:pos+L.length≤192) :
 NxD d (wV d pos L).2∧(((wV d pos L).1=0∧AllGood (wV d pos L).2∧(∀ m,m<2→((wV d pos L).2.z (6+m)).rows=part 96 (ps++L) m)∧∀ j,j<6→((wV d pos L).2.z j).rows=(d.z j).rows) ∨
  ((wV d pos L).1=12∧(∀ m,m<2 →∀ p∈((wV d pos L).2.z (6+m)).rows,p∈ps++L)∧∀ j,j<6→(wV d pos L).2.z j=d.z j)):=by
 have hl:=lg.len
 subst hl
 obtain⟨p1,q,h1,h2,h3,h4,h5⟩:=puts_any (base:=6) (cnt:=2) (ps:=ps++L) (fun p hp=>by
  rcases List.mem_append.1 hp with hp | hp
  ·exact(lg.each p hp).2.1
  ·exact h64 p hp) L d ps.length w (by omega) (by rw[List.length_append,hs];omega) (by simp) (by simp) (fun m hm=>by rw[take_self,hs];exact lg.rows m hm)
 rw[hs]at p1 h3 h4 h5
 unfold wV
 rcases h3 with ⟨h3,rfl⟩ | h3
 ·rw[if_neg (by omega)]
  rcases flush_any (d.puts 6 96 ps.length L).2 with e | e
  ·rw[e,if_pos (by simp)]
   refine⟨p1.trans (.tick p1.wf),.inr ⟨rfl,fun m hm p hp=>?_,fun j hj=>h5 j (.inl hj)⟩⟩
   have hp:p∈((d.puts 6 96 ps.length L).2.z (6+m)).rows:=hp
   rw[(h4 m hm).1]at hp
   exact List.mem_of_mem_take (mem_part hp)
  ·rw[e,if_neg (by simp)]
   refine⟨p1.trans ⟨p1.wf.tick.flushed,rfl,rfl⟩,.inl ⟨rfl,fun j=>by rw[Dv.flushed_z],fun m hm=>?_,fun j hj=>?_⟩⟩
   ·rw[Dv.flushed_z]
    show((d.puts 6 96 ps.length L).2.z (6+m)).rows=_
    rw[(h4 m hm).1,List.take_length]
   ·rw[Dv.flushed_z]
    show((d.puts 6 96 ps.length L).2.z j).rows=_
    rw[h5 j (.inl hj)]
 ·rw[if_pos (by omega)]
  refine⟨p1,.inr ⟨rfl,fun m hm p hp=>?_,fun j hj=>h5 j (.inl hj)⟩⟩
  have hp:p∈((d.puts 6 96 ps.length L).2.z (6+m)).rows:=hp
  rw[(h4 m hm).1]at hp
  exact List.mem_of_mem_take (mem_part hp)
theorem encB_jb{W:Int→List UInt8→Prop}{num epoch:Nat}{T:List TxD}(c:CheckP num T)(he:epoch<2 ^ 32)(hw:∀ x∈T,∀ p∈x.2,W p.1 p.2):∀ p∈encB num epoch T,goodB p∧JB W p:=by
 have isb:IsB (encB num epoch T) (allPuts T).length num epoch T:=⟨by simp[encB],c,he,by rw[List.take_of_length_le (by simp[encB])]⟩
 intro p hp
 have g:=isb.goods p (by rw[List.take_of_length_le (by simp[encB])];exact hp)
 refine⟨g,g.1,?_,fun _ hk=>?_⟩
 ·unfold encB at hp
  rcases List.mem_append.1 hp with hp | hp
  ·obtain⟨q,hq,rfl⟩:=List.mem_map.1 hp
   exact .inl (encB_put c he hq).2.1
  ·simp only[List.mem_cons,List.not_mem_nil,or_false]at hp
   have:=(dec_complete isb).2.2.1
   have e:rwL (encB num epoch T) (allPuts T).length=p:=by rw[hp];simp[rwL,encB]
   rw[e]at this
   exact .inr this
 ·unfold encB at hp
  rcases List.mem_append.1 hp with hp | hp
  ·obtain⟨q,hq,rfl⟩:=List.mem_map.1 hp
   have e:=(encB_put c he hq).2.2.2.2
   obtain⟨x,hx,hqx⟩:=List.mem_flatMap.1 hq
   have:=hw x hx q hqx
   rw[← e]at this
   exact this
  ·simp only[List.mem_cons,List.not_mem_nil,or_false]at hp
   have:=(dec_complete isb).2.2.1
   have e:rwL (encB num epoch T) (allPuts T).length=p:=by rw[hp];simp[rwL,encB]
   rw[e]at this
   omega
def FlushR(W W':Int→List UInt8→Prop)(N:Nat)(X X':StD)(c:Int):Prop:=
 (c≠0∧X'=X∧W'=W∧X.D.queue = []) ∨
 (∃ k:Nat,1≤k∧k≤X.D.queue.length∧(c=0∨c=9)∧X'.D=doneD c X.D k∧(∀ a l,W' a l↔(W a l∨(c=0∧∃ p∈X.D.queue.take k,(a,l)∈(X.D.at_ p).P)))∧SrOk W' (N+1) X'∧(Live X.dv→Live X'.dv)∧
  (Live X.dv→CheckP ((X.num+1:Nat):Int) ((waitT X.D).take k)→X.pos+blocksN ((waitT X.D).take k)≤192→c=0)) ∨
 (c=12∧¬ Live X.dv∧∃ k:Nat,X'.D = { X.D with out:=k }∧(∀ a l,W' a l↔(W a l ∨∃ p∈X.D.queue.take k,(a,l)∈(X.D.at_ p).P))∧CrOk W' (N+1) X'.inn X'.count X'.tx X'.dv)
section
variable{G:Gh}{h:Hp}{M sb db:Nat}{X:StD}
theorem s62_st:∀ k,(isDev k∨k=Kd.one 2)→sSt k:=fun k hk=>by
 rcases hk with hk | rfl
 ·exact isDev_st k hk
 ·simp[sSt]
theorem doneT_out(code:Int)(D:MgrD)(k:Int)(q:Nat):doneT code { D with out:=k } q = { doneT code D q with out:=k }:=by
 unfold doneT
 split <;> rfl
theorem doneFold_out(code k:Int):∀ (l:List Nat) (D:MgrD),l.foldl (doneT code) { D with out:=k } = { l.foldl (doneT code) D with out:=k }
 | [],D=>rfl
 | q::r,D=>by rw[List.foldl_cons,List.foldl_cons,doneT_out,doneFold_out code k r]
theorem doneD_out(code:Int)(D:MgrD)(k:Int)(n:Nat):doneD code { D with out:=k } n=doneD code D n:=by
 have h:doneF code { D with out:=k } n = { doneF code D n with out:=k }:=doneFold_out code k _ D
 unfold doneD
 rw[h]
theorem MgrIn.imp{mb:Nat}{V V':Prop}{D:MgrD}{em bk am:Nat}{q:Sl}{tb:Nat→Nat}(x:MgrIn G h M mb V D em bk am q tb)(hV:V→V'):MgrIn G h M mb V' D em bk am q tb:=by
 obtain⟨vm,vl,vc,la,r,k,e,w,v,hv⟩:=x.ext.map
 exact⟨x.kd,x.row,⟨x.ext.kd,vm,vl,vc,la,r,k,e,w,v,fun hn=>hV (hv hn)⟩,x.book,x.kam,x.all,x.que,x.tx⟩
theorem waitT_mem{D:MgrD}{k:Nat}:∀ x∈(waitT D).take k,∃ p∈D.queue.take k,x=((D.at_ p).time,(D.at_ p).P):=by
 intro x hx
 unfold waitT at hx
 rw[← List.map_take]at hx
 obtain⟨p,hp,rfl⟩:=List.mem_map.1 hx
 exact⟨p,hp,rfl⟩
theorem sFlush_spec(t:HT G h)(x:StAt G h M sb db X){N:Nat}(ok:SrOk G.W N X)(hN:N≤900000)(hM:M+128≤1000000):HC Tryz.prog 33 #[pv sb] h fun r h'=>∃ (G':Gh) (c:Int) (X':StD),r=.int .i64 c∧To sSt G h G' h'∧StAt G' h' (M+128) sb db X'∧FlushR G.W G'.W N X X' c:=by
 obtain⟨lb,mb,ts,em,bk,am,q,tb,x⟩:=x
 apply wc33
 unfold vc33
 have o:=ok.mg
 have hq16:=x.mgr.q16 o
 have hpl:=x.mgr.plen
 refine(sDead_spec x).mono ?_
 rintro _ _ ⟨rfl,hh⟩
 obtain rfl:=hh.symm
 refine⟨_,rfl,.no ok.off ⟨_,rfl,_,x.row.get rfl,(mBatch_spec t x.mgr o.qok (by omega) fun j t ht=>by have:=(hpl j t ht).1;omega).mono ?_⟩⟩
 rintro _ h1 ⟨G1,c,s,n,D1,rfl,y1,w1,m1,hc⟩
 have hl1:D1.last=X.D.last:=by rcases hc with ⟨_,rfl,_⟩ | ⟨_,_,k,_,_,_,rfl,_⟩ <;> rfl
 have x1:=x.mg y1 sO_3 (by rw[hl1];exact m1)
 have y1':=y1.mono s3_st
 refine⟨n,s,c,rfl,?_⟩
 intro h2
 have e2:Ext h1 h2:=alc_ext _ _ _
 have s2:h2.size=h1.size+1:=size_alc _ _ _
 have r2:Row h2 h1.size [.int .i64 (0:Int),.slice Sl.nil.base Sl.nil.len Sl.nil.cap]:=Row.alc _ _ _
 refine r2.put (vs:=[.int .i64 n,.slice s.base s.len s.cap]) rfl (by simp[cellOk]) fun h3 r3 s3 o3=>?_
 have e13:Ext h1 h3:=⟨by omega,fun b hb=>by rw[o3 b (by omega),e2.block b hb]⟩
 have y13:To (fun _=>False) G1 h1 G1 h3:=e13.to y1.ht
 have x3:=x1.pure y13
 rcases hc with ⟨hc,rfl,hq⟩ | ⟨rfl,hq,k,hk1,hk2,hk8,rfl,tx,rfl⟩
 ·exact .yes (by simpa using hc) ⟨G1,c,X,rfl,y1'.ext e13,⟨lb,mb,ts,em,bk,am,q,tb,x3.to (To.refl y13.ht (S:=fun _=>False)) (by omega) fun _ _ h=>h⟩,.inl ⟨hc,rfl,w1,hq o.out⟩⟩
 have tx3:=tx.to y13
 have hcount:=ok.count
 have hnumN:=ok.num
 obtain⟨ps,lg⟩:=ok.log
 have htxl:=ok.text.len
 refine .no rfl ⟨_,s,r3.get0 rfl,r3.get rfl,?_⟩
 have hPl:∀ j,(pt ((waitT X.D).take k) j).length≤1000000:=fun j=>by
  unfold pt
  rw[List.getD_eq_getElem?_getD]
  by_cases hj:j<((waitT X.D).take k).length
  ·rw[List.getElem?_eq_getElem hj]
   obtain⟨p,hp,e⟩:=waitT_mem _ (List.getElem_mem hj)
   have:=(hpl _ _ (o.queued (List.mem_of_mem_take hp)).1).1
   show(((waitT X.D).take k)[j]).2.length≤_
   rw[e];show(X.D.at_ p).P.length≤_;omega
  ·rw[List.getElem?_eq_none (by omega)];show([]:List PutD).length≤_;simp
 refine(sWriteB_spec y13.ht x3 ok.n ok.size (show X.count≤_ by omega) (show X.num≤_ by omega) (show X.pos≤192 by have:=lg.pos;omega) (show X.tx.length≤_ by omega) tx3 hPl).mono ?_
 rintro _ h4 ⟨G4,c,X4,rfl,y4,w4,x4,hcase⟩
 have y04:=(y1'.ext e13).trans (y4.mono s62_st)
 have hW4:G4.W=G.W:=w4.trans w1
 have hwn:∀ a l,(∃ p∈X.D.queue.take k,(a,l)∈(X.D.at_ p).P)→0≤a∧a<258∧l.length=40:=fun a l ⟨p,hp,hm⟩=>(hpl _ _ (o.queued (List.mem_of_mem_take hp)).1).2.2 _ hm
 have hLlen:(encB (X.num+1) X.count ((waitT X.D).take k)).length=blocksN ((waitT X.D).take k):=encB_len _ _ _
 have hwx:∀ {W':Int→List UInt8→Prop},(∀ a l,(∃ p∈X.D.queue.take k,(a,l)∈(X.D.at_ p).P)→W' a l) →∀ x∈(waitT X.D).take k,∀ p∈x.2,W' p.1 p.2:=fun hw x hx p hp=>by
  obtain⟨q,hq,rfl⟩:=waitT_mem x hx
  exact hw _ _ ⟨q,hq,hp⟩
 have hjb:∀ {W':Int→List UInt8→Prop},CheckP ((X.num+1:Nat):Int) ((waitT X.D).take k)→(∀ a l,(∃ p∈X.D.queue.take k,(a,l)∈(X.D.at_ p).P)→W' a l) →∀ p∈encB (X.num+1) X.count ((waitT X.D).take k),goodB p∧JB W' p:=fun hck hw=>encB_jb hck (show X.count<2 ^ 32 by omega) (hwx hw)
 have h64':CheckP ((X.num+1:Nat):Int) ((waitT X.D).take k) →∀ p∈encB (X.num+1) X.count ((waitT X.D).take k),p.length=64:=fun hck p hp=>(hjb (W':=fun _ _=>True) hck (fun _ _ _=>trivial) p hp).1.1
 have offCase:c=12→X4.D = { X.D with out:=(k:Int) }→X4.inn=X.inn→X4.count=X.count→X4.tx=X.tx→X4.dv=(wV X.dv X.pos (encB (X.num+1) X.count ((waitT X.D).take k))).2→CheckP ((X.num+1:Nat):Int) ((waitT X.D).take k)→X.pos+blocksN ((waitT X.D).take k)≤192→(wV X.dv X.pos (encB (X.num+1) X.count ((waitT X.D).take k))).1=12 →
  ∃ a1:Addr,(some ⟨sb,0,none⟩:Option Addr)=some a1∧StOk h4 (a1.add 9)∧∃ (G':Gh) (c':Int) (X':StD),Value.int .i64 c=.int .i64 c'∧To sSt G h G' (hset h4 (a1.add 9) (.bool true))∧StAt G' (hset h4 (a1.add 9) (.bool true)) (M+128) sb db X'∧FlushR G.W G'.W N X X' c':=by
  intro hc hD hi hco ht hdv hck hfit hw12
  subst hc
  obtain⟨ok9,b9,r9⟩:=kset y4.ht x4.kd (fun h=>h) x4.row (i:=9) (by simp[stV]) (.bool true)
  have y9:To (fun k=>k=.one 2) G4 h4 G4 _:=b9.to (by rw[x4.kd];exact⟨trivial,rfl⟩)
  have x9:=x4.reown y9 (pos:=X4.pos) (num:=X4.num) (off:=true) r9
  have yw:=HT.addW y9.ht (fun a l=>∃ p∈X.D.queue.take k,(a,l)∈(X.D.at_ p).P)
  have x10:=x9.to yw (M':=M+128) (by omega) fun _ _ h=>h
  refine⟨_,rfl,ok9,_,12,_,rfl,(y04.trans (y9.mono fun k hk=>s62_st k (.inr hk))).trans (yw.mono fun _ h=>h.elim),⟨lb,mb,ts,em,bk,am,q,tb,x10⟩,.inr (.inr ⟨rfl,fun hl=>?_,k,hD,fun a l=>?_,?_⟩)⟩
  ·have:=(wV_live hl ok.wf ok.n ok.size lg (h64' hck) (by rw[hLlen];exact hfit)).1
   omega
  ·show(G4.W a l∨_)↔_
   rw[hW4]
  ·obtain⟨nx,⟨h0,_⟩ | ⟨_,hrows,hsame⟩⟩:=wV_any ok.wf ok.n ok.size lg (L:=encB (X.num+1) X.count ((waitT X.D).take k)) (h64' hck) (by rw[hLlen];exact hfit)
   ·omega
   have hmono:∀ a l,G.W a l→(G4.addW fun a l=>∃ p∈X.D.queue.take k,(a,l)∈(X.D.at_ p).P).W a l:=fun a l h=>.inl (by rw[hW4];exact h)
   have e1:({ X4 with pos:=X4.pos,num:=X4.num,off:=true }:StD).dv=(wV X.dv X.pos (encB (X.num+1) X.count ((waitT X.D).take k))).2:=hdv
   show CrOk _ (N+1) X4.inn X4.count X4.tx X4.dv
   rw[hi,hco,ht,hdv]
   refine⟨nx.wf,nx.n.trans ok.n,nx.size.trans ok.size,fun j hj=>by rw[hsame j hj];exact ok.good j,ok.slots.same nx.size (fun j _ h2=>by rw[hsame j h2]) (by omega) (by omega),by omega,ok.text.mono hmono,fun m hm p hp=>?_,fun a l hw=>?_⟩
   ·rcases List.mem_append.1 (hrows m hm p hp) with hp | hp
    ·exact⟨(lg.each p hp).1,(lg.each p hp).2.mono hmono⟩
    ·exact hjb hck (fun a l h=>.inr h) p hp
   ·rcases hw with hw | hw
    ·rw[hW4]at hw;exact ok.w a l hw
    ·exact hwn a l hw
 have onCase:(c=0∨c=9)→X4.D = { X.D with out:=(k:Int) }→(∀ W':Int→List UInt8→Prop,(∀ a l,W' a l↔(G.W a l∨(c=0∧∃ p∈X.D.queue.take k,(a,l)∈(X.D.at_ p).P)))→SrOk W' (N+1) { X4 with D:=doneD c X.D k })→(Live X.dv→Live X4.dv) →
  (Live X.dv→CheckP ((X.num+1:Nat):Int) ((waitT X.D).take k)→X.pos+blocksN ((waitT X.D).take k)≤192→c=0) →
  ∃ a2:Addr,(some ⟨sb,0,none⟩:Option Addr)=some a2∧∃ c8:Option Addr,hY h4 (a2.add 5)=some (.pointer c8)∧HC Tryz.prog 60 #[.pointer c8,.int .i64 c] h4 fun r3 vh6=>
    ∃ c9:Int,r3=.int .i64 c9∧∃ (G':Gh) (c':Int) (X':StD),Value.int .i64 c=.int .i64 c'∧To sSt G h G' vh6∧StAt G' vh6 (M+128) sb db X'∧FlushR G.W G'.W N X X' c':=by
  intro hc hD hsr hlive hzero
  have m4:=x4.mgr
  rw[hD]at m4
  refine⟨_,rfl,_,x4.row.get rfl,(mDone_spec y4.ht m4 o.qok o.nodup (fun p hp=>(o.queued hp).2.2.2) (show X.D.queue.length≤1000 by omega) (n:=k) rfl hk1 hk2 (by omega) c).mono ?_⟩
  rintro _ h5 ⟨G5,c',q',rfl,y5,w5,m5⟩
  rw[doneD_out]at m5
  have hW5:∀ a l,G5.W a l↔(G.W a l∨(c=0∧∃ p∈X.D.queue.take k,(a,l)∈(X.D.at_ p).P)):=fun a l=>by rw[w5 a l,hW4];rfl
  have hdl:=doneD_last (code:=c) o hk2
  have x5:=x4.mg y5 sO_done (m5.imp (V':=1≤(doneD c X.D k).last) fun hv=>by
   by_cases h0:c=0
   ·exact(hdl.2.1 h0 hk1).1
   ·rw[hdl.1 h0]
    rcases hv with hv | hv
    ·exact hv
    ·exact absurd hv h0)
  have x6:=x5.to (To.refl y5.ht (S:=fun _=>False)) (M':=M+128) (by omega) fun _ _ h=>h
  exact⟨_,rfl,G5,c,_,rfl,y04.trans (y5.mono sDone_st),⟨lb,mb,ts,em,bk,am,q',tb,x6⟩,.inr (.inl ⟨k,hk1,hk2,hc,rfl,hW5,hsr _ hW5,hlive,hzero⟩)⟩
 rcases hcase with ⟨rfl,rfl,hno⟩ | ⟨hck,hfit,hcw,⟨rfl,rfl⟩ | ⟨rfl,rfl⟩⟩
 ·refine⟨_,rfl,.no rfl ?_⟩
  refine onCase (.inr rfl) rfl (fun W' hW'=>?_) id (fun _ h1 h2=>absurd ⟨h1,h2⟩ hno)
  have hm:∀ a l,G.W a l→W' a l:=fun a l h=>(hW' a l).2 (.inl h)
  exact⟨ok.n,ok.size,ok.wf,ok.good,ok.off,ok.slots,by show X.count≤_;omega,by show X.num≤_;omega,ok.text.mono hm,⟨ps,lg.mono hm⟩,(o.done hk2 9).more (by omega),fun a l hw=>by
   rcases(hW' a l).1 hw with hw | ⟨h0,_⟩
   ·exact ok.w a l hw
   ·exact absurd h0 (by decide)⟩
 ·refine⟨_,rfl,.no rfl ?_⟩
  have hcw:(wV X.dv X.pos (encB (X.num+1) X.count ((waitT X.D).take k))).1=0:=hcw.symm
  have h64:∀ p∈encB (X.num+1) X.count ((waitT X.D).take k),p.length=64:=h64' hck
  refine onCase (.inl rfl) rfl (fun W' hW'=>?_) (fun hl=>?_) (fun _ _ _=>rfl)
  ·have hm:∀ a l,G.W a l→W' a l:=fun a l h=>(hW' a l).2 (.inl h)
   obtain⟨nx,⟨_,hg,hrows,hsame⟩ | ⟨h12,_⟩⟩:=wV_any ok.wf ok.n ok.size lg h64 (by rw[hLlen];exact hfit)
   ·refine⟨nx.n.trans ok.n,nx.size.trans ok.size,nx.wf,hg,ok.off,ok.slots.same nx.size (fun j _ h2=>hsame j h2) (by omega) (by omega),by show X.count≤_;omega,by show X.num+1≤_;omega,ok.text.mono hm,⟨ps++encB (X.num+1) X.count ((waitT X.D).take k),?_,hfit,fun p hp=>?_,hrows⟩,(o.done hk2 0).more (by omega),fun a l hw=>?_⟩
    ·show _=X.pos+blocksN _
     rw[List.length_append,hLlen,lg.len]
    ·rcases List.mem_append.1 hp with hp | hp
     ·exact⟨(lg.each p hp).1,(lg.each p hp).2.mono hm⟩
     ·exact hjb hck (fun a l h=>(hW' a l).2 (.inr ⟨rfl,h⟩)) p hp
    ·rcases(hW' a l).1 hw with hw | ⟨_,hw⟩
     ·exact ok.w a l hw
     ·exact hwn a l hw
   ·omega
  ·exact(wV_live hl ok.wf ok.n ok.size lg h64 (by rw[hLlen];exact hfit)).2.1.live
 ·refine⟨_,rfl,.yes rfl ?_⟩
  obtain⟨a1,h1,h2,h3⟩:=offCase rfl rfl rfl rfl rfl rfl hck hfit hcw.symm
  exact⟨a1,h1,h2,h3⟩
end
theorem SrOk.mt{W:Int→List UInt8→Prop}{N:Nat}{X:StD}(o:SrOk W N X)(l:Live X.dv):MtOk W N X.inn X.count X.tx X.dv:=by
 have c:=o.cr
 exact⟨l,o.wf,o.n,o.size,o.good,o.slots,o.count,o.text,fun m hm p hp=>(c.rows m hm p hp).2,o.w⟩
theorem room_eq(inn count:Nat):SlV.room ⟨0,3,6,96,inn,count,false⟩=11440:=by simp[SlV.room]
theorem save_live{W:Int→List UInt8→Prop}{N inn count:Nat}{tx t:List UInt8}{d:Dv}(m:MtOk W N inn count tx d)(hN:N≤900000)(ht:t.length≤11360) :
 ∃ d',saveV d ⟨0,3,6,96,inn,count,false⟩ tx t=(0,d',⟨0,3,6,96,1-inn,count+1,false⟩,t)∧OkD d d'∧AllGood d'∧SlInv d' 0 3 6 (1-inn) t (count+1):=by
 have hi:=m.slots.le1
 have hc:=m.count
 have hn:=m.n
 have hs:=m.size
 have hch:nCh t+2≤286:=by unfold nCh;omega
 have hw:∃ lo hi',SlV.f ⟨0,3,6,96,inn,count,false⟩ (1-inn)=lo∧SlV.f ⟨0,3,6,96,inn,count,false⟩ (1-inn+1)=hi'∧lo=(if inn=0 then 3 else 0)∧hi'=(if inn=0 then 6 else 3):=by
  rcases(show inn=0∨inn=1 by omega) with rfl | rfl
  ·exact⟨3,6,rfl,rfl,rfl,rfl⟩
  ·exact⟨0,3,rfl,rfl,rfl,rfl⟩
 obtain⟨lo,hi',f1,f2,e1,e2⟩:=hw
 have hdiff:hi'-lo=3∧lo≤hi'∧hi'≤6:=by rw[e1,e2];split <;> omega
 obtain⟨w1,w2,w3,w4,w5⟩:=wr_live m.live m.wf (lo:=lo) (hi:=hi') (n:=count+1) (t:=t) (by omega) (by omega) (by rw[hdiff.1,hs];omega)
 rw[hs]at w1 w2 w3 w4 w5
 refine⟨(d.wr lo hi' 96 (count+1) t).2,?_,w2,w5,?_⟩
 ·unfold saveV
  rw[room_eq,if_neg (by omega),if_neg (by simp),f1,f2]
  show(if (d.wr lo hi' 96 (count+1) t).1≠0 then _ else _)=_
  rw[if_neg (by omega)]
 ·refine m.slots.wrote (by omega) (by omega) w2.size (by omega) (by omega) ?_ fun j h1 h2 h3=>w4 j ?_
  ·rw[hdiff.1]at w3
   rw[← e1]
   have:(if inn=0 then 6-3 else 3-0)=3:=by split <;> rfl
   rw[this];exact w3
  ·rw[← e1,← e2]at h3;omega
section
variable{G:Gh}{h:Hp}{M sb db:Nat}{X:StD}
theorem sCheck_spec(t:HT G h)(x:StAt G h M sb db X){N:Nat}(mt:MtOk G.W N X.inn X.count X.tx X.dv)(o:MgrOk N X.D)(hoff:X.off=false)(hN:N≤900000)(hM:M≤1000000):HC Tryz.prog 53 #[pv sb] h fun r h'=>∃ (G':Gh) (X':StD),r=.int .i64 (0:Int)∧To sSt G h G' h'∧G'.W=G.W∧StAt G' h' M sb db X'∧SrOk G.W (N+1) X'∧Live X'.dv∧X'.D=X.D:=by
 have x0:=x
 obtain⟨lb,mb,ts,em,bk,am,q,tb,x⟩:=x
 apply wc53
 unfold vc53
 refine(sDead_spec x).mono ?_
 rintro _ _ ⟨rfl,hh⟩
 obtain rfl:=hh.symm
 obtain⟨ob,hob,rob⟩:=x.row.only
 have hsb:=x.row.lt
 refine⟨_,rfl,.no hoff ⟨onlyB sb ob,sub_only hob,_,rfl,_,rob.get rfl,(sText_spec t x0 o.last hM).mono ?_⟩⟩
 rintro _ h1 ⟨s,P,G1,rfl,y1,w1,sl,hP,hPw,hPl,hPn,_⟩
 have x1:=x.pure y1
 have t1:=y1.ht
 have e1:=y1.toExt
 have s1:=y1.size
 have hob1:h1[sb]? = some ob:=by rw[e1.block _ hsb];exact hob
 refine⟨s,rfl,sub_only hob1,?_⟩
 have htl:=textB_len (last:=X.D.last) hP
 obtain⟨d2,hsv,ok2,good2,slots2⟩:=save_live mt hN (t:=textB X.D.last P) (by omega)
 have hcnt:=mt.count
 refine(Save_spec x1.dev (Nat.zero_le _) x1.sl ⟨by show 0≤3;omega,by show 3≤6;omega,by show 6≤64;omega,by show 1≤96∧96≤192;omega,mt.slots.le1,by show X.count<_;omega⟩ (by rw[mt.n];show 6≤8;omega) (sl.rd t1) (fun a ha=>?_) (by omega)).mono ?_
 ·have hs0:s.len≠0:=by rw[sl.slen];omega
  have st:=sl.stab t1 a ha hs0
  exact⟨st.dev0,st.1,fun e=>st.2 (by rw[e,x1.kl];trivial)⟩
 rintro _ h2 ⟨rfl,F2,ts2,dv2,sl2,hs2,g2,c2,hts2⟩
 have hS:X.S=⟨0,3,6,96,X.inn,X.count,false⟩:=rfl
 rw[hS,hsv]at dv2 sl2
 rw[hS,hsv]
 obtain⟨y2,F2e⟩:=devTo (S:=fun k=>k=.one 8) t1 (fun b hb=>(dv2.dom b hb).2) hs2 g2 (fun b hb hF hk=>c2 b hb hF fun e=>hk (by rw[e];exact x1.kl)) (fun k hk=>by subst hk;exact⟨trivial,fun h=>h⟩)
 generalize hG2:G1.dev h1.size F2=G2 at *
 have w2:G2.W=G1.W:=by rw[← hG2];rfl
 rw[← F2e]at dv2 sl2
 have y2':To (fun k=>isDev k∨k=.one 8) G1 h1 G2 h2:=y2
 have st2:∀ a,ts2.base=some a→Stab G2 h2 a.block:=fun a ha=>by
  obtain⟨b1,b2,b3⟩:=sl2.tb a ha
  refine⟨b2,?_⟩
  rcases hts2 a ha with h | h
  ·exact(y2.stab (x1.tst a h)).2.2
  ·rw[← hG2,Gh.dev_new (by omega),if_pos (by rw[← F2e];exact b1)];exact fun h=>h
 have x2:StIn G2 h2 M sb { X with dv:=d2,inn:=1-X.inn,count:=X.count+1,tx:=textB X.D.last P } db lb mb ts2 em bk am q tb:=
  ⟨y2.kd x1.kd (by simp),y2.rowK x1.row x1.kd (by simp[isDev]),dv2,y2.kd x1.kl (by simp),sl2,st2,x1.mgr.to y2 (Nat.le_refl _) (fun k hk hs=>by
   rcases hs with hs | hs
   ·cases k <;> first | exact hs | exact hk
   ·subst hs;simp[sMgr]at hk),fun a ha=>by
   rcases hts2 a ha with h | h
   ·exact x1.tlo a h
   ·have:=x1.row.lt;omega⟩
 have hob2:h2[sb]? = some ob:=by rw[c2 sb (by omega) (by show devK (G1.k sb)=0;rw[x1.kd];rfl) fun e=>by have:=x1.kl;rw[← e,x1.kd]at this;cases this];exact hob1
 refine⟨_,rfl,sub_only hob2,_,rfl,_,x2.row.getA rfl,?_⟩
 have y02:To sSt G h G2 h2:=(y1.mono fun _ h=>h.elim).trans (y2.mono fun k hk=>by
  rcases hk with hk | rfl
  ·exact isDev_st k hk
  ·simp[sSt])
 have hn2:d2.n=8:=ok2.n.trans mt.n
 refine⟨fun e z n h'=>∃ (j:Nat) (G':Gh) (d':Dv),e=0∧z=((6+j:Nat):Int)∧n+j=2∧To isDev G2 h2 G' h'∧G'.W=G2.W∧DevAt 0 (devF G') h' db d'∧OkD d2 d'∧∀ i,d'.z i=if 6≤i∧i<6+j then ⟨[],0⟩ else d2.z i,2,
  ⟨0,G2,d2,rfl,rfl,rfl,.refl y2.ht,rfl,dv2,⟨ok2.live,ok2.wf,rfl,rfl⟩,fun i=>by rw[if_neg (by omega)]⟩,?_⟩
 rintro _ _ _ n3 h3 ⟨j,G3,d3,rfl,rfl,hn3,y3,w3,dv3,ok3,hz3⟩
 have x3:=x2.dv' y3 (fun _ h=>h) dv3
 refine⟨_,rfl,_,x3.row.getA rfl,IfB.dec (fun hlt=>.yes rfl ?_) (fun hge=>.no rfl ?_)⟩
 ·have hj:j<2:=by omega
  have hd3:d3.n=8:=ok3.n.trans hn2
  refine⟨_,rfl,_,x3.row.get0 rfl,(Pointer_spec dv3 _).mono ?_⟩
  rintro _ h3' ⟨hh,⟨hno,_⟩ | ⟨k',hk',hkn,rfl⟩⟩
  ·exact absurd ⟨by omega,by show((6+j:Nat):Int)<(d3.n:Int);omega⟩ hno
  obtain rfl:=hh.symm
  obtain rfl:k'=6+j:=by omega
  have step:∀ i,(if i=6+j then (⟨[],0⟩:Zn) else d3.z i)=if 6≤i∧i<6+(j+1) then ⟨[],0⟩ else d2.z i:=fun i=>by
   by_cases e:i=6+j
   ·rw[if_pos e,if_pos (by omega)]
   ·rw[if_neg e,hz3 i]
    by_cases h6:6≤i∧i<6+j
    ·rw[if_pos h6,if_pos (by omega)]
    ·rw[if_neg h6,if_neg (by omega)]
  refine⟨_,_,rfl,IfB.dec (fun hpos=>?_) (fun hzero=>?_)⟩
  ·refine⟨_,rfl,_,x3.row.get0 rfl,(Reset_spec dv3 _).mono ?_⟩
   rw[reset_live ok3.live (by omega)]
   rintro _ h4 ⟨rfl,t4⟩
   obtain⟨G4,y4,w4,dv4⟩:=t4.to y3.ht
   refine⟨_,rfl,n3-1,by omega,j+1,G4,_,rfl,by rw[iAdd64 (by omega)];push_cast;omega,by omega,y3.trans y4,w4.trans w3,dv4,ok3.trans ⟨ok3.live.tick.setZ _ _,dv4.1,rfl,rfl⟩,fun i=>?_⟩
   rw[← step i]
   rw[Dv.z_set _ (by have:=ok3.wf.n;show 6+j<d3.zs.length;omega)]
   rfl
  ·have h0:(d3.z (6+j)).rows.length=0:=by omega
   refine⟨n3-1,by omega,j+1,G3,d3,rfl,by rw[iAdd64 (by omega)];push_cast;omega,by omega,y3,w3,dv3,ok3,fun i=>?_⟩
   rw[← step i]
   by_cases e:i=6+j
   ·rw[if_pos e,e,Dv.empty_z ok3.wf h0]
   ·rw[if_neg e]
 ·obtain rfl:j=2:=by omega
  obtain⟨ok8,b8,row8⟩:=kset y3.ht x3.kd (fun h=>h) x3.row (i:=7) (by simp[stV]) (.int .i64 (0:Int))
  have row8:Row (hset h3 ((⟨sb,0,none⟩:Addr).add 7) (.int .i64 (0:Int))) sb (stV db mb lb 0 X.num X.off):=row8
  obtain⟨ok9,b9,row9⟩:=kset b8.ht x3.kd (fun h=>h) row8 (i:=8) (by simp[stV]) (.int .i64 (0:Int))
  have b89:=b8.trans b9
  have y9:To (fun k=>k=.one 2) G3 h3 G3 _:=b89.to (by rw[x3.kd];exact⟨trivial,rfl⟩)
  have x9:=x3.reown y9 (pos:=0) (num:=0) (off:=X.off) row9
  refine⟨_,rfl,ok8,_,rfl,ok9,G3,_,rfl,(y02.trans (y3.mono isDev_st)).trans (y9.mono fun k hk=>s62_st k (.inr hk)),w3.trans (w2.trans w1),⟨lb,mb,ts2,em,bk,am,q,tb,x9⟩,?_,ok3.live,rfl⟩
  have hm:=o.more (N':=N+1) (by omega)
  refine⟨ok3.n.trans hn2,ok3.size.trans (ok2.size.trans mt.size),ok3.wf,fun i=>?_,hoff,slots2.same ok3.size (fun i _ h6=>?_) (by omega) (by omega),by show X.count+1≤_;omega,by show 0≤_;omega,.inr ⟨X.D.last,P,rfl,o.last,hP,hPw,hPn⟩,⟨[],rfl,by show 0≤192;omega,fun p hp=>by simp at hp,fun m hm=>?_⟩,hm,mt.w⟩
  ·show(d3.z i).good=(d3.z i).rows.length
   rw[hz3 i]
   split
   ·rfl
   ·exact good2 i
  ·show(d3.z i).rows=_
   rw[hz3 i,if_neg (by omega)]
  ·show(d3.z (6+m)).rows=_
   rw[hz3,if_pos (by omega)]
   simp[part]
end
theorem outJ_two(d:Dv):outJ d 2=if (d.z 6).rows.length<d.size then (d.z 6).rows else (d.z 6).rows++(d.z 7).rows:=by
 simp only[outJ,gapJ,Bool.false_or]
 by_cases h:(d.z 6).rows.length<d.size
 ·simp[h]
 ·simp[h]
theorem behJ_two(d:Dv):behJ d 2=if (d.z 6).rows.length<d.size then (d.z 7).rows else []:=by
 simp only[behJ,gapJ,Bool.false_or]
 by_cases h:(d.z 6).rows.length<d.size
 ·simp[h]
 ·simp[h]
theorem outJ_mem{d:Dv}{p:List UInt8}(h:p∈outJ d 2):∃ m,m<2∧p∈(d.z (6+m)).rows:=by
 rw[outJ_two]at h
 split at h
 ·exact⟨0,by omega,h⟩
 ·rcases List.mem_append.1 h with h | h
  ·exact⟨0,by omega,h⟩
  ·exact⟨1,by omega,h⟩
theorem behJ_mem{d:Dv}{p:List UInt8}(h:p∈behJ d 2):∃ m,m<2∧p∈(d.z (6+m)).rows:=by
 rw[behJ_two]at h
 split at h
 ·exact⟨1,by omega,h⟩
 ·simp at h
theorem outJ_part{d:Dv}(w:d.Wf)(hs:d.size=96)(hb:behJ d 2 = []):∀ m,m<2→(d.z (6+m)).rows=part 96 (outJ d 2) m:=by
 intro m hm
 have l6:=(w.zone 6).rows
 have l7:=(w.zone 7).rows
 rw[hs]at l6 l7
 rw[behJ_two]at hb
 rw[outJ_two]
 rw[hs]at hb ⊢
 rcases(show m=0∨m=1 by omega) with rfl | rfl
 ·unfold part
  split
  ·simp only[Nat.zero_mul,List.drop_zero];exact(List.take_of_length_le l6).symm
  ·simp only[Nat.zero_mul,List.drop_zero]
   rw[List.take_left' (by omega)]
 ·unfold part
  split
  ·rename_i h
   rw[if_pos h]at hb
   rw[Nat.one_mul,List.drop_of_length_le (by omega)]
   simpa using hb
  ·rw[Nat.one_mul,List.drop_left' (by omega)]
   exact(List.take_of_length_le l7).symm
theorem outJ_len{d:Dv}(w:d.Wf)(hs:d.size=96):(outJ d 2).length≤192∧(behJ d 2).length≤192:=by
 have l6:=(w.zone 6).rows
 have l7:=(w.zone 7).rows
 rw[hs]at l6 l7
 rw[outJ_two,behJ_two]
 constructor
 ·split
  ·omega
  ·rw[List.length_append];omega
 ·split
  ·omega
  ·simp
theorem MtOk.same{W:Int→List UInt8→Prop}{N inn count:Nat}{tx:List UInt8}{d d':Dv}(m:MtOk W N inn count tx d)(ok:OkD d d')(g:AllGood d')(hr:∀ j,(d'.z j).rows=(d.z j).rows):MtOk W N inn count tx d':=
 ⟨ok.live,ok.wf,ok.n.trans m.n,ok.size.trans m.size,g,m.slots.same ok.size (fun j _ _=>hr j) (by omega) (by omega),m.count,m.text,fun k hk p hp=>m.rows k hk p (by rw[← hr];exact hp),m.w⟩
section
variable{G:Gh}{h:Hp}
theorem newDev{F:Nat→Nat}{h1:Hp}{db:Nat}{d:Dv}(t:HT G h)(e:Ext h h1)(x:DevAt h.size F h1 db d):∃ G',To (fun _=>False) G h G' h1∧G'.W=G.W∧DevAt 0 (devF G') h1 db d:=by
 have dom:=x.dom
 have hF:∀ c,F c≠0→(fun b=>if b<h.size then devF G b else F b) c=F c:=fun c hc=>by
  have:=(dom c hc).1
  exact if_neg (by omega)
 have hd:∀ b,(fun b=>if b<h.size then devF G b else F b) b≠0→b<h1.size:=fun b hb=>by
  by_cases hl:b<h.size
  ·have:=e.size;omega
  ·have hb:(if b<h.size then devF G b else F b)≠0:=hb
   rw[if_neg hl]at hb;exact(dom b hb).2
 obtain⟨y,ef⟩:=devTo (S:=fun _=>False) (F:=fun b=>if b<h.size then devF G b else F b) t hd e.size (fun b hb=>if_pos hb) (fun b hb _ _=>e.block b hb) (fun _ h=>h.elim)
 refine⟨_,⟨y.le,y.old,y.size,fun b hb _=>e.block b hb,y.ht⟩,rfl,?_⟩
 rw[ef]
 have x:=x.low (Nat.zero_le _)
 obtain⟨w,zs,zb,x⟩:=x
 exact⟨w,zs,zb,x.move hF (fun b hb=>⟨Nat.zero_le _,hd b hb⟩) fun _ _=>rfl⟩
theorem Chg.toG{h':Hp}(t:HT G h)(c:Chg (devF G) h h'):To isDev G h G h':=
 ⟨.refl G,fun _ _=>rfl,c.size,fun b hb hn=>by
  refine c.block b hb ?_
  rcases Nat.eq_zero_or_pos (devF G b) with h0 | h0
  ·exact h0
  ·have h1:devK (G.k b)≠0:=by unfold devF at h0;omega
   exact absurd ⟨(devK_mut h1).1,devK_is h1⟩ hn,t.keep c.size fun b hb=>by
  refine c.block b (t.dom b (by intro hk;rw[hk]at hb;exact hb)) ?_
  rcases Nat.eq_zero_or_pos (devF G b) with h0 | h0
  ·exact h0
  ·have h1:devK (G.k b)≠0:=by unfold devF at h0;omega
   exact absurd hb (devK_mut h1).2⟩
theorem Two.rows1{h1:Hp}{out beh:Sl}{rows rows2:List (Sl × List UInt8)}(t:HT G h)(x:Two h.size h1 out beh rows rows2):RowsS G h1 out rows:=by
 have o:=x.o
 have st:∀ b,h.size≤b→b<h1.size→Stab G h1 b:=fun b h1 h2=>⟨h2,by rw[t.fresh h1];exact fun h=>h⟩
 exact⟨o.own.toRd,o.each,fun a ha=>st _ (o.own.lt ha).1 (o.own.lt ha).2,fun p hp a ha=>st _ (o.base p hp a ha).1 (o.base p hp a ha).2.1⟩
theorem Two.rows2{h1:Hp}{out beh:Sl}{rows rows2:List (Sl × List UInt8)}(t:HT G h)(x:Two h.size h1 out beh rows rows2):RowsS G h1 beh rows2:=by
 obtain⟨L,hL,_,o,_⟩:=x.b
 have st:∀ b,h.size≤b→b<h1.size→Stab G h1 b:=fun b h1 h2=>⟨h2,by rw[t.fresh h1];exact fun h=>h⟩
 exact⟨o.own.toRd,o.each,fun a ha=>st _ (Nat.le_trans hL (o.own.lt ha).1) (o.own.lt ha).2,fun p hp a ha=>st _ (Nat.le_trans hL (o.base p hp a ha).1) (o.base p hp a ha).2.1⟩
end
structure MidIn(G:Gh)(h:Hp)(sb db lb:Nat)(ts:Sl)(d:Dv)(inn count:Nat)(tx:List UInt8)(m:Option Addr)(pos num:Nat):Prop where
 kd:G.k sb=.one 2
 row:Row h sb (stW db m (some ⟨lb,0,none⟩) pos num false)
 dev:DevAt 0 (devF G) h db d
 kl:G.k lb=.one 8
 sl:SlotAt (devF G) h lb db ⟨0,3,6,96,inn,count,false⟩ tx ts
 tst:∀ a,ts.base=some a→Stab G h a.block
 tlo:∀ a,ts.base=some a→sb<a.block
section
variable{G:Gh}{h:Hp}{sb db lb:Nat}{ts:Sl}{d:Dv}{inn count:Nat}{tx:List UInt8}{m:Option Addr}{pos num:Nat}
theorem MidIn.to{S:Kd→Prop}{G':Gh}{h':Hp}(x:MidIn G h sb db lb ts d inn count tx m pos num)(y:To S G h G' h')(hS:∀ k,sStO k →¬ S k):MidIn G' h' sb db lb ts d inn count tx m pos num:=by
 obtain⟨s1,s2,s3⟩:=x.sl.to x.kl x.tst y (hS _ (.inr (.inr rfl)))
 exact⟨y.kd x.kd (by simp),y.rowK x.row x.kd (hS _ (.inr (.inl rfl))),x.dev.to y fun k hk=>hS k (.inl hk),s2,s1,s3,x.tlo⟩
theorem MidIn.pure{G':Gh}{h':Hp}(x:MidIn G h sb db lb ts d inn count tx m pos num)(y:To (fun _=>False) G h G' h'):MidIn G' h' sb db lb ts d inn count tx m pos num:=x.to y fun _ _ h=>h
theorem MidIn.dv{S:Kd→Prop}{G':Gh}{h':Hp}{d':Dv}(x:MidIn G h sb db lb ts d inn count tx m pos num)(y:To S G h G' h')(hS:∀ k,S k→isDev k)(dv:DevAt 0 (devF G') h' db d'):MidIn G' h' sb db lb ts d' inn count tx m pos num:=by
 obtain⟨s1,s2,s3⟩:=x.sl.to x.kl x.tst y fun h=>hS _ h
 exact⟨y.kd x.kd (by simp),y.rowK x.row x.kd fun h=>hS _ h,dv,s2,s1,s3,x.tlo⟩
theorem MidIn.re{S:Kd→Prop}{G':Gh}{h':Hp}{m':Option Addr}{pos' num':Nat}(x:MidIn G h sb db lb ts d inn count tx m pos num)(y:To S G h G' h')(hS:∀ k,S k →¬ isDev k∧k ≠ .one 8)(hr:Row h' sb (stW db m' (some ⟨lb,0,none⟩) pos' num' false)):MidIn G' h' sb db lb ts d inn count tx m' pos' num':=by
 obtain⟨s1,s2,s3⟩:=x.sl.to x.kl x.tst y fun h=>(hS _ h).2 rfl
 exact⟨y.kd x.kd (by simp),hr,x.dev.to y fun k hk h=>(hS k h).1 hk,s2,s1,s3,x.tlo⟩
theorem MidIn.st{M mb em bk am:Nat}{q:Sl}{tb:Nat→Nat}{D:MgrD}(x:MidIn G h sb db lb ts d inn count tx (some ⟨mb,0,none⟩) pos num)(mg:MgrIn G h M mb (1≤D.last) D em bk am q tb):StIn G h M sb ⟨d,inn,count,tx,pos,num,false,D⟩ db lb mb ts em bk am q tb:=
 ⟨x.kd,x.row,x.dev,x.kl,x.sl,x.tst,mg,x.tlo⟩
theorem mount_mgr(t:HT G h)(x:MidIn G h sb db lb ts d inn count tx m pos num)(hn:d.n=8)(hs:d.size=96){stb mp:Nat}{last:Int}{P:List PutD}(st:StateIn G h stb mp last P)(hla:0≤last∧last≤1099511627776)(hne:P ≠ []→1≤last){K K':Int→Hp→Prop}
 (hK:∀ (G':Gh) (h':Hp) (mb em bk am:Nat),To sSt G h G' h'→G'.W=G.W→StIn G' h' 258 sb ⟨d,inn,count,tx,pos,num,false,⟨[],[],0,0,last,last,last,false⟩⟩ db lb mb ts em bk am Sl.nil id→K 0 h') :
 ∃ hR:Hp,Sub hR h∧
   ∃ a2:Addr,(some (⟨stb,0,none⟩:Addr))=some a2∧
   ∃ c26:Int,hY hR a2=some (.int .i64 c26)∧
   HC Tryz.prog 66 #[dp db] h fun r9 vh13=>
   ∃ c27:Int,∃ c28:Int,r9=.agg #[.int .i64 c27,.int .i64 c28]∧
   Sub hR vh13∧
   HC Tryz.prog 75 #[.agg #[.int .i64 c27,.int .i64 c28]] vh13 fun r10 vh14=>
   ∃ c29:Int,r10=.int .i64 c29∧
   Sub hR vh14∧
   HC Tryz.prog 74 #[.int .i64 c29,.int .i64 c26] vh14 fun r11 vh15=>
   ∃ c30:Option Addr,∃ c31:Int,r11=.tuple #[.pointer c30,.int .i64 c31]∧
   Sub hR vh15∧
   ∃ a3:Addr,(some (⟨sb,0,none⟩:Addr))=some a3∧
   StOk vh15 (a3.add 5)∧
   Lt (hset vh15 (a3.add 5) (.pointer c30)) fun vh16=>
   Sub hR vh16∧
   IfB (c31 ==(0:Int)) (∃ hR1:Hp,Sub hR1 vh16∧
    ∃ a4:Addr,(some (⟨sb,0,none⟩:Addr))=some a4∧
    ∃ c32:Option Addr,hY hR1 (a4.add 5)=some (.pointer c32)∧
    HC Tryz.prog 77 #[.pointer (some (⟨stb,0,none⟩:Addr))] vh16 fun r12 vh17=>
    ∃ c33:Sl,r12=.slice c33.base c33.len c33.cap∧
    Sub hR1 vh17∧
    HC Tryz.prog 76 #[.pointer c32,.slice c33.base c33.len c33.cap] vh17 fun r13 vh18=>
    ∃ c34:Int,r13=.int .i64 c34∧
    Sub hR1 vh18∧K c34 vh18) (K' c31 vh16):=by
 have eg:(Value.agg #[.int .i64 (d.n:Int),.int .i64 (d.size:Int)])=.agg #[.int .i64 (8:Int),.int .i64 (96:Int)]:=by rw[hn,hs];rfl
 obtain⟨ob,hob,rob⟩:=st.row.only
 have hstb:=st.row.lt
 refine⟨onlyB stb ob,sub_only hob,_,rfl,_,rob.get0 rfl,(Geometry_spec x.dev).mono ?_⟩
 rintro _ h1 ⟨rfl,e1⟩
 rw[eg]
 refine⟨_,_,rfl,sub_only (by rw[e1.block _ hstb];exact hob),(spCap_spec h1).mono ?_⟩
 rintro _ h2 ⟨rfl,e2⟩
 have e02:=e1.trans e2
 refine⟨_,rfl,sub_only (by rw[e02.block _ hstb];exact hob),(mNew_spec (t.ext e02) 0 (1≤last) hla).mono ?_⟩
 rintro _ h3 ⟨mb,G3,em,bk,am,rfl,y3,w3,m3,hem,_,hmb⟩
 have y03:To (fun _=>False) G h G3 h3:=(e02.to t).trans y3
 have x3:=x.pure y03
 have st3:=st.to y03 id id
 have hob3:h3[stb]? = some ob:=by rw[y03.toExt.block _ hstb];exact hob
 have hne2:stb≠sb:=fun e=>by have:=st3.kb;rw[e,x3.kd]at this;cases this
 obtain⟨ok4,b4,row4⟩:=kset y03.ht x3.kd (fun h=>h) x3.row (i:=5) (by simp[stW]) (.pointer (some ⟨mb,0,none⟩))
 have y4:To (fun k=>k=.one 2) G3 h3 G3 _:=b4.to (by rw[x3.kd];exact⟨trivial,rfl⟩)
 refine⟨_,_,rfl,sub_only hob3,_,rfl,ok4,sub_only (by rw[b4.fr _ (by have:=y03.size;omega) hne2];exact hob3),.yes rfl ?_⟩
 have x4:=x3.re y4 (m':=some ⟨mb,0,none⟩) (pos':=pos) (num':=num) (fun k hk=>by subst hk;exact⟨fun h=>h,by simp⟩) row4
 have st4:=st3.to y4 (by simp) (by simp)
 have m4:=m3.to y4 (Nat.le_refl _) fun k hk e=>by rw[e]at hk;simp[sMgr]at hk
 have hem4:hY (hset h3 ((⟨sb,0,none⟩:Addr).add 5) (.pointer (some ⟨mb,0,none⟩))) ((⟨em,0,none⟩:Addr).add 2)=some (.int .i64 0):=by
  rw[← hem]
  refine hcell_eq (b4.fr _ (by have:=hcell_lt hem;exact this) fun e=>?_)
  have e:em=sb:=e
  have:=m3.ext.kd
  rw[e,x3.kd]at this;cases this
 generalize hset h3 ((⟨sb,0,none⟩:Addr).add 5) (.pointer (some ⟨mb,0,none⟩))=h4 at *
 obtain⟨ob4,hob4,rob4⟩:=x4.row.only
 have hsb4:=x4.row.lt
 refine⟨onlyB sb ob4,sub_only hob4,_,rfl,_,rob4.get rfl,(stPuts_spec y4.ht st4).mono ?_⟩
 rintro _ h5 ⟨s,rfl,y5,p5⟩
 have hob5:h5[sb]? = some ob4:=by rw[y5.toExt.block _ hsb4];exact hob4
 refine⟨s,rfl,sub_only hob5,?_⟩
 have m5:=m4.pure y5
 have hem5:hY h5 ((⟨em,0,none⟩:Addr).add 2)=some (.int .i64 0):=by
  rw[← hem4];exact hcell_eq (y5.toExt.block _ (hcell_lt hem4))
 refine(mLoad_spec y5.ht m5 hem5 p5 st.ok st.ok.le258 (by omega) (fun q hq=>by rw[w3];exact st.w q hq) hla hne).mono ?_
 rintro _ h6 ⟨G6,rfl,y6,w6,m6,_⟩
 have x6:=(x4.pure y5).to y6 sO_ext
 refine⟨_,rfl,sub_only ?_,hK G6 h6 mb em bk am ?_ (w6.trans w3) (x6.st (m6.imp fun h=>h.elim id id))⟩
 ·rw[y6.fr _ (by have:=y5.size;omega) fun hh=>by
   rw[(x4.pure y5).kd]at hh;exact absurd hh.2 (sO_ext _ (.inr (.inl rfl)))]
  exact hob5
 ·exact(((y03.mono fun _ h=>h.elim).trans (y4.mono fun k hk=>s62_st k (.inr hk))).trans (y5.mono fun _ h=>h.elim)).trans (y6.mono sExt_st)
end
section
variable{G:Gh}{h:Hp}
theorem sMount_spec{db:Nat}{d:Dv}(t:HT G h)(x:DevAt 0 (devF G) h db d){N inn count:Nat}{tx:List UInt8}(mt:MtOk G.W N inn count tx d)(hN:192≤N)(hN2:N≤900000) :
 HC Tryz.prog 35 #[dp db] h fun r h'=>∃ (sb:Nat) (G':Gh) (X':StD) (last:Int),r=.tuple #[pv sb,.int .i64 0]∧To sSt G h G' h'∧G'.W=G.W∧StAt G' h' 258 sb db X'∧SrOk G.W (N+1) X'∧Live X'.dv∧X'.D=⟨[],[],0,0,last,last,last,false⟩∧
  (tx = []→(∀ m,m<2→(d.z (6+m)).rows = [])→last=0∧X'.num=0∧X'.pos=0∧X'.count=count):=by
 apply wc35
 unfold vc35
 have hn:=mt.n
 have hs:=mt.size
 have eg:(Value.agg #[.int .i64 (d.n:Int),.int .i64 (d.size:Int)])=.agg #[.int .i64 (8:Int),.int .i64 (96:Int)]:=by rw[hn,hs];rfl
 refine(Geometry_spec x).mono ?_
 rintro _ h1 ⟨rfl,e1⟩
 rw[eg]
 refine⟨_,_,rfl,(spSplit_spec h1).mono ?_⟩
 rintro _ h2 ⟨rfl,e2⟩
 refine⟨_,_,_,_,_,rfl,?_⟩
 intro h3
 have e3:Ext h2 h3:=alc_ext _ _ _
 have s3:h3.size=h2.size+1:=size_alc _ _ _
 have r3:Row h3 h2.size [.int .i64 (0:Int),.int .i64 (0:Int),.int .i64 (0:Int),.int .i64 (0:Int)]:=Row.alc _ _ _
 refine r3.put (vs:=[.int .i64 (0:Int),.int .i64 (3:Int),.int .i64 (6:Int),.int .i64 (7:Int)]) rfl (by simp[cellOk]) fun h4 r4 s4 o4=>.no rfl ⟨_,_,_,_,r4.get0 rfl,r4.get rfl,r4.get rfl,r4.get rfl,?_⟩
 intro h5
 have e4:Ext h2 h4:=⟨by omega,fun b hb=>by rw[o4 b (by omega),e3.block b hb]⟩
 have e5:Ext h4 h5:=alc_ext _ _ _
 have s5:h5.size=h4.size+1:=size_alc _ _ _
 have e04:=(e1.trans e2).trans e4
 have row5:Row h5 h4.size (stW db none none 0 0 false):=Row.alc _ _ _
 have t4:=t.ext e04
 obtain⟨y5,k5,w5⟩:=t4.kindNew e5 (b:=h4.size) (Nat.le_refl _) row5.lt (k := .one 2) id
 generalize G.set h4.size (.one 2) 0=G5 at *
 have y05:To (fun _=>False) G h G5 h5:=(e04.to t).trans y5
 have x5:=x.to y05 fun _ _ h=>h
 have r45:=r4.ext e5
 refine⟨_,r45.get0 rfl,_,r45.get rfl,_,r45.get rfl,(Open_spec x5 _ _ _).mono ?_⟩
 rintro _ h6 hop
 have hok:OpenOk d 0 3 6:=⟨by omega,by omega,by omega,by rw[hn];omega⟩
 have hfl:d.flush.1=0:=by rw[flush_live mt.live]
 have hpick:=mt.slots.pick
 rcases hop with ⟨hno,_⟩ | ⟨_,q,⟨i,hi,hodd⟩,_⟩ | ⟨_,q,F6,dv6,g6,c6,_,_,⟨hne,_⟩ | ⟨_,lb,ts,hlb,htsb,rfl,sl6⟩⟩
 ·exact absurd hok hno
 ·exfalso
  rcases(show i=0∨i=1 by omega) with rfl | rfl
  ·have h1:(zRows d 0 (3-0)).any oddB=true:=hodd
   rw[mt.slots.odd0]at h1;cases h1
  ·have h1:(zRows d 3 (6-3)).any oddB=true:=hodd
   rw[mt.slots.odd1]at h1;cases h1
 ·exact absurd hfl hne
 have sl6:SlotAt F6 h6 lb db ⟨0,3,6,d.size,(pickS (zRows d 0 (3-0)) (zRows d 3 (6-3))).1,(pickS (zRows d 0 (3-0)) (zRows d 3 (6-3))).2.2,false⟩ (pickS (zRows d 0 (3-0)) (zRows d 3 (6-3))).2.1 ts:=sl6
 rw[hpick,hs]at sl6
 have lq:Live (withReads d q):=mt.live
 have wq:(withReads d q).Wf:=mt.wf.reads q
 rw[flush_live lq]at dv6
 have ok6:OkD d (withReads d q).tick.flushed:=⟨⟨lq.tick.1,lq.tick.2⟩,wq.tick.flushed,rfl,rfl⟩
 have mt6:MtOk G.W N inn count tx (withReads d q).tick.flushed:=mt.same ok6 (fun j=>by rw[Dv.flushed_z]) fun j=>by rw[Dv.flushed_z];rfl
 generalize hd6:(withReads d q).tick.flushed=d6 at *
 have hr6:∀ j,(d6.z j).rows=(d.z j).rows:=fun j=>by rw[← hd6,Dv.flushed_z];rfl
 have s6:=c6.size
 obtain⟨y6,ef6⟩:=devTo (S:=fun _=>False) y5.ht (fun b hb=>(dv6.dom b hb).2) s6 g6 (fun b hb hF _=>c6.block b hb hF) (fun _ h=>h.elim)
 have y6:To isDev G5 h5 (G5.dev h5.size F6) h6:=y6.mono fun k hk=>hk.elim id False.elim
 have kl6:(G5.dev h5.size F6).k lb=.any:=by rw[Gh.dev_new (by omega),if_pos sl6.role]
 have t6:=y6.ht.setOne kl6 sl6.row.lt (k := .one 8) id
 have y6':To isDev G5 h5 ((G5.dev h5.size F6).set lb (.one 8) ((G5.dev h5.size F6).n lb)) h6:=y6.give (Gh.set_le kl6 (Nat.le_refl _)) t6 (s:=⟨some ⟨lb,0,none⟩,0,0⟩) (fun a ha=>by cases ha;exact hlb) fun c hc=>Gh.set_ne (hc _ rfl)
 have w6:((G5.dev h5.size F6).set lb (.one 8) ((G5.dev h5.size F6).n lb)).W=G.W:=w5
 have ef6':devF ((G5.dev h5.size F6).set lb (.one 8) ((G5.dev h5.size F6).n lb))=F6:=by
  funext b
  by_cases e:b=lb
  ·subst e
   show devK (((G5.dev h5.size F6).set b (.one 8) ((G5.dev h5.size F6).n b)).k b)=_
   rw[Gh.set_k,sl6.role];rfl
  ·show devK (((G5.dev h5.size F6).set lb (.one 8) ((G5.dev h5.size F6).n lb)).k b)=_
   rw[Gh.set_ne e]
   exact congrFun ef6 b
 have kl6':((G5.dev h5.size F6).set lb (.one 8) ((G5.dev h5.size F6).n lb)).k lb=.one 8:=Gh.set_k
 have tst6:∀ a,ts.base=some a→Stab ((G5.dev h5.size F6).set lb (.one 8) ((G5.dev h5.size F6).n lb)) h6 a.block:=fun a ha=>by
  obtain⟨b1,b2,b3⟩:=sl6.tb a ha
  have:=htsb a ha
  refine⟨b2,?_⟩
  rw[Gh.set_ne b3,Gh.dev_new (by omega),if_pos b1]
  exact fun h=>h
 generalize (G5.dev h5.size F6).set lb (.one 8) ((G5.dev h5.size F6).n lb)=G6 at *
 rw[← ef6']at dv6 sl6
 have kd6:G6.k h4.size=.one 2:=y6'.kd k5 (by simp)
 have row6:Row h6 h4.size (stW db none none 0 0 false):=y6'.rowK row5 k5 fun h=>h
 obtain⟨ok7,b7,row7⟩:=kset y6'.ht kd6 (fun h=>h) row6 (i:=6) (by simp[stW]) (.pointer (some ⟨lb,0,none⟩))
 have row7:Row (hset h6 ((⟨h4.size,0,none⟩:Addr).add 6) (.pointer (some ⟨lb,0,none⟩))) h4.size (stW db none (some ⟨lb,0,none⟩) 0 0 false):=row7
 have y7:To (fun k=>k=.one 2) G6 h6 G6 _:=b7.to (by rw[kd6];exact⟨trivial,rfl⟩)
 obtain⟨sl7,kl7,tst7⟩:=sl6.to kl6' tst6 y7 (by simp)
 have x7:MidIn G6 _ h4.size db lb ts d6 inn count tx none 0 0:=⟨kd6,row7,dv6.to y7 (fun k hk e=>by rw[e]at hk;exact hk),kl7,sl7,tst7,fun a ha=>by have:=htsb a ha;omega⟩
 have y07:To sSt G h G6 _:=((y05.mono fun _ h=>h.elim).trans (y6'.mono isDev_st)).trans (y7.mono fun k hk=>s62_st k (.inr hk))
 refine⟨_,_,rfl,_,rfl,ok7,.no rfl ?_⟩
 show ∃ a1:Addr,(some (⟨h4.size,0,none⟩:Addr))=some a1∧_
 rw[show nw h4=⟨h4.size,0,none⟩ from rfl]
 generalize hset h6 ((⟨h4.size,0,none⟩:Addr).add 6) (.pointer (some ⟨lb,0,none⟩))=h7 at *
 generalize h4.size=sb at *
 refine⟨_,rfl,_,x7.row.get rfl,(Load_spec x7.sl.row x7.sl.text (by have:=mt.text.len;omega)).mono ?_⟩
 rintro _ h8 ⟨u,rfl,ou,lu,e8⟩
 obtain⟨G8,y8,_,sl8,_,w8⟩:=OwnN.bytes (e8.to (S:=fun _=>False) y07.ht) (ou.toN y07.ht (Nat.le_refl _))
 refine⟨u,_,rfl,(parse_spec y8.ht sl8 (by rw[w8,w6];exact mt.text)).mono ?_⟩
 rintro _ h9 ⟨stb,mp,last,P,G9,rfl,y9,w9,st9,hla,hne,hemp⟩
 have x9:=(x7.pure y8).pure y9
 have y09:To sSt G h G9 h9:=(y07.trans (y8.mono fun _ h=>h.elim)).trans (y9.mono fun _ h=>h.elim)
 have hW9:G9.W=G.W:=w9.trans (w8.trans w6)
 refine⟨_,_,rfl,.no rfl ((sLog_spec x9.dev mt6.n x9.row (by show devK (G9.k sb)=0;rw[x9.kd];rfl)).mono ?_)⟩
 rintro _ h10 ⟨out,beh,rows,rows2,q2,rfl,tw,hr1,hr2,dv10,c10⟩
 have y10:=c10.toG y9.ht
 have x10:=x9.dv y10 (fun _ h=>h) dv10
 have st10:=st9.to y10 (fun h=>h) (fun h=>h)
 have rs1:=tw.rows1 y9.ht
 have rs2:=tw.rows2 y9.ht
 have hlen:=outJ_len mt6.wf mt6.size
 have hl1:rows.length≤192:=by have:=congrArg List.length hr1;rw[List.length_map]at this;omega
 have hl2:rows2.length≤192:=by have:=congrArg List.length hr2;rw[List.length_map]at this;omega
 have hj1:∀ p∈rows,JB G9.W p.2:=fun p hp=>by
  obtain⟨m,hm,hp⟩:=outJ_mem (d:=d6) (p:=p.2) (by rw[← hr1];exact List.mem_map_of_mem hp)
  rw[hW9];exact mt6.rows m hm _ hp
 have hj2:∀ p∈rows2,JB G9.W p.2:=fun p hp=>by
  obtain⟨m,hm,hp⟩:=behJ_mem (d:=d6) (p:=p.2) (by rw[← hr2];exact List.mem_map_of_mem hp)
  rw[hW9];exact mt6.rows m hm _ hp
 have nostr:∀ {l:List (Sl × List UInt8)},(∀ p∈l,JB G9.W p.2)→(l.any fun x=>strangeB x.2)=false:=fun hl=>by
  rw[List.any_eq_false]
  intro p hp
  have:=(hl p hp).2.1
  unfold strangeB
  simp only[decide_eq_true_eq]
  omega
 have hstr:∀ {l:List (Sl × List UInt8)},(∀ p∈l,JB G9.W p.2) →∀ x∈l,∀ c:Sl,Rd 1 h10 c (x.2.map bv)→HC Tryz.prog 72 #[.slice c.base c.len c.cap] h10 fun r h'=>r=.bool (strangeB x.2)∧h'=h10:=fun hl x hx c hc=>strange_spec hc (by have:=(hl x hx).1;omega)
 refine⟨out,beh,rfl,(rowsContains_spec rs1.rd.rd (by have:=rs1.rd.len;simpa using this.symm) rs1.each (by omega) (hstr hj1)).mono ?_⟩
 rintro _ _ ⟨rfl,hh⟩
 obtain rfl:=hh.symm
 rw[nostr hj1]
 refine⟨_,rfl,.no rfl ((rowsContains_spec rs2.rd.rd (by have:=rs2.rd.len;simpa using this.symm) rs2.each (by omega) (hstr hj2)).mono ?_)⟩
 rintro _ _ ⟨rfl,hh⟩
 obtain rfl:=hh.symm
 rw[nostr hj2]
 refine⟨_,rfl,.no rfl ((sReplay_spec y10.ht (by rw[hW9];exact mt.w) x10.kd x10.row x10.kl x10.sl.row x10.sl.text (by have:=mt.text.len;omega) st10 hla hne rs1 (by omega) hj1).mono ?_)⟩
 rintro _ h11 ⟨torn,pos,num,last',P',rfl,y11,row11,st11,hla',hne',hpos,hnp,htorn,hrows0⟩
 have x11:=x10.re y11 (fun k hk=>⟨fun hd=>by cases k <;> first | exact hk | exact hd,fun e=>by subst e;simp[sMnt]at hk⟩) row11
 have y011:To sSt G h G9 h11:=(y09.trans (y10.mono isDev_st)).trans (y11.mono sMnt_st)
 have mt11:MtOk G.W N inn count tx (withReads d6 q2):=mt6.same ⟨mt6.live,mt6.wf.reads q2,rfl,rfl⟩ mt6.good fun _=>rfl
 have mo:MgrOk N ⟨[],[],0,0,last',last',last',false⟩:=MgrOk.new N hla'
 have hbl:beh.len=rows2.length:=by have:=rs2.rd.len;simpa using this.symm
 have ck:∀ {G':Gh} {h':Hp} {mb em bk am:Nat},To sSt G9 h11 G' h'→G'.W=G9.W→StIn G' h' 258 sb ⟨withReads d6 q2,inn,count,tx,pos,num,false,⟨[],[],0,0,last',last',last',false⟩⟩ db lb mb ts em bk am Sl.nil id→(rows ≠ []∨rows2 ≠ [])→HC Tryz.prog 53 #[pv sb] h' fun r14 vh19=>
  ∃ c35:Int,r14=.int .i64 c35∧c35=0∧∃ (G':Gh) (X':StD) (last:Int),To sSt G h G' vh19∧G'.W=G.W∧StAt G' vh19 258 sb db X'∧SrOk G.W (N+1) X'∧Live X'.dv∧X'.D=⟨[],[],0,0,last,last,last,false⟩∧(tx = []→(∀ m,m<2→(d.z (6+m)).rows = [])→last=0∧X'.num=0∧X'.pos=0∧X'.count=count):=by
  intro G' h' mb em bk am y' w' xs hnz
  have hw':G'.W=G.W:=w'.trans hW9
  refine(sCheck_spec y'.ht ⟨lb,mb,ts,em,bk,am,Sl.nil,id,xs⟩ (N:=N) (by rw[hw'];exact mt11) mo rfl hN2 (by omega)).mono ?_
  rintro _ h12 ⟨G12,X12,rfl,y12,w12,x12,o12,l12,hD⟩
  refine⟨0,rfl,rfl,G12,X12,last',(y011.trans y').trans y12,w12.trans hw',x12,by rw[hw']at o12;exact o12,l12,hD,fun _ hz=>?_⟩
  exfalso
  have h0:∀ p,p ∉ (d6.z 6).rows:=fun p hp=>by rw[hr6 6,hz 0 (by omega)]at hp;simp at hp
  rcases hnz with hnz | hnz
  ·obtain⟨p,hp⟩:=List.exists_mem_of_ne_nil _ hnz
   obtain⟨m,hm,hp⟩:=outJ_mem (d:=d6) (p:=p.2) (by rw[← hr1];exact List.mem_map_of_mem hp)
   rw[hr6,hz m hm]at hp;simp at hp
  ·obtain⟨p,hp⟩:=List.exists_mem_of_ne_nil _ hnz
   obtain⟨m,hm,hp⟩:=behJ_mem (d:=d6) (p:=p.2) (by rw[← hr2];exact List.mem_map_of_mem hp)
   rw[hr6,hz m hm]at hp;simp at hp
 refine⟨torn,rfl,IfB.intro (fun ht=>mount_mgr y11.ht x11 mt11.n mt11.size st11 hla' hne' fun G' h' mb em bk am y' w' xs=>?_) (fun hf=>mount_mgr y11.ht x11 mt11.n mt11.size st11 hla' hne' fun G' h' mb em bk am y' w' xs=>?_)⟩
 ·refine .no rfl ((ck y' w' xs (.inl fun e=>by have:=(hrows0 e).1;rw[ht]at this;cases this)).mono ?_)
  rintro _ h12 ⟨c,rfl,rfl,G2,X2,last2,y2,w2,x2,o2,l2,hD,hz⟩
  exact⟨0,rfl,.no rfl ⟨sb,G2,X2,last2,rfl,y2,w2,x2,o2,l2,hD,hz⟩⟩
 ·refine .no rfl (IfB.dec (fun hb=>?_) (fun hb=>.no rfl ?_))
  ·refine(ck y' w' xs (.inr fun e=>by rw[e]at hbl;simp at hbl;omega)).mono ?_
   rintro _ h12 ⟨c,rfl,rfl,G2,X2,last2,y2,w2,x2,o2,l2,hD,hz⟩
   exact⟨0,rfl,.no rfl ⟨sb,G2,X2,last2,rfl,y2,w2,x2,o2,l2,hD,hz⟩⟩
  ·have h2:rows2 = []:=List.eq_nil_of_length_eq_zero (by omega)
   have hb0:behJ d6 2 = []:=by rw[← hr2,h2];rfl
   obtain⟨hp,hg⟩:=htorn hf
   have hpart:=outJ_part mt6.wf mt6.size hb0
   rw[hW9]at hj1
   refine⟨sb,G',_,last',rfl,y011.trans y',w'.trans hW9,⟨lb,mb,ts,em,bk,am,Sl.nil,id,xs⟩,?_,mt11.live,rfl,fun htx hz=>?_⟩
   ·refine⟨mt11.n,mt11.size,mt11.wf,mt11.good,rfl,mt11.slots,Nat.le_succ_of_le mt11.count,by show num≤_;omega,mt11.text,⟨outJ d6 2,?_,?_,fun p hp=>?_,hpart⟩,mo.more (Nat.le_succ _),mt11.w⟩
    ·show _=pos
     rw[← hr1,List.length_map,hp]
    ·show pos≤192;omega
    ·rw[← hr1]at hp
     obtain⟨z,hz,rfl⟩:=List.mem_map.1 hp
     exact⟨hg z hz,hj1 z hz⟩
   ·have hr0:rows = []:=by
     cases rows with
     | nil=>rfl
     | cons p r=>
       obtain⟨m,hm,hp⟩:=outJ_mem (d:=d6) (p:=p.2) (by rw[← hr1];simp)
       rw[hr6,hz m hm]at hp;simp at hp
    obtain⟨_,hn0,_,hl0⟩:=hrows0 hr0
    have:=(hemp htx).2
    refine⟨hl0.trans this,hn0,?_,rfl⟩
    show pos=0
    rw[hp,hr0];rfl
end
structure CSl where
 ops:Sl
 beg:Sl
 ans:Sl
 asked:Bool
 L:List Nat
def clV(c:CSl):List Value:=[.slice c.ops.base c.ops.len c.ops.cap,.slice c.beg.base c.beg.len c.beg.cap,.slice c.ans.base c.ans.len c.ans.cap,.bool c.asked]
def scV(db sb:Nat)(cl:List CSl)(all:Sl)(ev:Int):List Value:=[dp db,pv sb]++cl.flatMap clV ++ [.slice all.base all.len all.cap,.int .i64 ev]
structure BgD where
 h:Nat
 st:Int
 P:List PutD
 fr:Int
 to_:Int
theorem flat8(cl:List CSl)(h:cl.length=8):∃ a b c d e f g i,cl = [a,b,c,d,e,f,g,i]:=by
 match cl,h with
 | [a,b,c,d,e,f,g,i],_=>exact⟨a,b,c,d,e,f,g,i,rfl⟩
theorem scV_len{db sb:Nat}{cl:List CSl}{all:Sl}{ev:Int}(h:cl.length=8):(scV db sb cl all ev).length=36:=by
 obtain⟨a,b,c,d,e,f,g,i,rfl⟩:=flat8 cl h
 rfl
theorem scV_get{db sb:Nat}{cl:List CSl}{all:Sl}{ev:Int}(h:cl.length=8){k j:Nat}(hk:k<8)(hj:j<4){c:CSl}(hc:cl[k]? = some c):(scV db sb cl all ev)[2+(k*4+j)]? =(clV c)[j]?:=by
 obtain⟨a,b,c',d,e,f,g,i,rfl⟩:=flat8 cl h
 match k,hk with
 | 0,_=>simp at hc;subst hc;match j,hj with | 0,_=>rfl | 1,_=>rfl | 2,_=>rfl | 3,_=>rfl
 | 1,_=>simp at hc;subst hc;match j,hj with | 0,_=>rfl | 1,_=>rfl | 2,_=>rfl | 3,_=>rfl
 | 2,_=>simp at hc;subst hc;match j,hj with | 0,_=>rfl | 1,_=>rfl | 2,_=>rfl | 3,_=>rfl
 | 3,_=>simp at hc;subst hc;match j,hj with | 0,_=>rfl | 1,_=>rfl | 2,_=>rfl | 3,_=>rfl
 | 4,_=>simp at hc;subst hc;match j,hj with | 0,_=>rfl | 1,_=>rfl | 2,_=>rfl | 3,_=>rfl
 | 5,_=>simp at hc;subst hc;match j,hj with | 0,_=>rfl | 1,_=>rfl | 2,_=>rfl | 3,_=>rfl
 | 6,_=>simp at hc;subst hc;match j,hj with | 0,_=>rfl | 1,_=>rfl | 2,_=>rfl | 3,_=>rfl
 | 7,_=>simp at hc;subst hc;match j,hj with | 0,_=>rfl | 1,_=>rfl | 2,_=>rfl | 3,_=>rfl
theorem scV_all{db sb:Nat}{cl:List CSl}{all:Sl}{ev:Int}(h:cl.length=8):(scV db sb cl all ev)[34]? = some (.slice all.base all.len all.cap)∧(scV db sb cl all ev)[35]? = some (.int .i64 ev):=by
 obtain⟨a,b,c',d,e,f,g,i,rfl⟩:=flat8 cl h
 exact⟨rfl,rfl⟩
theorem clV_len(c:CSl):(clV c).length=4:=rfl
theorem flat_set{post:List Value}{j:Nat}(hj:j<4){c c':CSl}{v:Value}(hv:(clV c).set j v=clV c'):∀ (cl:List CSl) (k:Nat),cl[k]? = some c→(cl.flatMap clV++post).set (k*4+j) v=(cl.set k c').flatMap clV++post
 | [],k,h=>by simp at h
 | x::r,0,h=>by
   simp at h
   subst h
   simp only[List.flatMap_cons,List.set_cons_zero,List.append_assoc]
   rw[show 0*4+j=j by omega,List.set_append_left _ _ (by rw[clV_len];exact hj),hv]
 | x::r,k+1,h=>by
   simp at h
   simp only[List.flatMap_cons,List.set_cons_succ,List.append_assoc]
   rw[List.set_append_right _ _ (by rw[clV_len];omega),clV_len,show(k+1)*4+j-4=k*4+j by omega,flat_set hj hv r k h]
theorem scV_set{db sb:Nat}{cl:List CSl}{all:Sl}{ev:Int}{k j:Nat}(hj:j<4){c c':CSl}(hc:cl[k]? = some c){v:Value}(hv:(clV c).set j v=clV c'):(scV db sb cl all ev).set (2+(k*4+j)) v=scV db sb (cl.set k c') all ev:=by
 unfold scV
 rw[List.append_assoc,List.append_assoc,List.set_append_right _ _ (by simp),← flat_set hj hv cl k hc]
 congr 2
 simp
theorem scV_setAll{db sb:Nat}{cl:List CSl}{all all':Sl}{ev:Int}(h:cl.length=8):(scV db sb cl all ev).set 34 (.slice all'.base all'.len all'.cap)=scV db sb cl all' ev:=by
 obtain⟨a,b,c',d,e,f,g,i,rfl⟩:=flat8 cl h
 rfl
theorem scV_setEv{db sb:Nat}{cl:List CSl}{all:Sl}{ev ev':Int}(h:cl.length=8):(scV db sb cl all ev).set 35 (.int .i64 ev')=scV db sb cl all ev':=by
 obtain⟨a,b,c',d,e,f,g,i,rfl⟩:=flat8 cl h
 rfl
end Go.Proofs.YtdpdkpfnfllipaaGreatDoor
