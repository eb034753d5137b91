/- A part of the proof, no condition. -/
import Derived.Test.YtdpdkpfnfllipaaGreatDoorE15
set_option linter.unusedVariables false
set_option linter.unusedSimpArgs false
namespace Go.Proofs.YtdpdkpfnfllipaaGreatDoor
theorem SlB.cut{G:Gh}{s:Sl}{l:List UInt8}(x:SlB G s l){lo hi m:Nat}(h1:lo≤hi)(h2:hi≤s.len)(h3:hi≤m):SlB G (cutSl s (lo:Int) (hi:Int) (m:Int) 1) ((l.drop lo).take (hi-lo)):=by
 obtain⟨a,b,c⟩:=x
 have hl:(cutSl s (lo:Int) (hi:Int) (m:Int) 1).len=hi-lo:=cut_len
 have hl2:((l.drop lo).take (hi-lo)).length=hi-lo:=by rw[List.length_take,List.length_drop];omega
 refine⟨by rw[hl,hl2],by rw[hl,cut_cap];omega,?_⟩
 by_cases e0:m=lo
 ·exact .inl (List.eq_nil_of_length_eq_zero (by rw[hl2];omega))
 rcases c with rfl | ⟨b,o,all,e,k,ht⟩
 ·exact .inl (by simp)
 ·refine .inr ⟨b,o+lo,all,?_,k,?_⟩
  ·simp only[cutSl,e]
   rw[if_neg (by simpa using e0)]
   simp[add_none]
  ·rw[hl2,← List.drop_drop,← ht,List.drop_take,List.take_take,Nat.min_eq_left (by omega)]
theorem spMay_spec(h:Hp):HC Tryz.prog 117 #[.agg #[.int .i64 (8:Int),.int .i64 (96:Int)]] h fun r h'=>r=.bool true∧Ext h h':=by
 apply wc117
 unfold vc117
 intro h1
 have r1:Row h1 h.size [.int .i64 (8:Int),.int .i64 (96:Int)]:=Row.alc _ _ _
 exact⟨_,r1.get0 rfl,.yes (by decide) ⟨_,r1.get0 rfl,.yes (by decide) ⟨_,r1.get rfl,.yes (by decide) ⟨_,r1.get rfl,rfl,alc_ext _ _ _⟩⟩⟩⟩
theorem spSplit_spec(h:Hp):HC Tryz.prog 65 #[.agg #[.int .i64 (8:Int),.int .i64 (96:Int)]] h fun r h'=>r=.tuple #[.agg #[.int .i64 (0:Int),.int .i64 (3:Int),.int .i64 (6:Int),.int .i64 (7:Int)],.int .i64 (0:Int)]∧Ext h h':=by
 apply wc65
 unfold vc65
 intro h1 h2
 have e1:Ext h h1:=alc_ext _ _ _
 have e2:Ext h1 h2:=alc_ext _ _ _
 have s1:h1.size=h.size+1:=size_alc _ _ _
 have s2:h2.size=h1.size+1:=size_alc _ _ _
 have r1:Row h1 h.size [.int .i64 (8:Int),.int .i64 (96:Int)]:=Row.alc _ _ _
 have r1:=r1.ext e2
 have r2:Row h2 h1.size [.int .i64 (0:Int),.int .i64 (0:Int),.int .i64 (0:Int),.int .i64 (0:Int)]:=Row.alc _ _ _
 refine⟨_,_,r1.get0 rfl,r1.get rfl,(spMay_spec h2).mono ?_⟩
 rintro _ h3 ⟨rfl,e3⟩
 refine⟨_,rfl,.no rfl ⟨_,(r1.ext e3).get0 rfl,by decide,_,(r1.ext e3).get0 rfl,?_⟩⟩
 refine(r2.ext e3).put (vs:=[.int .i64 (0:Int),.int .i64 (iQuo .i64 (iMul .i64 (3:Int) 8) (8:Int)),.int .i64 (iMul .i64 (2:Int) (iQuo .i64 (iMul .i64 (3:Int) 8) (8:Int))),.int .i64 (iSub .i64 8 (1:Int))]) rfl (by simp[cellOk]) fun h4 r4 s4 o4=>?_
 refine⟨_,_,_,_,r4.get0 rfl,r4.get rfl,r4.get rfl,r4.get rfl,?_,?_⟩
 ·have e1:iMul .i64 (3:Int) 8=24:=iMul64 (by omega)
  have e2:iQuo .i64 24 8=3:=by decide +kernel
  have e3:iMul .i64 (2:Int) 3=6:=iMul64 (by omega)
  have e4:iSub .i64 8 (1:Int)=7:=iSub64 (by omega)
  rw[e1,e2,e3,e4]
 ·have:=e3.size
  exact⟨by omega,fun b hb=>by rw[o4 b (by omega),e3.block b (by omega),e2.block b (by omega),e1.block b hb]⟩
theorem spCap_spec(h:Hp):HC Tryz.prog 75 #[.agg #[.int .i64 (8:Int),.int .i64 (96:Int)]] h fun r h'=>r=.int .i64 (258:Int)∧Ext h h':=by
 apply wc75
 unfold vc75
 intro h1
 have e1:Ext h h1:=alc_ext _ _ _
 have s1:h1.size=h.size+1:=size_alc _ _ _
 have r1:Row h1 h.size [.int .i64 (8:Int),.int .i64 (96:Int)]:=Row.alc _ _ _
 refine⟨_,_,r1.get0 rfl,r1.get rfl,(spSplit_spec h1).mono ?_⟩
 rintro _ h2 ⟨rfl,e2⟩
 have s2:=e2.size
 refine⟨_,_,_,_,_,rfl,?_⟩
 intro h3
 have e3:Ext h2 h3:=alc_ext _ _ _
 have s3:h3.size=h2.size+1:=size_alc _ _ _
 have r3:Row h3 h2.size [.int .i64 (0:Int),.int .i64 (0:Int),.int .i64 (0:Int),.int .i64 (0:Int)]:=Row.alc _ _ _
 refine r3.put (vs:=[.int .i64 (0:Int),.int .i64 (3:Int),.int .i64 (6:Int),.int .i64 (7:Int)]) rfl (by simp[cellOk]) fun h4 r4 s4 o4=>?_
 have e14:Ext h1 h4:=⟨by omega,fun b hb=>by rw[o4 b (by omega),e3.block b (by omega),e2.block b hb]⟩
 refine .no rfl ⟨_,r4.get rfl,_,(r1.ext e14).get rfl,by decide,?_,e1.trans e14⟩
 have e1:iMul .i64 (3:Int) 96=288:=iMul64 (by omega)
 have e2:iSub .i64 288 (2:Int)=286:=iSub64 (by omega)
 have e3:iMul .i64 (40:Int) 286=11440:=iMul64 (by omega)
 have e4:iSub .i64 11440 (64:Int)=11376:=iSub64 (by omega)
 have e5:iQuo .i64 11376 44=258:=by decide +kernel
 rw[e1,e2,e3,e4,e5]
def rowsB(P:List PutD):List UInt8:=P.flatMap fun p=>leB 4 p.1.toNat++p.2
def textB(last:Int)(P:List PutD):List UInt8:=leB 8 last.toNat++rowsB P
theorem rowsB_len{P:List PutD}(h:∀ p∈P,p.2.length=40):(rowsB P).length=44*P.length:=by
 induction P with
 | nil=>rfl
 | cons p r ih=>
   have:=ih fun q hq=>h q (by simp[hq])
   simp only[rowsB,List.flatMap_cons,List.length_append,leB_length,List.length_cons]at this ⊢
   rw[h p (by simp)]
   omega
theorem textB_len{last:Int}{P:List PutD}(h:PutsOk P):(textB last P).length=8+44*P.length:=by
 unfold textB;rw[List.length_append,leB_length,rowsB_len fun p hp=>(h.2 p hp).2.2]
theorem rowsB_snoc{P:List PutD}{j:Nat}(hj:j<P.length):rowsB (P.take (j+1))=rowsB (P.take j)++leB 4 P[j].1.toNat++P[j].2:=by
 unfold rowsB
 rw[List.take_succ_eq_append_getElem hj,List.flatMap_append]
 simp
section
variable{G:Gh}{h:Hp}{M sb db:Nat}{X:StD}
theorem sText_spec(t:HT G h)(x:StAt G h M sb db X)(hla:0≤X.D.last∧X.D.last≤1099511627776)(hM:M≤1000000):HC Tryz.prog 104 #[pv sb] h fun r h'=>∃ (s:Sl) (P:List PutD) (G':Gh),r=.slice s.base s.len s.cap∧To (fun _=>False) G h G' h'∧G'.W=G.W∧SlB G' s (textB X.D.last P)∧PutsOk P∧(∀ p∈P,G.W p.1 p.2)∧P.length≤258∧(P ≠ []→1≤X.D.last)∧StAt G' h' M sb db X:=by
 obtain⟨lb,mb,ts,em,bk,am,q,tb,x⟩:=x
 apply wc104
 unfold vc104
 refine⟨_,rfl,_,x.row.get rfl,(mLast_spec x.mgr).mono ?_⟩
 rintro _ _ ⟨rfl,hh⟩
 obtain rfl:=hh
 obtain⟨n,hn⟩:∃ n:Nat,X.D.last=n:=⟨X.D.last.toNat,by omega⟩
 have ec:iConv .u64 X.D.last=((n:Nat):Int):=by rw[hn,iConv_nat u64s,Nat.mod_eq_of_lt (by simp only[IntKind.bits];omega)]
 refine⟨_,rfl,?_⟩
 rw[ec]
 refine(Put64_spec n (by omega) _).mono ?_
 rintro _ h1 ⟨u,rfl,ou,lu,e1⟩
 have x1:=x.pure (e1.to t)
 refine⟨u,rfl,_,rfl,_,x1.row.get rfl,(mDump_spec (t.ext e1) x1.mgr hM).mono ?_⟩
 rintro _ h2 ⟨s,P,G2,rfl,y2,sp,ew,hP,hw,hl,hne⟩
 have y02:To (fun _=>False) G _ G2 h2:=(e1.to t).trans y2
 refine⟨s,rfl,?_⟩
 have o2:OwnN _ 1 G2 h2 u ((leB 8 n).map bv):=(ou.toN t (Nat.le_refl _)).to y2
 have u32s:IntKind.signed .u32=false:=rfl
 refine⟨fun out i m h'=>∃ j:Nat,i=j∧m+j=P.length∧To (fun _=>False) G _ G2 h'∧OwnN _ 1 G2 h' out ((leB 8 n++rowsB (P.take j)).map bv),P.length,⟨0,rfl,rfl,y02,by simpa [rowsB] using o2⟩,?_⟩
 rintro _ out _ m h3 ⟨j,rfl,hm,y3,o3⟩
 have hlo:=o3.own.len
 have hrl:(rowsB (P.take j)).length=44*min j P.length:=by rw[rowsB_len fun p hp=>(hP.2 p (List.mem_of_mem_take hp)).2.2,List.length_take]
 simp only[List.length_map,List.length_append,leB_length,hrl]at hlo
 refine IfB.dec (fun hlt=>?_) (fun hge=>?_)
 ·have hj:j<P.length:=by rw[sp.slen]at hlt;omega
  have pj:=hP.2 _ (List.getElem_mem hj)
  refine(sp.putsK y3.ht h3.size).ix j rfl hj fun a d c0 c1 rd bd=>⟨_,d,c0,c1,?_⟩
  intro h4
  have e4:Ext h3 h4:=alc_ext _ _ _
  have s4:h4.size=h3.size+1:=size_alc _ _ _
  have r4:Row h4 h3.size [.int .i64 (0:Int),.slice Sl.nil.base Sl.nil.len Sl.nil.cap]:=Row.alc _ _ _
  refine r4.put (vs:=[.int .i64 P[j].1,.slice d.base d.len d.cap]) rfl (by simp[cellOk]) fun h5 r5 s5 o5=>?_
  have e35:Ext h3 h5:=⟨by omega,fun b hb=>by rw[o5 b (by omega),e4.block b hb]⟩
  obtain⟨ob,hob,rob⟩:=r5.only
  refine⟨onlyB h3.size ob,sub_only hob,_,rob.get0 rfl,d,rob.get rfl,?_⟩
  have e32:iConv .u32 P[j].1=((P[j].1.toNat:Nat):Int):=by
   obtain⟨q,hq⟩:∃ q:Nat,P[j].1=q:=⟨P[j].1.toNat,by omega⟩
   rw[hq,iConv_nat u32s,Nat.mod_eq_of_lt (by simp only[IntKind.bits];omega)];rfl
  rw[e32]
  refine(Put32_spec _ (by omega) h5).mono ?_
  rintro _ h6 ⟨v,rfl,ov,lv,e6⟩
  have s6:=e6.size
  have hob6:h6[h3.size]? = some ob:=by rw[e6.block _ (by omega)];exact hob
  refine⟨v,rfl,sub_only hob6,?_⟩
  have e36:=e35.trans e6
  have y6:=y3.ext e36
  have o6:=o3.to (e36.to y3.ht (S:=fun _=>False))
  have okb:∀ {l:List UInt8},∀ w∈l.map bv,cellOk w=true:=fun w hw=>by obtain⟨x,_,rfl⟩:=List.mem_map.1 hw;rfl
  rw[leB_length]at lv
  have hd40:d.len=40:=by rw[← rd.lenB];exact pj.2.2
  refine OwnN.app y6 rfl o6 (news:=(leB 4 P[j].1.toNat).map bv) (by rw[List.length_map,leB_length];omega) ov.toRd.rd okb (by omega) (by omega) fun r1 h7 y7 o7 l7 s7 f7=>⟨sub_only ?_,?_⟩
  ·rw[f7 _ (by omega) fun a ha e=>by have:=(o3.own.lt ha).2;omega];exact hob6
  have rd7:Rd 1 h7 d (P[j].2.map bv):=rd.eq fun a ha=>by
   obtain⟨hs,hk⟩:=bd a ha (by omega)
   have hlt:=hs.1
   rw[f7 _ (by omega) fun a' ha' e=>?_,e36.block _ hlt]
   rcases hk with hk | hk
   ·omega
   ·exact hk (by rw[e];exact o3.any _ ha')
  refine OwnN.app y7 rfl o7 (news:=P[j].2.map bv) (by rw[List.length_map];omega) rd7.rd okb (by omega) (by omega) fun r2 h8 y8 o8 l8 s8 f8=>⟨m-1,by omega,j+1,by rw[iAdd64 (by omega)];push_cast;rfl,by omega,y8,?_⟩
  rw[rowsB_snoc hj]
  simpa [List.append_assoc] using o8
 ·obtain rfl:j=P.length:=by rw[sp.slen]at hge;omega
  rw[List.take_length]at o3
  obtain⟨G3,y4,le4,b4,k4,w4⟩:=OwnN.bytes y3 o3
  refine⟨out,P,G3,rfl,y4,by rw[w4];exact ew,?_,hP,hw,hl,hne,lb,mb,ts,em,bk,am,q,tb,x.pure y4⟩
  unfold textB
  rw[hn];exact b4
end
def TextOk(W:Int→List UInt8→Prop)(tx:List UInt8):Prop:=
 tx = [] ∨∃ (last:Int) (P:List PutD),tx=textB last P∧(0≤last∧last≤1099511627776)∧PutsOk P∧(∀ p∈P,W p.1 p.2)∧(P ≠ []→1≤last)
theorem TextOk.mono{W W':Int→List UInt8→Prop}{tx:List UInt8}(h:TextOk W tx)(hw:∀ a l,W a l→W' a l):TextOk W' tx:=by
 rcases h with h | ⟨last,P,h1,h2,h3,h4,h5⟩
 ·exact .inl h
 ·exact .inr ⟨last,P,h1,h2,h3,fun p hp=>hw _ _ (h4 p hp),h5⟩
theorem PutsOk.le258{P:List PutD}(o:PutsOk P):P.length≤258:=by
 have:=nodup_lt o.nodup (n:=258) fun k hk=>by
  obtain⟨p,hp,rfl⟩:=List.mem_map.1 hk
  have:=o.2 p hp;omega
 simpa using this
theorem TextOk.len{W:Int→List UInt8→Prop}{tx:List UInt8}(h:TextOk W tx):tx.length≤11360:=by
 rcases h with rfl | ⟨last,P,rfl,_,h3,_⟩
 ·simp
 ·rw[textB_len h3];have:=h3.le258;omega
structure DMg(Q:Sl→List UInt8→Prop)(dl:List ME)(P:List PutD):Prop where
 keys:∀ k,k∈kS dl↔k∈P.map (·.1)
 each:∀ k v b,(k,v,b)∈dl →∃ (s:Sl) (l:List UInt8),v=.slice s.base s.len s.cap∧Q s l∧(k,l)∈P
theorem DMg.mono{Q Q':Sl→List UInt8→Prop}{dl:List ME}{P:List PutD}(d:DMg Q dl P)(x:∀ s l,Q s l→Q' s l):DMg Q' dl P:=
 ⟨d.keys,fun k v b h=>by obtain⟨s,l,h1,h2,h3⟩:=d.each k v b h;exact⟨s,l,h1,x s l h2,h3⟩⟩
theorem DMg.nil(Q:Sl→List UInt8→Prop):DMg Q [] []:=⟨fun k=>by simp[kS],fun k v b h=>by simp at h⟩
theorem DMg.len{Q:Sl→List UInt8→Prop}{dl:List ME}{c:Nat}{P:List PutD}(d:DMg Q dl P)(w:MWf dl c)(o:PutsOk P):dl.length=P.length:=by
 have:=(List.perm_ext_iff_of_nodup w.keys o.nodup).2 d.keys
 have:=this.length_eq
 simpa [kS] using this
theorem DMg.put{Q:Sl→List UInt8→Prop}{dl:List ME}{c:Nat}{P:List PutD}(d:DMg Q dl P)(w:MWf dl c){k:Int}{l:List UInt8}{s:Sl}(sb:Q s l):DMg Q (mputL dl k (.slice s.base s.len s.cap) c) (putP P k l):=by
 have wk:=(w.put k (.slice s.base s.len s.cap)).keys
 refine⟨fun j=>?_,fun j v b h=>?_⟩
 ·rw[mputL_kS]
  have hp:j∈(putP P k l).map (·.1)↔j=k∨j∈P.map (·.1):=by
   simp only[List.mem_map,putP_mem]
   constructor
   ·rintro⟨p,rfl | ⟨h1,h2⟩,rfl⟩
    ·exact .inl rfl
    ·exact .inr ⟨p,h1,rfl⟩
   ·rintro(rfl | ⟨p,h1,rfl⟩)
    ·exact⟨_,.inl rfl,rfl⟩
    ·by_cases e:p.1=k
     ·exact⟨_,.inl rfl,e.symm⟩
     ·exact⟨p,.inr ⟨h1,e⟩,rfl⟩
  rw[hp,← d.keys]
  split
  ·rename_i h
   constructor
   ·exact .inr
   ·rintro(rfl | h')
    ·exact h
    ·exact h'
  ·simp[or_comm]
 ·rcases mputL_mem h with ⟨h1,h2⟩ | h'
  ·simp only at h1 h2
   subst h1 h2
   exact⟨s,l,rfl,sb,putP_mem.2 (.inl rfl)⟩
  ·obtain⟨s',l',e1,e2,e3⟩:=d.each j v b h'
   by_cases ej:j=k
   ·subst ej
    have g1:=mputL_get dl j (.slice s.base s.len s.cap) c j
    rw[if_pos rfl,(w.put j (.slice s.base s.len s.cap)).get h]at g1
    have hv:v=.slice s.base s.len s.cap:=Option.some.inj g1
    exact⟨s,l,hv,sb,putP_mem.2 (.inl rfl)⟩
   ·exact⟨s',l',e1,e2,putP_mem.2 (.inr ⟨e3,ej⟩)⟩
theorem DMg.at{Q:Sl→List UInt8→Prop}{dl:List ME}{dc:Nat}{P:List PutD}(d:DMg Q dl P)(w:MWf dl dc)(o:PutsOk P){p:PutD}(hp:p∈P):∃ s:Sl,mget dl p.1=some (.slice s.base s.len s.cap)∧Q s p.2:=by
 obtain⟨e,he,hk⟩:=List.mem_map.1 ((d.keys p.1).2 (List.mem_map.2 ⟨p,hp,rfl⟩))
 obtain⟨k,v,b⟩:=e
 simp only at hk;subst hk
 obtain⟨s,l,rfl,h2,h3⟩:=d.each _ v b he
 rw[o.uniq (k:=p.1) (l:=l) (l':=p.2) h3 hp]at h2
 exact⟨s,w.get he,h2⟩
theorem DMg.i64{P:List PutD}(o:PutsOk P){Q:Sl→List UInt8→Prop}{dl:List ME}(d:DMg Q dl P):∀ x∈kS dl,-9223372036854775808≤x∧x≤9223372036854775807:=by
 intro x hx
 obtain⟨p,hp,rfl⟩:=List.mem_map.1 ((d.keys x).1 hx)
 have:=o.2 p hp
 omega
def BR(G:Gh)(h:Hp)(s:Sl)(l:List UInt8):Prop:=Rd 1 h s (l.map bv)∧∀ a,s.base=some a→s.len≠0→Stab G h a.block
theorem BR.to{S:Kd→Prop}{G G':Gh}{h h':Hp}{s:Sl}{l:List UInt8}(x:BR G h s l)(y:To S G h G' h'):BR G' h' s l:=
 ⟨x.1.mv (B:=Stab G h) x.2 fun b hb=>(y.stab hb).1,fun a ha hn=>(y.stab (x.2 a ha hn)).2⟩
theorem BR.toB{c:Nat}{G G':Gh}{h h':Hp}{s:Sl}{l:List UInt8}(x:BR G h s l)(y:ToB c G h G' h')(hc:Mut (G.k c)):BR G' h' s l:=
 ⟨x.1.mv (B:=Stab G h) x.2 fun b hb=>(y.stab hc hb).1,fun a ha hn=>(y.stab hc (x.2 a ha hn)).2⟩
theorem SlB.br{G:Gh}{h:Hp}(t:HT G h){s:Sl}{l:List UInt8}(x:SlB G s l):BR G h s l:=⟨x.rd t,x.stab t⟩
structure StateIn(G:Gh)(h:Hp)(b mp:Nat)(last:Int)(P:List PutD):Prop where
 kb:G.k b=.one 21
 km:G.k mp=.one 22
 row:Row h b [.int .i64 last,.map (some mp)]
 map:∃ (dl:List ME) (dc:Nat),h[mp]? = some (mapO dl dc)∧MWf dl dc∧DMg (BR G h) dl P
 ok:PutsOk P
 w:∀ p∈P,G.W p.1 p.2
section
variable{G:Gh}{h:Hp}{b mp:Nat}{last:Int}{P:List PutD}
theorem StateIn.to{S:Kd→Prop}{G':Gh}{h':Hp}(x:StateIn G h b mp last P)(y:To S G h G' h')(h1:¬ S (.one 21))(h2:¬ S (.one 22)):StateIn G' h' b mp last P:=by
 obtain⟨dl,dc,m,w,d⟩:=x.map
 exact⟨y.kd x.kb (by simp),y.kd x.km (by simp),y.rowK x.row x.kb h1,⟨dl,dc,y.blk m (by rw[x.km];exact h2),w,d.mono fun _ _ h=>h.to y⟩,x.ok,fun p hp=>y.le.W _ _ (x.w p hp)⟩
theorem StateIn.ne(x:StateIn G h b mp last P):b≠mp:=fun e=>by have:=x.kb;rw[e,x.km]at this;cases this
theorem StateIn.put(t:HT G h)(x:StateIn G h b mp last P){k:Int}{l:List UInt8}{s:Sl}(sb:BR G h s l)(hk:0≤k∧k<258)(hl:l.length=40)(hw:G.W k l):∃ (dl:List ME) (dc:Nat),h[mp]? = some (mapO dl dc)∧
 ToB mp G h G (h.setIfInBounds mp (mput dl k (.slice s.base s.len s.cap) dc))∧StateIn G (h.setIfInBounds mp (mput dl k (.slice s.base s.len s.cap) dc)) b mp last (putP P k l):=by
 obtain⟨dl,dc,m,w,d⟩:=x.map
 have y:ToB mp G h G (h.setIfInBounds mp (mput dl k (.slice s.base s.len s.cap) dc)):=t.toB (by rw[x.km];exact fun h=>h) (by simp) fun c _ hc=>Array.getElem?_setIfInBounds_ne (Ne.symm hc)
 refine⟨dl,dc,m,y,x.kb,x.km,x.row.eq (Array.getElem?_setIfInBounds_ne (Ne.symm x.ne)),⟨_,_,by rw[Array.getElem?_setIfInBounds_self_of_lt (blk_lt m),mput_eq],w.put _ _,(d.put w sb).mono fun _ _ h=>h.toB y (by rw[x.km];trivial)⟩,x.ok.put hk hl,fun p hp=>?_⟩
 rcases putP_mem.1 hp with rfl | ⟨h,_⟩
 ·exact hw
 ·exact x.w p h
theorem StateIn.time(t:HT G h)(x:StateIn G h b mp last P)(v:Int):StOk h ⟨b,0,none⟩∧ToB b G h G (hset h ⟨b,0,none⟩ (.int .i64 v))∧StateIn G (hset h ⟨b,0,none⟩ (.int .i64 v)) b mp v P:=by
 obtain⟨ok,r,o,s⟩:=x.row.set0 (by simp) (.int .i64 v)
 obtain⟨dl,dc,m,w,d⟩:=x.map
 have r:Row (hset h ⟨b,0,none⟩ (.int .i64 v)) b [.int .i64 v,.map (some mp)]:=r
 have y:ToB b G h G (hset h ⟨b,0,none⟩ (.int .i64 v)):=t.toB (by rw[x.kb];exact fun h=>h) (by omega) fun c _ hc=>o c hc
 exact⟨ok,y,x.kb,x.km,r,⟨dl,dc,by rw[o _ (Ne.symm x.ne)];exact m,w,d.mono fun _ _ h=>h.toB y (by rw[x.kb];trivial)⟩,x.ok,x.w⟩
theorem stateNew(t:HT G h){ty:Nat}:∃ G':Gh,To (fun _=>False) G h G' (alc (h.push (mapO [] 0)) [.int .i64 (0:Int),.map (some h.size)] ty)∧G'.W=G.W∧StateIn G' (alc (h.push (mapO [] 0)) [.int .i64 (0:Int),.map (some h.size)] ty) (h.size+1) h.size 0 []:=by
 have e1:Ext h (h.push (mapO [] 0)):=Ext.push _ _
 have e2:Ext (h.push (mapO [] 0)) (alc (h.push (mapO [] 0)) [.int .i64 (0:Int),.map (some h.size)] ty):=alc_ext _ _ _
 have r:Row (alc (h.push (mapO [] 0)) [.int .i64 (0:Int),.map (some h.size)] ty) (h.size+1) [.int .i64 (0:Int),.map (some h.size)]:=by
  have:=Row.alc (h.push (mapO [] 0)) [.int .i64 (0:Int),.map (some h.size)] ty
  simpa using this
 have m:(alc (h.push (mapO [] 0)) [.int .i64 (0:Int),.map (some h.size)] ty)[h.size]? = some (mapO [] 0):=by
  rw[alc_old _ _ _ (by simp)];simp
 obtain⟨y1,k1,W1⟩:=t.kindNew (e1.trans e2) (b:=h.size) (Nat.le_refl _) (blk_lt m) (k := .one 22) id
 have kb:(G.set h.size (.one 22) 0).k (h.size+1)=.any:=by rw[Gh.set_ne (by omega)];exact t.fresh (by omega)
 have t3:=y1.ht.setOne kb r.lt (k := .one 21) id
 exact⟨_,y1.give (Gh.set_le kb (Nat.le_refl _)) t3 (s:=⟨some ⟨h.size+1,0,none⟩,0,0⟩) (fun a ha=>by cases ha;show h.size≤h.size+1;omega) fun c hc=>Gh.set_ne (hc _ rfl),rfl,Gh.set_k,by rw[Gh.set_ne (by omega)];exact k1,r,⟨[],0,m,MWf.nil 0,DMg.nil _⟩,PutsOk.nil,fun p hp=>by simp at hp⟩
theorem rowsB_cons{P:List PutD}{j:Nat}(hj:j<P.length):rowsB (P.drop j)=leB 4 P[j].1.toNat++(P[j].2++rowsB (P.drop (j+1))):=by
 unfold rowsB
 rw[List.drop_eq_getElem_cons hj,List.flatMap_cons,List.append_assoc]
theorem parse_spec(t:HT G h){s:Sl}{tx:List UInt8}(sl:SlB G s tx)(ok:TextOk G.W tx):HC Tryz.prog 69 #[.slice s.base s.len s.cap] h fun r h'=>∃ (b mp:Nat) (last:Int) (P:List PutD) (G':Gh),r=.tuple #[pv b,.bool true]∧To (fun _=>False) G h G' h'∧G'.W=G.W∧StateIn G' h' b mp last P∧(0≤last∧last≤1099511627776)∧(P ≠ []→1≤last)∧(tx = []→P = []∧last=0):=by
 apply wc69
 unfold vc69
 obtain⟨G1,y1,W1,x1⟩:=stateNew t (ty:=151)
 have hb:(nw (h.push (mapO [] 0)))=⟨h.size+1,0,none⟩:=by simp[nw]
 show IfB _ _ _
 rw[hb]
 have hsl:=sl.slen
 generalize hh1:alc (h.push (mapO [] 0)) [.int .i64 (0:Int),.map (some h.size)] 151=h1 at *
 refine IfB.eq (fun h0=>?_) (fun h0=>?_)
 ·exact⟨_,_,0,[],G1,rfl,y1,W1,x1,by omega,fun h=>absurd rfl h,fun _=>⟨rfl,rfl⟩⟩
 rcases ok with rfl | ⟨last,P,rfl,hla,hP,hw,hne⟩
 ·exact absurd (by rw[hsl];rfl) h0
 have hlen:=textB_len (last:=last) hP
 have h258:=hP.le258
 have sl1:=sl.mono y1.le
 refine(Get64_spec (sl1.rd y1.ht)).mono ?_
 rintro _ _ ⟨rfl,hh⟩
 obtain rfl:=hh.symm
 have g64:getR 8 (textB last P)=(last.toNat,true):=by
  rw[getR_of (by omega)]
  unfold textB
  rw[List.take_left' (leB_length 8 _),leB_leN_mod 8 _ (by omega)]
 rw[g64]
 refine⟨_,_,rfl,.no rfl (IfB.dec (fun hh=>by exfalso;omega) fun _=>⟨by decide,IfB.ne (fun hh=>?_) fun _=>?_⟩)⟩
 ·exfalso;apply hh;rw[iRem_nn (by omega),hsl,hlen];omega
 obtain⟨ok2,b2,x2⟩:=x1.time y1.ht (iConv .i64 (last.toNat:Int))
 have ec:iConv .i64 (last.toNat:Int)=last:=by rw[iConv64 (by omega)];omega
 rw[ec]at b2 x2
 have ec':iConv .i64 ((((last.toNat,true):Nat × Bool).1:Nat):Int)=last:=ec
 refine⟨_,rfl,ok2,?_⟩
 rw[ec']
 have hs1:h.size<h1.size:=Nat.lt_of_lt_of_le (Nat.lt_succ_self _) (Nat.le_of_lt x1.row.lt)
 have y2:=b2.new y1 (by omega)
 refine⟨by omega,by rw[hsl,hlen];omega,by have:=sl.2.1;omega,by omega,?_⟩
 have cut0:SlB G1 (cutSl s (8:Int) (s.len:Int) (s.cap:Int) 1) (rowsB (P.drop 0)):=by
  have:=sl1.cut (lo:=8) (hi:=s.len) (m:=s.cap) (by omega) (Nat.le_refl _) sl.2.1
  rw[List.take_of_length_le (by rw[List.length_drop];omega)]at this
  unfold textB at this
  rw[List.drop_left' (leB_length 8 _)]at this
  simpa using this
 refine⟨fun l m h'=>∃ (j:Nat) (Q:List PutD),m+j=P.length∧To (fun _=>False) G h G1 h'∧StateIn G1 h' (h.size+1) h.size last Q∧SlB G1 l (rowsB (P.drop j))∧(Q ≠ []→1≤last),P.length,⟨0,[],rfl,y2,x2,cut0,fun h=>absurd rfl h⟩,?_⟩
 rintro _ l m h3 ⟨j,Q,hm,y3,x3,b3,hQ⟩
 have hl3:=b3.slen
 have hdl:(rowsB (P.drop j)).length=44*(P.length-j):=by rw[rowsB_len fun p hp=>(hP.2 p (List.mem_of_mem_drop hp)).2.2,List.length_drop]
 refine IfB.dec (fun hlt=>?_) (fun hge=>?_)
 ·have hj:j<P.length:=by omega
  have pj:=hP.2 _ (List.getElem_mem hj)
  have er:=rowsB_cons hj
  refine(Get32_spec (b3.rd y3.ht)).mono ?_
  rintro _ _ ⟨rfl,hh⟩
  obtain rfl:=hh.symm
  have g32:getR 4 (rowsB (P.drop j))=(P[j].1.toNat,true):=by
   rw[getR_of (by omega),er,List.take_left' (leB_length 4 _),leB_leN_mod 4 _ (by omega)]
  rw[g32]
  have hcap:=b3.2.1
  have c1:=b3.cut (lo:=4) (hi:=44) (m:=l.cap) (by omega) (by omega) (by omega)
  have c2:=b3.cut (lo:=44) (hi:=l.len) (m:=l.cap) (by omega) (Nat.le_refl _) (by omega)
  rw[er,List.drop_left' (leB_length 4 _),List.take_left' (by rw[pj.2.2])]at c1
  have ed:((rowsB (P.drop j)).drop 44).take (l.len-44)=rowsB (P.drop (j+1)):=by
   rw[List.take_of_length_le (by rw[List.length_drop];omega),er,← List.append_assoc,List.drop_left' (by rw[List.length_append,leB_length,pj.2.2])]
  rw[ed]at c2
  have ec2:iConv .i64 (P[j].1.toNat:Int)=P[j].1:=by rw[iConv64 (by omega)];omega
  obtain⟨dl,dc,hm3,b4,x4⟩:=x3.put y3.ht (c1.br y3.ht) ⟨pj.1,pj.2.1⟩ pj.2.2 (by rw[W1];exact hw _ (List.getElem_mem hj))
  refine⟨_,_,rfl,h3,.refl _,_,rfl,_,x3.row.get rfl,by omega,by omega,by omega,by omega,h.size,dl,dc,rfl,hm3,?_⟩
  have ec3:iConv .i64 ((((P[j].1.toNat,true):Nat × Bool).1:Nat):Int)=P[j].1:=ec2
  rw[ec3]
  exact⟨by omega,by omega,by omega,by omega,m-1,by omega,j+1,_,by omega,b4.new y3 (Nat.le_refl _),x4,c2,fun _=>hne fun e=>by rw[e]at hj;simp at hj⟩
 ·exact⟨_,_,last,Q,G1,rfl,y3,W1,x3,hla,hQ,fun e=>by have:=congrArg List.length e;rw[hlen]at this;simp at this⟩
theorem stPuts_spec(t:HT G h)(x:StateIn G h b mp last P):HC Tryz.prog 77 #[pv b] h fun r h'=>∃ s:Sl,r=.slice s.base s.len s.cap∧To (fun _=>False) G h G h'∧PutsR (Stab G h') h' s P:=by
 apply wc77
 unfold vc77
 obtain⟨dl,dc,em,w,d⟩:=x.map
 have r:=x.row
 have hlen:=d.len w x.ok
 have hl16:=x.ok.le258
 refine⟨_,rfl,_,r.get rfl,?_⟩
 refine sortedD em w (d.i64 x.ok) (by omega) fun s ks h1 o1 p m n q e1=>?_
 obtain rfl:ks=P.map (·.1):=x.ok.sorted p fun k=>by rw[m,d.keys]
 have hks:s.len=P.length:=by rw[q];simp
 have t1:=t.ext e1
 refine⟨fun out i m h'=>∃ (j:Nat) (L:List ((Int × Sl) × List UInt8)),i=j∧m+j=P.length∧To (fun _=>False) G h1 G h'∧OwnN h1.size 2 G h' out (c2 (L.map (·.1)))∧(∀ x∈L,BR G h x.1.2 x.2)∧L.map (fun x=>(x.1.1,x.2))=P.take j,
  P.length,⟨0,[],rfl,rfl,.refl t1,OwnN.nil _ _ _ _,fun x hx=>by simp at hx,rfl⟩,?_⟩
 rintro _ out _ m h2 ⟨j,L,rfl,hm,y2,o2,ok2,hL⟩
 have hLl:L.length=j:=by have:=congrArg List.length hL;rw[List.length_map,List.length_take]at this;omega
 have hol:=o2.own.len
 rw[c2_length,List.length_map]at hol
 refine IfB.dec (fun hlt=>?_) (fun hge=>?_)
 ·have hj:j<P.length:=by omega
  have e2:=y2.toExt
  obtain⟨sv,hg,hb⟩:=d.at w x.ok (List.getElem_mem hj)
  refine ix1 (o1.rd.ext e2) (by simpa using hks.symm) j rfl (by simpa using hj) fun a _ hc=>⟨P[j].1,by simpa using hc,_,rfl,_,((r.ext e1).ext e2).get rfl,dl,dc,?_,sv,by rw[hg];rfl,?_⟩
  ·exact(e2.block mp (Nat.lt_of_lt_of_le (blk_lt em) e1.size)).trans ((e1.block mp (blk_lt em)).trans em)
  ·refine OwnN.push (l:=c2 (L.map (·.1))) y2 rfl o2 rfl (by simp[cellOk]) (by omega) (by omega) fun r' h5 y5 o5 l5 _ _=>⟨m-1,by omega,j+1,L ++ [((P[j].1,sv),P[j].2)],by rw[iAdd64 (by omega)];push_cast;rfl,by omega,y5,?_,?_,?_⟩
   ·rw[List.map_append,c2_append];exact o5
   ·intro z hz
    rcases List.mem_append.1 hz with hz | hz
    ·exact ok2 z hz
    ·simp only[List.mem_cons,List.not_mem_nil,or_false]at hz;subst hz;exact hb
   ·rw[List.map_append,hL,List.take_succ_eq_append_getElem hj];rfl
 ·obtain rfl:j=P.length:=by omega
  rw[List.take_length]at hL
  have y3:=(e1.to t).trans y2
  refine⟨out,rfl,y3,L,hL.symm,o2.own.toRd,fun a ha _=>⟨(o2.own.lt ha).2,by rw[o2.any a ha];exact fun h=>h⟩,fun z hz=>(ok2 z hz).to y3⟩
end
theorem Row.getA{h:Hp}{b:Nat}{l:List Value}(r:Row h b l){i j:Nat}{v:Value}(hv:l[i+j]? = some v):hY h (((⟨b,0,none⟩:Addr).add i).add j)=some v:=by rw[add_add];exact r.get hv
structure Two(lo:Nat)(h:Hp)(out beh:Sl)(rows rows2:List (Sl × List UInt8)):Prop where
 o:OwnRows lo h out rows
 b:∃ L,lo≤L∧L≤h.size∧OwnRows L h beh rows2∧(∀ a,out.base=some a→a.block<L)∧∀ p∈rows,∀ a,p.1.base=some a→a.block<L
theorem Two.fresh{lo:Nat}{h:Hp}{out:Sl}{rows:List (Sl × List UInt8)}(o:OwnRows lo h out rows)(hlo:lo≤h.size):Two lo h out Sl.nil rows []:=
 ⟨o,h.size,hlo,Nat.le_refl _,OwnRows.nil _ _,fun a ha=>(o.own.lt ha).2,fun p hp a ha=>(o.base p hp a ha).2.1⟩
theorem Two.eq{lo:Nat}{h h':Hp}{out beh:Sl}{rows rows2:List (Sl × List UInt8)}(x:Two lo h out beh rows rows2)(hs:h.size≤h'.size)(e:∀ b,lo≤b→b<h.size→h'[b]? = h[b]?):Two lo h' out beh rows rows2:=by
 obtain⟨o,L,h1,h2,b,h3,h4⟩:=x
 exact⟨o.eq hs e,L,h1,by omega,b.eq hs fun c hc=>e c (by omega),h3,h4⟩
def gapJ(d:Dv):Nat→Bool
 | 0=>false
 | j+1=>gapJ d j || decide ((d.z (6+j)).rows.length<d.size)
def outJ(d:Dv):Nat→List (List UInt8)
 | 0=>[]
 | j+1=>if gapJ d j then outJ d j else outJ d j++(d.z (6+j)).rows
def behJ(d:Dv):Nat→List (List UInt8)
 | 0=>[]
 | j+1=>if gapJ d j then behJ d j++(d.z (6+j)).rows else behJ d j
def stW(db:Nat)(m s:Option Addr)(pos num:Nat)(off:Bool):List Value:=[dp db,.int .i64 (0:Int),.int .i64 (3:Int),.int .i64 (6:Int),.int .i64 (7:Int),.pointer m,.pointer s,.int .i64 (pos:Int),.int .i64 (num:Int),.bool off]
theorem sLog_spec{F:Nat→Nat}{h:Hp}{sb db:Nat}{d:Dv}{m s:Option Addr}{pos num:Nat}{off:Bool}(x:DevAt 0 F h db d)(hn:d.n=8)(row:Row h sb (stW db m s pos num off))(hF:F sb=0) :
 HC Tryz.prog 70 #[pv sb] h fun r h'=>∃ (out beh:Sl) (rows rows2:List (Sl × List UInt8)) (q:Int),r=.tuple #[.slice out.base out.len out.cap,.slice beh.base beh.len beh.cap]∧Two h.size h' out beh rows rows2∧rows.map (·.2)=outJ d 2∧rows2.map (·.2)=behJ d 2∧DevAt 0 F h' db (withReads d q)∧Chg F h h':=by
 apply wc70
 unfold vc70
 have w:=x.1
 have hsz:=w.size
 refine⟨_,rfl,_,row.get0 rfl,(Geometry_spec x).mono ?_⟩
 rintro _ h1 ⟨rfl,e1⟩
 have s1:=e1.size
 have row1:=row.ext e1
 have c1:Chg F h h1:=e1.chg F
 refine⟨_,_,rfl,_,rfl,_,row1.getA rfl,?_⟩
 refine⟨fun out beh gap z m h'=>∃ (j:Nat) (rows rows2:List (Sl × List UInt8)) (q:Int),z=((6+j:Nat):Int)∧m+j=2∧Two h.size h' out beh rows rows2∧rows.map (·.2)=outJ d j∧rows2.map (·.2)=behJ d j∧gap=gapJ d j∧(gap=false→beh=Sl.nil∧rows2 = [])∧rows.length≤j*192∧rows2.length≤j*192∧DevAt 0 F h' db (withReads d q)∧Chg F h h',2,
  ⟨0,[],[],d.reads,rfl,rfl,(Two.fresh (OwnRows.nil h.size h1) s1),rfl,rfl,rfl,fun _=>⟨rfl,rfl⟩,by simp,by simp,x.ext e1,c1⟩,?_⟩
 rintro _ out beh gap _ m h2 ⟨j,rows,rows2,q,rfl,hm,tw,hr,hr2,hg,hnil,hl,hl2,x2,c2⟩
 have row2:=row.chg c2 hF
 have s2:=c2.size
 refine⟨_,rfl,_,row2.getA rfl,IfB.dec (fun hlt=>?_) (fun hge=>?_)⟩
 ·have hj:j<2:=by omega
  refine⟨_,rfl,_,row2.get0 rfl,(Pointer_spec x2 _).mono ?_⟩
  rintro _ h2' ⟨hh,⟨hno,_⟩ | ⟨k',hk',hkn,rfl⟩⟩
  ·exact absurd ⟨by omega,by show((6+j:Nat):Int)<(d.n:Int);omega⟩ hno
  obtain rfl:=hh.symm
  obtain rfl:k'=6+j:=by omega
  refine⟨_,_,rfl,?_⟩
  have hzr:=(w.zone (6+j)).rows
  have hzn:((withReads d q).z (6+j)).rows.length=(d.z (6+j)).rows.length:=rfl
  refine⟨fun out beh t m h'=>∃ (k:Nat) (rows' rows2':List (Sl × List UInt8)) (q:Int),t=k∧m+k=(d.z (6+j)).rows.length∧Two h.size h' out beh rows' rows2'∧rows'.map (·.2)=(if gap then rows.map (·.2) else rows.map (·.2)++(d.z (6+j)).rows.take k)∧rows2'.map (·.2)=(if gap then rows2.map (·.2)++(d.z (6+j)).rows.take k else rows2.map (·.2))∧(gap=false→beh=Sl.nil∧rows2' = [])∧DevAt 0 F h' db (withReads d q)∧Chg F h h',(d.z (6+j)).rows.length,
   ⟨0,rows,rows2,q,rfl,rfl,tw,by simp,by simp,hnil,x2,c2⟩,?_⟩
  rintro _ out1 beh1 _ m3 h3 ⟨k,rows',rows2',q3,rfl,hm3,tw3,hr3,hr4,hnil3,x3,c3⟩
  have row3:=row.chg c3 hF
  have s3:=c3.size
  have hl3:rows'.length≤rows.length+k:=by
   have:=congrArg List.length hr3
   split at this <;> simp at this <;> omega
  have hl4:rows2'.length≤rows2.length+k:=by
   have:=congrArg List.length hr4
   split at this <;> simp at this <;> omega
  refine IfB.dec (fun hlt2=>?_) (fun hge2=>?_)
  ·have hk:k<(d.z (6+j)).rows.length:=by omega
   refine⟨_,rfl,_,row3.get0 rfl,(Read_spec x3 _ _).mono ?_⟩
   have hrd:(withReads d q3).read ((6+j:Nat):Int) (k:Int)=(((d.z (6+j)).rows.getD k [],0),(withReads d q3).read1):=by
    unfold Dv.read
    rw[if_neg (not_not_intro ⟨by omega,by show _<(d.n:Int);omega⟩),if_neg (not_not_intro ⟨by omega,by show(k:Int)<(((d.z (((6+j:Nat):Int)).toNat).rows.length:Nat):Int);rw[Int.toNat_natCast];omega⟩)]
    rfl
   rw[hrd]
   rintro _ h4 ⟨u,rfl,ou,lu,x4,c4⟩
   have s4:=c4.size
   have F0:∀ b,h.size≤b→b<h3.size→h4[b]? = h3[b]?:=fun b hb1 hb2=>c4.block b hb2 (x.free hb1)
   have tw4:=tw3.eq s4 F0
   have c04:=c3.tr c4
   have hg:(d.z (6+j)).rows.getD k []=(d.z (6+j)).rows[k]:=by simp[hk]
   rw[hg]at ou
   refine⟨u,_,rfl,IfB.intro (fun hgap=>?_) (fun hgap=>?_)⟩
   ·intro h5
    obtain⟨o3,L,hL1,hL2,b3,hL3,hL4⟩:=tw3
    have o4:=o3.eq s4 F0
    have b4:=b3.eq s4 fun c hc=>F0 c (by omega)
    rw[if_pos hgap]at hr3 hr4
    refine OwnRows.pushG rfl b4 (by omega) ou.toRd (fun a ha=>⟨by have:=(ou.lt ha).1;omega,(ou.lt ha).2,fun a' ha'=>by have:=(ou.lt ha).1;have:=(b3.own.lt ha').2;omega⟩) (by omega) (by omega) fun r h6 o6 l6 k6 y6=>?_
    have s6:=k6.size
    refine⟨m3-1,by omega,k+1,rows',rows2' ++ [(u,(d.z (6+j)).rows[k])],_,by rw[iAdd64 (by omega)];push_cast;rfl,by omega,⟨⟨o4.own.eq fun a ha=>k6.block _ (hL3 a ha),fun p hp=>(o4.each p hp).eq fun a ha=>k6.block _ (hL4 p hp a ha),fun p hp a ha=>⟨(o4.base p hp a ha).1,Nat.lt_of_lt_of_le (o4.base p hp a ha).2.1 s6,(o4.base p hp a ha).2.2⟩⟩,L,hL1,by omega,o6,hL3,hL4⟩,?_,?_,?_,x4.keep s6 ?_,?_⟩
    ·rw[if_pos hgap];exact hr3
    ·rw[if_pos hgap,List.map_append,hr4,List.take_succ_eq_append_getElem hk,List.append_assoc];rfl
    ·intro hh;rw[hgap]at hh;cases hh
    ·exact fun b hb=>k6.block b (by have:=(x.dom b hb).2;omega)
    ·exact⟨by omega,fun b hb hFb=>by rw[k6.block b (by omega),c04.block b hb hFb]⟩
   ·intro h5
    obtain⟨n1,n2⟩:=hnil3 hgap
    rw[if_neg (by simp[hgap])]at hr3 hr4
    refine OwnRows.pushG rfl tw4.o (by omega) ou.toRd (fun a ha=>⟨by have:=(ou.lt ha).1;omega,(ou.lt ha).2,fun a' ha'=>by have:=(ou.lt ha).1;have:=(tw3.o.own.lt ha').2;omega⟩) (by omega) (by omega) fun r h6 o6 l6 k6 y6=>?_
    have s6:=k6.size
    subst n1 n2
    refine⟨m3-1,by omega,k+1,rows' ++ [(u,(d.z (6+j)).rows[k])],[],_,by rw[iAdd64 (by omega)];push_cast;rfl,by omega,Two.fresh o6 (by omega),?_,?_,?_,x4.keep s6 ?_,?_⟩
    ·rw[if_neg (by simp[hgap]),List.map_append,hr3,List.take_succ_eq_append_getElem hk,List.append_assoc];rfl
    ·rw[if_neg (by simp[hgap])];exact hr4
    ·exact fun _=>⟨rfl,rfl⟩
    ·exact fun b hb=>k6.block b (by have:=(x.dom b hb).2;omega)
    ·exact⟨by omega,fun b hb hFb=>by rw[k6.block b (by omega),c04.block b hb hFb]⟩
  ·obtain rfl:k=(d.z (6+j)).rows.length:=by omega
   rw[List.take_length]at hr3 hr4
   refine IfB.intro (fun hgap=>?_) (fun hgap=>?_)
   ·have hgj:gapJ d j=true:=by rw[← hg];exact hgap
    rw[if_pos hgap]at hr3 hr4
    exact⟨m-1,by omega,j+1,rows',rows2',q3,by rw[iAdd64 (by omega)];push_cast;omega,by omega,tw3,by rw[hr3,hr];simp[outJ,hgj],by rw[hr4,hr2];simp[behJ,hgj],by simp[gapJ,hgj],fun h=>(by cases h),by omega,by omega,x3,c3⟩
   ·have hgj:gapJ d j=false:=by rw[← hg];exact hgap
    rw[if_neg (by simp[hgap])]at hr3 hr4
    obtain⟨n1,n2⟩:=hnil3 hgap
    refine⟨m-1,by omega,j+1,rows',rows2',q3,by rw[iAdd64 (by omega)];push_cast;omega,by omega,tw3,by rw[hr3,hr];simp[outJ,hgj],by rw[hr4,hr2];simp[behJ,hgj],?_,fun _=>⟨n1,n2⟩,by omega,by omega,x3,c3⟩
    simp only[gapJ,hgj,Bool.false_or,decide_eq_decide]
    show((d.z (6+j)).rows.length:Int)<(d.size:Int)↔_
    omega
 ·obtain rfl:j=2:=by omega
  exact⟨out,beh,rows,rows2,q,rfl,tw,hr,hr2,x2,c2⟩
def WOk(W:Int→List UInt8→Prop):Prop:=∀ a l,W a l→0≤a∧a<258∧l.length=40
def JB(W:Int→List UInt8→Prop)(p:List UInt8):Prop:=p.length=64∧(dK p=1∨dK p=2)∧(goodP p→dK p=1→W (dL p) (dB p))
theorem JB.mono{W W':Int→List UInt8→Prop}{p:List UInt8}(h:JB W p)(hw:∀ a l,W a l→W' a l):JB W' p:=⟨h.1,h.2.1,fun g k=>hw _ _ (h.2.2 g k)⟩
def strangeB(p:List UInt8):Bool:=decide (dK p≠1∧dK p≠2)
theorem strange_spec{h:Hp}{s:Sl}{p:List UInt8}(r:Rd 1 h s (p.map bv))(h0:0<p.length):HC Tryz.prog 72 #[.slice s.base s.len s.cap] h fun r h'=>r=.bool (strangeB p)∧h'=h:=by
 apply wc72
 unfold vc72
 have hl:=r.lenB
 have hg:p[0].toNat=dK p:=by unfold dK;rw[List.getD_eq_getElem?_getD,List.getElem?_eq_getElem h0];rfl
 refine ixB r.rd hl 0 rfl h0 (IfB.ne (fun h1=>ixB r.rd hl 0 rfl h0 ⟨?_,rfl⟩) (fun h1=>⟨?_,rfl⟩))
 ·unfold strangeB
  rw[Value.bool.injEq,Bool.eq_iff_iff,bne_iff_ne,decide_eq_true_eq]
  omega
 ·unfold strangeB;rw[Value.bool.injEq,eq_comm,decide_eq_false_iff_not];omega
theorem IsB.puts{W:Int→List UInt8→Prop}{l:List (List UInt8)}{i nm e:Nat}{T:List TxD}(b:IsB l i nm e T)(hj:∀ p∈l,JB W p):∀ x∈T,∀ p∈x.2,W p.1 p.2:=by
 intro x hx p hp
 have hm:p∈allPuts T:=List.mem_flatMap.2 ⟨x,hx,hp⟩
 obtain⟨g,k,_,_,hl⟩:=encB_put b.check b.hep hm
 have hin:putB e nm p∈l:=by
  have:putB e nm p∈l.take (i+1):=by rw[b.rows];exact List.mem_append_left _ (List.mem_map_of_mem hm)
  exact List.mem_of_mem_take this
 have:=(hj _ hin).2.2 g.2 k
 rw[← hl];exact this
theorem IsB.goods{l:List (List UInt8)}{i nm e:Nat}{T:List TxD}(b:IsB l i nm e T):∀ p∈l.take (i+1),goodB p:=by
 intro p hp
 obtain⟨_,hs,_⟩:=dec_complete b
 have h2:=b.rows
 rw[List.take_succ_eq_append_getElem b.lt]at h2 hp
 rcases List.mem_append.1 hp with hp | hp
 ·have hi:p∈(allPuts T).map (putB e nm):=by
   unfold encB at h2
   have:=(List.append_inj' h2 rfl).1
   rw[← this];exact hp
  obtain⟨q,hq,rfl⟩:=List.mem_map.1 hi
  exact(encB_put b.check b.hep hq).1
 ·simp only[List.mem_cons,List.not_mem_nil,or_false]at hp
  subst hp
  have h3:goodB (rwL l i):=hs.1
  simpa [rwL,b.lt] using h3
structure RowsS(G:Gh)(h:Hp)(s:Sl)(rows:List (Sl × List UInt8)):Prop where
 rd:Rd 1 h s (rows.map fun p=>slV p.1)
 each:∀ p∈rows,Rd 1 h p.1 (p.2.map bv)
 sb:∀ a,s.base=some a→Stab G h a.block
 eb:∀ p∈rows,∀ a,p.1.base=some a→Stab G h a.block
theorem RowsS.to{S:Kd→Prop}{G G':Gh}{h h':Hp}{s:Sl}{rows:List (Sl × List UInt8)}(x:RowsS G h s rows)(y:To S G h G' h'):RowsS G' h' s rows:=
 ⟨x.rd.eq fun a ha=>(y.stab (x.sb a ha)).1,fun p hp=>(x.each p hp).eq fun a ha=>(y.stab (x.eb p hp a ha)).1,fun a ha=>(y.stab (x.sb a ha)).2,fun p hp a ha=>(y.stab (x.eb p hp a ha)).2⟩
theorem RowsS.cut{G:Gh}{h:Hp}{s:Sl}{rows:List (Sl × List UInt8)}(x:RowsS G h s rows){k:Nat}(hk:k≤s.len):RowsR h (cutSl s (k:Int) (s.len:Int) (s.cap:Int) 1) (rows.drop k):=by
 have hl:rows.length=s.len:=by have:=x.rd.len;simpa using this
 have:=x.rd.cut (lo:=k) (hi:=s.len) (m:=s.cap) hk (Nat.le_refl _) x.rd.cap
 rw[Nat.mul_one,Nat.mul_one,List.take_of_length_le (by simp;omega),← List.map_drop]at this
 exact⟨this.rd,by have:=this.len;simp at this ⊢;omega,fun p hp=>x.each p (List.mem_of_mem_drop hp)⟩
theorem kset{G:Gh}{h:Hp}{b:Nat}{l:List Value}{k:Kd}(t:HT G h)(hk:G.k b=k)(hn:¬ Told k)(r:Row h b l){i:Nat}(hi:i<l.length)(v:Value) :
 StOk h ((⟨b,0,none⟩:Addr).add i)∧ToB b G h G (hset h ((⟨b,0,none⟩:Addr).add i) v)∧Row (hset h ((⟨b,0,none⟩:Addr).add i) v) b (l.set i v):=by
 obtain⟨ok,r',o,s⟩:=r.set hi v
 exact⟨ok,t.toB (by rw[hk];exact hn) (by omega) fun c _ hc=>o c hc,r'⟩
def sMnt:Kd→Prop
 | .one n=>n=2∨n=21∨n=22
 | _=>False
theorem sMnt_st:∀ k,sMnt k→sSt k
 | .one _,h=>by simp only[sMnt]at h;simp only[sSt];omega
section
variable{G:Gh}{h:Hp}{sb db lb b mp:Nat}{m:Option Addr}{S:SlV}{tx:List UInt8}{ts:Sl}{last:Int}{P:List PutD}{l:Sl}{rows:List (Sl × List UInt8)}
theorem sReplay_spec(t:HT G h)(hW:WOk G.W)(kd:G.k sb=.one 2)(row:Row h sb (stW db m (some ⟨lb,0,none⟩) 0 0 false))(kl:G.k lb=.one 8)(sl:Row h lb (slC db S ts))(rt:Rd 1 h ts (tx.map bv))(htx:tx.length≤1000000)
 (x:StateIn G h b mp last P) (hla:0≤last∧last≤1099511627776) (hne:P ≠ []→1≤last) (rs:RowsS G h l rows) (hmax:rows.length≤1000) (hj:∀ p∈rows,JB G.W p.2) :
 HC Tryz.prog 73 #[pv sb,pv b,.slice l.base l.len l.cap] h fun r h'=>∃ (torn:Bool) (pos num:Nat) (last':Int) (P':List PutD),r=.bool torn∧To sMnt G h G h'∧Row h' sb (stW db m (some ⟨lb,0,none⟩) pos num false)∧StateIn G h' b mp last' P'∧(0≤last'∧last'≤1099511627776)∧(P' ≠ []→1≤last')∧pos≤rows.length∧num≤pos∧(torn=false→pos=rows.length∧∀ p∈rows,goodB p.2)∧(rows = []→torn=false∧num=0∧P'=P∧last'=last):=by
 apply wc73
 unfold vc73
 refine⟨_,rfl,_,row.get rfl,(Load_spec sl rt htx).mono ?_⟩
 rintro _ h1 ⟨u,rfl,ou,lu,e1⟩
 have hll:rows.length=l.len:=by have:=rs.rd.len;simpa using this
 refine⟨u,_,rfl,?_⟩
 refine⟨fun torn m' h'=>∃ (pos num:Nat) (last':Int) (P':List PutD),torn=false∧m'+pos=rows.length∧To sMnt G h G h'∧Row h' sb (stW db m (some ⟨lb,0,none⟩) pos num false)∧StateIn G h' b mp last' P'∧(0≤last'∧last'≤1099511627776)∧(P' ≠ []→1≤last')∧num≤pos∧(∀ p∈rows.take pos,goodB p.2)∧(rows = []→num=0∧P'=P∧last'=last),rows.length,
  ⟨0,0,last,P,rfl,rfl,e1.to t,row.ext e1,x.to (e1.to t (S:=fun _=>False)) id id,hla,hne,Nat.le_refl _,fun p hp=>by simp at hp,fun _=>⟨rfl,rfl,rfl⟩⟩,?_⟩
 rintro _ _ m2 h2 ⟨pos,num,last2,P2,rfl,hm2,y2,row2,x2,hla2,hne2,hnp,hgood,hemp⟩
 refine⟨_,rfl,_,row2.get rfl,IfB.dec (fun hlt=>?_) (fun hge=>?_)⟩
 ·have hpos:pos<rows.length:=by omega
  have rs2:=rs.to y2
  have stop:∀ {h':Hp},Ext h2 h' →∃ (torn:Bool) (pos num:Nat) (last':Int) (P':List PutD),Value.bool true=.bool torn∧To sMnt G h G h'∧Row h' sb (stW db m (some ⟨lb,0,none⟩) pos num false)∧StateIn G h' b mp last' P'∧(0≤last'∧last'≤1099511627776)∧(P' ≠ []→1≤last')∧pos≤rows.length∧num≤pos∧(torn=false→pos=rows.length∧∀ p∈rows,goodB p.2)∧(rows = []→torn=false∧num=0∧P'=P∧last'=last):=fun e=>
   ⟨true,pos,num,last2,P2,rfl,y2.ext e,row2.ext e,x2.to (e.to y2.ht (S:=fun _=>False)) id id,hla2,hne2,by omega,hnp,fun h=>(by cases h),fun h=>(by rw[h]at hpos;simp at hpos)⟩
  refine⟨_,rfl,_,row2.get rfl,by omega,by omega,by have:=rs.rd.cap;omega,by omega,(BDecode_spec (rs2.cut (k:=pos) (by omega)) (by simp;omega)).mono ?_⟩
  rintro _ h3 ⟨e3,bn,bt,ep,n,err,rfl,hc⟩
  have s3:=e3.size
  refine⟨_,_,_,_,_,rfl,?_⟩
  intro h4
  have e4:Ext h3 h4:=alc_ext _ _ _
  have s4:h4.size=h3.size+1:=size_alc _ _ _
  have r4:Row h4 h3.size [.int .i64 (0:Int),.slice Sl.nil.base Sl.nil.len Sl.nil.cap]:=Row.alc _ _ _
  refine r4.put (vs:=[.int .i64 bn,.slice bt.base bt.len bt.cap]) rfl (by simp[cellOk]) fun h5 r5 s5 o5=>?_
  have e35:Ext h3 h5:=⟨by omega,fun b hb=>by rw[o5 b (by omega),e4.block b hb]⟩
  have e25:=e3.trans e35
  rcases hc with ⟨_,rfl,_⟩ | ⟨_,_,rfl,_⟩ | ⟨i,nm,e,T,isb,rfl,rfl,rfl,rfl,tx2⟩
  ·exact .yes rfl (stop e25)
  ·exact .yes rfl (stop e25)
  refine .no rfl (IfB.ne (fun _=>stop e25) fun hep=>⟨_,r5.get0 rfl,_,rfl,_,(row2.ext e25).get rfl,IfB.ne (fun _=>stop e25) fun hnum=>⟨bt,r5.get rfl,?_⟩⟩)
  have hT:=isb.check.len
  have hlt2:=isb.lt
  simp only[List.length_map,List.length_drop]at hlt2
  have t2:=y2.ht
  have st2:∀ c,h2.size≤c∧c<h3.size→Stab G h5 c:=fun c hc=>⟨by omega,by rw[t2.fresh hc.1];exact fun h=>h⟩
  have tx5:TxsR (Stab G h5) h5 bt T:=(tx2.ext e35).mono st2
  have hwT:=isb.puts (W:=G.W) fun p hp=>by
   obtain⟨z,hz,rfl⟩:=List.mem_map.1 hp
   exact hj z (List.mem_of_mem_drop hz)
  have tmj:∀ j (hjT:j<T.length),1≤T[j].1∧T[j].1≤1099511627776:=fun j hjT=>by
   rw[tm_get hjT]
   have:=prev_le isb.check.order hjT
   have:=(isb.check.order j hjT).2.1
   omega
  have row5:=row2.ext e25
  have y5:To sMnt G h G h5:=y2.ext e25
  have x5:=x2.to (e25.to t2 (S:=fun _=>False)) id id
  refine tx5.ix 0 rfl (by omega) fun a d c0 c1 _=>⟨_,c0,_,rfl,_,x5.row.get0 rfl,IfB.dec (fun _=>stop e25) fun _=>⟨bt,r5.get rfl,?_⟩⟩
  refine⟨fun i m' h'=>∃ (j:Nat) (lastj:Int) (Pj:List PutD),i=j∧m'+j=T.length∧To sMnt G h5 G h'∧Row h' sb (stW db m (some ⟨lb,0,none⟩) pos num false)∧StateIn G h' b mp lastj Pj∧(0≤lastj∧lastj≤1099511627776)∧(Pj ≠ []→1≤lastj),T.length,
   ⟨0,last2,P2,rfl,rfl,.refl y5.ht,row5,x5,hla2,hne2⟩,?_⟩
  rintro _ _ m6 h6 ⟨j,lastj,Pj,rfl,hm6,y6,row6,x6,hlaj,hnej⟩
  have htl:=tx5.len
  have s6:=y6.size
  refine IfB.dec (fun hltj=>?_) (fun hgej=>?_)
  ·have hjT:j<T.length:=by omega
   have tx6:=tx5.to y6
   refine tx6.ix j rfl hjT fun a d c0 c1 pd=>⟨_,d,c0,c1,?_⟩
   intro h7
   have e7:Ext h6 h7:=alc_ext _ _ _
   have s7:h7.size=h6.size+1:=size_alc _ _ _
   have r7:Row h7 h6.size [.int .i64 (0:Int),.slice Sl.nil.base Sl.nil.len Sl.nil.cap]:=Row.alc _ _ _
   refine r7.put (vs:=[.int .i64 T[j].1,.slice d.base d.len d.cap]) rfl (by simp[cellOk]) fun h8 r8 s8 o8=>⟨d,r8.get rfl,?_⟩
   have e68:Ext h6 h8:=⟨by omega,fun b hb=>by rw[o8 b (by omega),e7.block b hb]⟩
   have y68:To (fun _=>False) G h6 G h8:=e68.to y6.ht
   have pd8:=pd.to y68
   have hpl:=pd.len
   have h16:T[j].2.length≤16:=by rw[pt_get hjT];exact(isb.check.each j hjT).2.1
   have k8:G.k h6.size=.any:=y6.ht.fresh (Nat.le_refl _)
   refine⟨fun i m' h'=>∃ (k:Nat) (Pk:List PutD),i=k∧m'+k=T[j].2.length∧To sMnt G h8 G h'∧Row h' sb (stW db m (some ⟨lb,0,none⟩) pos num false)∧StateIn G h' b mp lastj Pk,T[j].2.length,
    ⟨0,Pj,rfl,rfl,.refl y68.ht,row6.ext e68,x6.to y68 id id⟩,?_⟩
   rintro _ _ m9 h9 ⟨k,Pk,rfl,hm9,y9,row9,x9⟩
   have s9:=y9.size
   refine IfB.dec (fun hltk=>?_) (fun hgek=>?_)
   ·have hk:k<T[j].2.length:=by omega
    have hwp:=hwT T[j] (List.getElem_mem hjT) _ (List.getElem_mem hk)
    have hwo:=hW _ _ hwp
    refine(pd8.to y9).ix k rfl hk fun a d2 c0 c1 rd bd=>⟨_,d2,c0,c1,?_⟩
    intro h10
    have e10:Ext h9 h10:=alc_ext _ _ _
    have s10:h10.size=h9.size+1:=size_alc _ _ _
    have r10:Row h10 h9.size [.int .i64 (0:Int),.slice Sl.nil.base Sl.nil.len Sl.nil.cap]:=Row.alc _ _ _
    refine r10.put (vs:=[.int .i64 T[j].2[k].1,.slice d2.base d2.len d2.cap]) rfl (by simp[cellOk]) fun h11 r11 s11 o11=>?_
    have e911:Ext h9 h11:=⟨by omega,fun b hb=>by rw[o11 b (by omega),e10.block b hb]⟩
    have y911:To (fun _=>False) G h9 G h11:=e911.to y9.ht
    have x11:=x9.to y911 id id
    have br:BR G h11 d2 T[j].2[k].2:=BR.to (h:=h9) ⟨rd,bd⟩ y911
    obtain⟨dl,dc,hmp,b12,x12⟩:=x11.put y911.ht br ⟨hwo.1,hwo.2.1⟩ hwo.2.2 hwp
    have y12:To sMnt G h11 G _:=b12.to (by rw[x11.km];exact⟨trivial,.inr (.inr rfl)⟩)
    refine⟨h11,.refl _,_,rfl,_,x11.row.get rfl,_,r11.get0 rfl,d2,r11.get rfl,mp,dl,dc,rfl,hmp,m9-1,by omega,k+1,_,by rw[iAdd64 (by omega)];push_cast;rfl,by omega,(y9.ext e911).trans y12,?_,x12⟩
    exact(row9.ext e911).eq (b12.fr _ (row9.ext e911).lt fun e=>by have:=x11.km;rw[← e,kd]at this;cases this)
   ·have r9:Row h9 h6.size [.int .i64 T[j].1,.slice d.base d.len d.cap]:=r8.eq (y9.fr _ r8.lt (by rw[k8];exact fun h=>h.1))
    obtain⟨ok,b13,x13⟩:=x9.time y9.ht T[j].1
    have y13:To sMnt G h9 G _:=b13.to (by rw[x9.kb];exact⟨trivial,.inr (.inl rfl)⟩)
    refine⟨_,r9.get0 rfl,_,rfl,ok,m6-1,by omega,j+1,T[j].1,Pk,by rw[iAdd64 (by omega)];push_cast;rfl,by omega,(y6.ext e68).trans (y9.trans y13),?_,x13,?_,fun _=>(tmj j hjT).1⟩
    ·exact row9.eq (b13.fr _ row9.lt fun e=>by have:=x9.kb;rw[← e,kd]at this;cases this)
    ·have:=tmj j hjT;omega
  ·have y06:=y5.trans y6
   obtain⟨ok7,b7,row7⟩:=kset y6.ht kd (fun h=>h) row6 (i:=7) (by simp[stW]) (.int .i64 ((pos+(i+1):Nat):Int))
   have ea:iAdd .i64 (pos:Int) ((i+1:Nat):Int)=((pos+(i+1):Nat):Int):=by rw[iAdd64 (by omega)];push_cast;rfl
   have row7:Row (hset h6 ((⟨sb,0,none⟩:Addr).add 7) (.int .i64 ((pos+(i+1):Nat):Int))) sb (stW db m (some ⟨lb,0,none⟩) (pos+(i+1)) num false):=row7
   refine⟨_,rfl,_,row6.get rfl,_,rfl,ok7,?_⟩
   rw[ea]
   obtain⟨ok8,b8,row8⟩:=kset b7.ht kd (fun h=>h) row7 (i:=8) (by simp[stW]) (.int .i64 ((num+1:Nat):Int))
   have eb:iAdd .i64 (num:Int) (1:Int)=((num+1:Nat):Int):=by rw[iAdd64 (by omega)];push_cast;rfl
   refine⟨_,rfl,_,row7.get rfl,_,rfl,ok8,?_⟩
   rw[eb]
   have y7:To sMnt G h6 G _:=b7.to (by rw[kd];exact⟨trivial,.inl rfl⟩)
   have y8:To sMnt G _ G _:=b8.to (by rw[kd];exact⟨trivial,.inl rfl⟩)
   have y78:=b7.trans b8
   have y78':To (fun k=>k=.one 2) G h6 G _:=y78.to (by rw[kd];exact⟨trivial,rfl⟩)
   refine⟨m2-(i+1),by omega,pos+(i+1),num+1,lastj,Pj,rfl,by omega,(y06.trans y7).trans y8,row8,x6.to y78' (by simp) (by simp),hlaj,hnej,by omega,?_,fun h=>by rw[h]at hpos;simp at hpos⟩
   intro p hp
   rw[List.take_add]at hp
   rcases List.mem_append.1 hp with hp | hp
   ·exact hgood p hp
   ·refine isb.goods _ ?_
    rw[← List.map_take]
    exact List.mem_map_of_mem hp
 ·have hp:pos=rows.length:=by omega
  refine⟨false,pos,num,last2,P2,rfl,y2,row2,x2,hla2,hne2,by omega,hnp,fun _=>⟨hp,fun p hp'=>hgood p (by rw[hp,List.take_length];exact hp')⟩,fun h=>⟨rfl,hemp h⟩⟩
end
theorem Stab.dev0{G:Gh}{h:Hp}{b:Nat}(x:Stab G h b):devF G b=0:=by
 refine devK_not fun hd=>x.2 ?_
 cases hk:G.k b <;> rw[hk]at hd <;> first | exact hd.elim | trivial
noncomputable def wV(d:Dv)(pos:Nat)(L:List (List UInt8)):Int × Dv:=
 if (d.puts 6 96 pos L).1≠0 then (12,(d.puts 6 96 pos L).2) else if (d.puts 6 96 pos L).2.flush.1≠0 then (12,(d.puts 6 96 pos L).2.flush.2) else (0,(d.puts 6 96 pos L).2.flush.2)
section
variable{G:Gh}{h:Hp}{M sb:Nat}{X:StD}{db lb mb:Nat}{ts:Sl}{em bk am:Nat}{q:Sl}{tb:Nat→Nat}
theorem StIn.reown{G':Gh}{h':Hp}{pos num:Nat}{off:Bool}(x:StIn G h M sb X db lb mb ts em bk am q tb)(y:To (fun k=>k=.one 2) G h G' h')(hr:Row h' sb (stV db mb lb pos num off)):StIn G' h' M sb { X with pos:=pos,num:=num,off:=off } db lb mb ts em bk am q tb:=by
 obtain⟨s1,s2,s3⟩:=x.sl.to x.kl x.tst y (by simp)
 exact⟨y.kd x.kd (by simp),hr,x.dev.to y (fun k hk e=>by rw[e]at hk;exact hk),s2,s1,s3,x.mgr.to y (Nat.le_refl _) (fun k hk e=>by rw[e]at hk;simp[sMgr]at hk),x.tlo⟩
theorem sWriteB_spec(t:HT G h)(x:StIn G h M sb X db lb mb ts em bk am q tb)(hn:X.dv.n=8)(hs:X.dv.size=96)(hb:X.count≤4294967295)(hnum:X.num≤1000000)(hpos:X.pos≤192)(htx:X.tx.length≤1000000){bn:Int}{s:Sl}{T:List TxD}(tx:TxsR (Stab G h) h s T)(hP:∀ j,(pt T j).length≤1000000) :
 HC Tryz.prog 59 #[pv sb,.agg #[.int .i64 bn,.slice s.base s.len s.cap]] h fun r h'=>∃ (G':Gh) (c:Int) (X':StD),r=.int .i64 c∧To (fun k=>isDev k∨k=.one 2) G h G' h'∧G'.W=G.W∧StIn G' h' M sb X' db lb mb ts em bk am q tb∧
  ((c=9∧X'=X∧¬ (CheckP ((X.num+1:Nat):Int) T∧X.pos+blocksN T≤192)) ∨
   (CheckP ((X.num+1:Nat):Int) T∧X.pos+blocksN T≤192∧c=(wV X.dv X.pos (encB (X.num+1) X.count T)).1∧
    ((c=0∧X' = { X with dv:=(wV X.dv X.pos (encB (X.num+1) X.count T)).2,pos:=X.pos+blocksN T,num:=X.num+1 })∨(c=12∧X' = { X with dv:=(wV X.dv X.pos (encB (X.num+1) X.count T)).2 })))):=by
 apply wc59
 unfold vc59
 intro h1
 have e1:Ext h h1:=alc_ext _ _ _
 have s1:h1.size=h.size+1:=size_alc _ _ _
 have r1:Row h1 h.size [.int .i64 bn,.slice s.base s.len s.cap]:=Row.alc _ _ _
 have x1:=x.pure (e1.to t)
 refine⟨_,rfl,_,x1.row.get rfl,(Load_spec x1.sl.row x1.sl.text htx).mono ?_⟩
 rintro _ h2 ⟨u,rfl,ou,lu,e2⟩
 have s2:=e2.size
 have e12:=e1.trans e2
 have x2:=x.pure (e12.to t)
 obtain⟨ok3,r3,o3,s3⟩:=(r1.ext e2).set0 (by simp) (.int .i64 ((X.num+1:Nat):Int))
 have ea:iAdd .i64 (X.num:Int) (1:Int)=((X.num+1:Nat):Int):=by rw[iAdd64 (by omega)];push_cast;rfl
 refine⟨u,_,rfl,_,rfl,_,x2.row.get rfl,ok3,?_⟩
 rw[ea,show nw h=⟨h.size,0,none⟩ from rfl]
 generalize hset h2 ⟨h.size,0,none⟩ (.int .i64 ((X.num+1:Nat):Int))=h3 at *
 have r3:Row h3 h.size [.int .i64 ((X.num+1:Nat):Int),.slice s.base s.len s.cap]:=r3
 have e03:Ext h h3:=⟨by omega,fun b hb=>by rw[o3 b (by omega),e12.block b hb]⟩
 have x3:=x.pure (e03.to t)
 have t3:=t.ext e03
 have tx3:TxsR (Stab G h3) h3 s T:=tx.to (e03.to t (S:=fun _=>False))
 refine⟨_,s,r3.get0 rfl,r3.get rfl,(BEncode_spec _ _ (tx3.mono fun b hb=>hb.1) hP).mono ?_⟩
 rintro _ h4 ⟨e4,hc⟩
 have s4:=e4.size
 have e04:=e03.trans e4
 have x4:=x.pure (e04.to t)
 have t4:=t.ext e04
 have fin9:∀ {h':Hp},Ext h4 h' →¬ (CheckP ((X.num+1:Nat):Int) T∧X.pos+blocksN T≤192) →∃ (G':Gh) (c:Int) (X':StD),Value.int .i64 (9:Int)=.int .i64 c∧To (fun k=>isDev k∨k=.one 2) G h G' h'∧G'.W=G.W∧StIn G' h' M sb X' db lb mb ts em bk am q tb∧
  ((c=9∧X'=X∧¬ (CheckP ((X.num+1:Nat):Int) T∧X.pos+blocksN T≤192)) ∨
   (CheckP ((X.num+1:Nat):Int) T∧X.pos+blocksN T≤192∧c=(wV X.dv X.pos (encB (X.num+1) X.count T)).1∧
    ((c=0∧X' = { X with dv:=(wV X.dv X.pos (encB (X.num+1) X.count T)).2,pos:=X.pos+blocksN T,num:=X.num+1 })∨(c=12∧X' = { X with dv:=(wV X.dv X.pos (encB (X.num+1) X.count T)).2 })))):=fun e hn=>
  ⟨G,9,X,rfl,(e04.trans e).to t,rfl,x.pure ((e04.trans e).to t),.inl ⟨rfl,rfl,hn⟩⟩
 have geo:∀ {K:Value→Hp→Prop},(∀ h',Ext h4 h'→K (.agg #[.int .i64 (8:Int),.int .i64 (96:Int)]) h')→HC Tryz.prog 66 #[dp db] h4 K:=fun hK=>(Geometry_spec x4.dev).mono fun r h' hh=>by
  obtain⟨rfl,e⟩:=hh
  have eg:(Value.agg #[.int .i64 (X.dv.n:Int),.int .i64 (X.dv.size:Int)])=.agg #[.int .i64 (8:Int),.int .i64 (96:Int)]:=by rw[hn,hs];rfl
  rw[eg]
  exact hK h' e
 rcases hc with ⟨hno,rfl⟩ | ⟨⟨hck,_,_⟩,w,rows,rfl,orr,hrr⟩
 ·refine⟨Sl.nil,_,rfl,_,rfl,_,x4.row.get0 rfl,geo fun h5 e5=>⟨_,_,rfl,.yes rfl (fin9 e5 fun hh=>hno ⟨hh.1,by omega,by show(X.count:Int)≤_;omega⟩)⟩⟩
 refine⟨w,_,rfl,_,rfl,_,x4.row.get0 rfl,geo fun h5 e5=>⟨_,_,rfl,.no rfl ?_⟩⟩
 have s5:=e5.size
 have e05:=e04.trans e5
 have x5:=x.pure (e05.to t)
 have t5:=t.ext e05
 rw[Int.toNat_natCast,Int.toNat_natCast]at hrr
 have hrr:rows.map (·.2)=encB (X.num+1) X.count T:=hrr
 have hrl:rows.length=blocksN T:=by rw[← encB_len (X.num+1) X.count T,← hrr];simp
 have hwl:=orr.len
 have hb33:=hck.blocks
 refine⟨_,rfl,_,x5.row.get rfl,_,rfl,_,x5.row.getA rfl,_,rfl,_,x5.row.getA rfl,?_⟩
 have e192:iMul .i64 (iAdd .i64 (iSub .i64 (7:Int) 6) 1) 96=192:=by decide +kernel
 rw[e192,iAdd64 (by omega)]
 refine IfB.dec (fun hbig=>fin9 e5 fun hh=>by omega) (fun hfit=>?_)
 have rs5:RowsS G h5 w rows:=by
  have o5:=orr.ext e5
  have st:∀ b,h3.size≤b→b<h5.size→Stab G h5 b:=fun b h1 h2=>⟨h2,by rw[t3.fresh h1];exact fun h=>h⟩
  exact⟨o5.own.toRd,o5.each,fun a ha=>st _ (o5.own.lt ha).1 (o5.own.lt ha).2,fun p hp a ha=>st _ (o5.base p hp a ha).1 (o5.base p hp a ha).2.1⟩
 generalize hL:encB (X.num+1) X.count T=L at *
 have hLl:L.length=rows.length:=by rw[← hrr];simp
 refine⟨fun i n h'=>∃ (j:Nat) (G':Gh) (d':Dv),i=j∧n+j=L.length∧To isDev G h5 G' h'∧G'.W=G.W∧DevAt 0 (devF G') h' db d'∧X.dv.puts 6 96 X.pos L=d'.puts 6 96 (X.pos+j) (L.drop j),L.length,
  ⟨0,G,X.dv,rfl,rfl,.refl t5,rfl,x5.dev,rfl⟩,?_⟩
 rintro _ _ n6 h6 ⟨j,G6,d6,rfl,hn6,y6,w6,x6,hp6⟩
 have st6:=x5.dv' y6 (fun _ h=>h) x6
 have s6:=y6.size
 refine IfB.dec (fun hlt=>?_) (fun hge=>?_)
 ·have hj:j<rows.length:=by omega
  have hjL:j<L.length:=by omega
  have rs6:=rs5.to y6
  refine ixS rs6.rd.rd (by have:=rs6.rd.len;simpa using this.symm) j rfl hj ?_
  have rR:Row (filt (kf G6 isDev) h6) sb (stV db mb lb X.pos X.num X.off):=st6.row.filt (kf_yes (by rw[st6.kd];exact fun h=>h))
  have ez:iAdd .i64 (6:Int) (iQuo .i64 (iAdd .i64 (X.pos:Int) (j:Int)) 96)=((6+(X.pos+j) / 96:Nat):Int):=by
   rw[iAdd64 (a:=(X.pos:Int)) (by omega),iQuo64 (by omega),Int.tdiv_eq_ediv_of_nonneg (by omega),iAdd64 (by omega)]
   omega
  refine⟨filt (kf G6 isDev) h6,sub_kf _ _ _,_,rfl,_,rR.get0 rfl,_,rfl,_,rR.getA rfl,_,rfl,_,rR.get rfl,by decide,?_⟩
  rw[ez]
  have hd:L.drop j=L[j]::L.drop (j+1):=List.drop_eq_getElem_cons hjL
  have hLj:L[j]=rows[j].2:=by simp only[← hrr,List.getElem_map]
  rw[hd,Dv.puts]at hp6
  refine(Append_spec x6 (Nat.zero_le _) _ (rs6.each _ (List.getElem_mem hj)) fun a ha=>(rs6.eb _ (List.getElem_mem hj) a ha).dev0).mono ?_
  rintro _ h7 ⟨rfl,t7⟩
  rw[← hLj]at t7 ⊢
  obtain⟨G7,y7,w7,x7⟩:=t7.to y6.ht
  refine⟨_,_,rfl,y7.kf,IfB.ne (fun hne=>?_) (fun heq=>?_)⟩
  ·rw[if_pos hne]at hp6
   have st7:=st6.dv' y7 (fun _ h=>h) x7
   have hw:wV X.dv X.pos L=(12,(d6.append ((6+(X.pos+j) / 96:Nat):Int) L[j]).2):=by unfold wV;rw[hp6,if_pos hne]
   exact⟨G7,12,{ X with dv:=(wV X.dv X.pos L).2 },rfl,(e05.to t).trans ((y6.trans y7).mono fun _ h=>.inl h),w7.trans w6,by rw[hw];exact st7,.inr ⟨hck,by omega,by rw[hw],.inr ⟨rfl,rfl⟩⟩⟩
  ·rw[if_neg (by omega)]at hp6
   exact⟨n6-1,by omega,j+1,G7,_,by rw[iAdd64 (by omega)];push_cast;rfl,by omega,y6.trans y7,w7.trans w6,x7,hp6⟩
 ·have hj:j=L.length:=by omega
  rw[List.drop_of_length_le (by omega),Dv.puts]at hp6
  refine⟨_,rfl,_,st6.row.get0 rfl,(Flush_spec x6).mono ?_⟩
  rintro _ h7 ⟨rfl,t7⟩
  obtain⟨G7,y7,w7,x7⟩:=t7.to y6.ht
  have st7:=st6.dv' y7 (fun _ h=>h) x7
  have y07:To (fun k=>isDev k∨k=.one 2) G h G7 h7:=(e05.to t).trans ((y6.trans y7).mono fun _ h=>.inl h)
  refine⟨_,rfl,IfB.ne (fun hne=>?_) (fun heq=>?_)⟩
  ·have hw:wV X.dv X.pos L=(12,d6.flush.2):=by unfold wV;rw[hp6,if_neg (by simp),if_pos hne]
   exact⟨G7,12,{ X with dv:=(wV X.dv X.pos L).2 },rfl,y07,w7.trans w6,by rw[hw];exact st7,.inr ⟨hck,by omega,by rw[hw],.inr ⟨rfl,rfl⟩⟩⟩
  ·have hw:wV X.dv X.pos L=(0,d6.flush.2):=by unfold wV;rw[hp6,if_neg (by simp),if_neg (by simpa using heq)]
   obtain⟨ok8,b8,row8⟩:=kset y7.ht st7.kd (fun h=>h) st7.row (i:=7) (by simp[stV]) (.int .i64 ((X.pos+blocksN T:Nat):Int))
   have row8:Row (hset h7 ((⟨sb,0,none⟩:Addr).add 7) (.int .i64 ((X.pos+blocksN T:Nat):Int))) sb (stV db mb lb (X.pos+blocksN T) X.num X.off):=row8
   have e8:iAdd .i64 (X.pos:Int) (w.len:Int)=((X.pos+blocksN T:Nat):Int):=by rw[iAdd64 (by omega)];omega
   refine⟨_,rfl,_,st7.row.get rfl,_,rfl,ok8,?_⟩
   rw[e8]
   obtain⟨ok9,b9,row9⟩:=kset b8.ht st7.kd (fun h=>h) row8 (i:=8) (by simp[stV]) (.int .i64 ((X.num+1:Nat):Int))
   refine⟨_,rfl,_,row8.get rfl,_,rfl,ok9,?_⟩
   rw[ea]
   have b79:=b8.trans b9
   have y9:To (fun k=>k=.one 2) G7 h7 G7 _:=b79.to (by rw[st7.kd];exact⟨trivial,rfl⟩)
   have st9:=(st7.reown y9 (pos:=X.pos+blocksN T) (num:=X.num+1) (off:=X.off) row9)
   exact⟨G7,0,{ X with dv:=(wV X.dv X.pos L).2,pos:=X.pos+blocksN T,num:=X.num+1 },rfl,y07.trans (y9.mono fun _ h=>.inr h),w7.trans w6,by rw[hw];exact st9,.inr ⟨hck,by omega,by rw[hw],.inl ⟨rfl,rfl⟩⟩⟩
end
def codeSt(code:Int):Nat:=if code≠0 then 4 else 3
theorem doneT_self{code:Int}{D:MgrD}{q:Nat}(h1:1≤q)(h2:q≤D.txs.length):(doneT code D q).at_ q=endT (D.at_ q) (codeSt code) code:=by
 have e:∀ t:TxS,(D.set (q-1) t).at_ q=t:=fun t=>by
  have:q=(q-1)+1:=by omega
  rw[this]
  exact MgrD.at_get (List.getElem?_set_self (by omega))
 unfold doneT codeSt
 by_cases h:code≠0
 ·rw[if_pos h,if_pos h];exact e _
 ·have hc:code=0:=by omega
  subst hc
  rw[if_neg h,if_neg h]
  show(MgrD.set D (q-1) (endT (D.at_ q) 3 0)).at_ q=_
  exact e _
theorem doneFold_in{code:Int}:∀ (l:List Nat) (D:MgrD) {p:Nat},l.Nodup→(∀ q∈l,1≤q∧q≤D.txs.length)→p∈l→(l.foldl (doneT code) D).at_ p=endT (D.at_ p) (codeSt code) code
 | [],D,p,_,_,h=>by simp at h
 | q::r,D,p,nd,hq,hp=>by
   have nd':=List.nodup_cons.1 nd
   rw[List.foldl_cons]
   rcases List.mem_cons.1 hp with rfl | hp'
   ·rw[doneFold_at r _ (fun x hx=>(hq x (by simp[hx])).1) (hq p (by simp)).1 nd'.1]
    exact doneT_self (hq p (by simp)).1 (hq p (by simp)).2
   ·rw[doneFold_in r _ nd'.2 (fun x hx=>by rw[(doneT_queue code D q).2.2.2.1];exact hq x (by simp[hx])) hp']
    rw[doneT_at (hq q (by simp)).1 (hq p hp).1 fun e=>nd'.1 (e ▸ hp')]
theorem doneD_len(code:Int)(D:MgrD)(k:Nat):(doneD code D k).txs.length=D.txs.length:=(doneFold code _ D).2.2.2.1
theorem doneD_at{N k:Nat}{code:Int}{D:MgrD}(o:MgrOk N D){p:Nat}(hp:1≤p):(doneD code D k).at_ p=if p∈D.queue.take k then endT (D.at_ p) (codeSt code) code else D.at_ p:=by
 show(doneF code D k).at_ p=_
 unfold doneF
 by_cases h:p∈D.queue.take k
 ·rw[if_pos h]
  exact doneFold_in _ D (o.nodup.sublist (List.take_sublist _ _)) (fun q hq=>o.qok q (List.mem_of_mem_take hq)) h
 ·rw[if_neg h]
  exact doneFold_at _ D (fun q hq=>(o.qok q (List.mem_of_mem_take hq)).1) hp h
theorem doneD_tx{N k:Nat}{code:Int}{D:MgrD}(o:MgrOk N D){j:Nat}{t:TxS}(h:D.txs[j]? = some t):(doneD code D k).txs[j]? = some (if j+1∈D.queue.take k then endT t (codeSt code) code else t):=by
 have hj:=(List.getElem?_eq_some_iff.1 h).1
 have:=doneD_at (k:=k) (code:=code) o (p:=j+1) (by omega)
 rw[MgrD.at_get h]at this
 rw[← this]
 unfold MgrD.at_
 rw[List.getD_eq_getElem?_getD,show j+1-1=j by omega,List.getElem?_eq_getElem (by rw[doneD_len];exact hj)]
 rfl
theorem doneD_last{N k:Nat}{code:Int}{D:MgrD}(o:MgrOk N D)(hk:k≤D.queue.length):(code≠0→(doneD code D k).last=D.last)∧(code=0→1≤k→1≤(doneD code D k).last∧(doneD code D k).last≤1099511627776)∧0≤(doneD code D k).last∧(doneD code D k).last≤1099511627776:=by
 have go:∀ n,n≤D.queue.length→(code≠0→(doneF code D n).last=D.last)∧(code=0→1≤n→1≤(doneF code D n).last∧(doneF code D n).last≤1099511627776)∧0≤(doneF code D n).last∧(doneF code D n).last≤1099511627776:=by
  intro n
  induction n with
  | zero=>intro _;exact⟨fun _=>rfl,fun _ h=>by omega,o.last⟩
  | succ n ih=>
    intro hn
    obtain⟨a,b,c⟩:=ih (by omega)
    have hq:n<D.queue.length:=by omega
    rw[doneF_succ hq,doneT_last]
    have hin:=List.getElem_mem hq
    have hat:(doneF code D n).at_ D.queue[n]=D.at_ D.queue[n]:=by
     refine doneFold_at _ D (fun q hq=>(o.qok q (List.mem_of_mem_take hq)).1) (o.qok _ hin).1 fun hm=>?_
     obtain⟨i,hi,e⟩:=List.mem_iff_getElem.1 hm
     rw[List.length_take]at hi
     rw[List.getElem_take]at e
     have:=(List.getElem_inj o.nodup).1 e
     omega
    have ht:=o.tq _ hin
    by_cases hc:code=0
    ·rw[if_pos hc,hat];exact⟨fun h=>absurd hc h,fun _ _=>ht,by omega,ht.2⟩
    ·rw[if_neg hc];exact⟨a,fun h=>absurd h hc,c⟩
 exact go k hk
theorem MgrOk.done{N k:Nat}{D:MgrD}(o:MgrOk N D)(hk:k≤D.queue.length)(code:Int):MgrOk N (doneD code D k):=by
 have hq:(doneD code D k).queue=D.queue.drop k:=rfl
 have hg:(doneD code D k).given=D.given:=(doneFold code _ D).2.2.2.2.2.1
 have hnot:∀ {p:Nat},p∈D.queue.drop k→p ∉ D.queue.take k:=fun hd ht=>by
  have nd:=o.nodup
  rw[← List.take_append_drop k D.queue]at nd
  exact(List.nodup_append.1 nd).2.2 _ ht _ hd rfl
 refine⟨by rw[doneD_len];exact o.len,fun q hq'=>by rw[doneD_len];exact o.qok q (List.mem_of_mem_drop hq'),o.nodup.sublist (List.drop_sublist _ _),fun j t ht=>?_,rfl,(doneD_last o hk).2.2,by rw[hg];exact o.given,fun q hq'=>?_⟩
 ·have hj:j<D.txs.length:=by rw[← doneD_len code D k];exact(List.getElem?_eq_some_iff.1 ht).1
  have h0:D.txs[j]? = some D.txs[j]:=List.getElem?_eq_getElem hj
  rw[doneD_tx o h0]at ht
  obtain⟨a,b,c⟩:=o.st j _ h0
  rw[hq]
  by_cases hm:j+1∈D.queue.take k
  ·rw[if_pos hm]at ht
   injection ht with ht
   subst ht
   have:codeSt code=3∨codeSt code=4:=by unfold codeSt;split <;> simp
   refine⟨?_,?_,?_⟩
   ·show 1≤codeSt code;omega
   ·show codeSt code≤4;omega
   ·constructor
    ·intro h;exfalso;have h:codeSt code=2:=h;omega
    ·intro h;exact absurd hm (hnot h)
  ·rw[if_neg hm]at ht
   injection ht with ht
   subst ht
   refine⟨a,b,c.trans ⟨fun h=>?_,List.mem_of_mem_drop⟩⟩
   rw[← List.take_append_drop k D.queue]at h
   rcases List.mem_append.1 h with h | h
   ·exact absurd h hm
   ·exact h
 ·have hq2:q∈D.queue.drop k:=hq'
  rw[doneD_at o (o.qok q (List.mem_of_mem_drop hq2)).1,if_neg (hnot hq2)]
  exact o.tq q (List.mem_of_mem_drop hq2)
end Go.Proofs.YtdpdkpfnfllipaaGreatDoor
