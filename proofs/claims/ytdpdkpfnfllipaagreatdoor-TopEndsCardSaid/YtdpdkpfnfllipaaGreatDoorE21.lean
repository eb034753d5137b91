/- A part of the proof, no condition. -/
import Derived.Shelf.LaysM
import Derived.Shelf.Small.Wraps
import Derived.Shelf.Strconv.Itoa3
import Derived.Shelf.Strings.Count
import Derived.Shelf.Strings.Cut
import Derived.Shelf.Strings.OnBuilder
import Derived.Shelf.Strings.Split
import Derived.Test.YtdpdkpfnfllipaaGreatDoorE5
import Derived.Test.YtdpdkpfnfllipaaGreatDoorE7
import Derived.Test.YtdpdkpfnfllipaaGreatDoorE13
import Derived.Test.YtdpdkpfnfllipaaGreatDoorE20
set_option linter.unusedVariables false
set_option linter.unusedSimpArgs false
namespace Go.Proofs.YtdpdkpfnfllipaaGreatDoor
theorem ext00{S:Kd→Prop}{h h':Hp}{G':Gh}(y:To S G00 h G' h'):Ext h h':=⟨y.size,fun b hb=>y.fr b hb fun q=>q.1⟩
theorem StepsR.ghost{h:Hp}{s:Sl}{T:List StepD}(p:StepsR (· < h.size) h s T):StepsR (Stab G00 h) h s T:=p.mono fun b hb=>⟨hb,id⟩
def openN(X:StD)(k:Nat):Nat:=((List.range k).filter fun j=>(X.D.at_ (j+1)).state == 1).length
theorem openN_succ(X:StD)(k:Nat):openN X (k+1)=openN X k+if (X.D.at_ (k+1)).state=1 then 1 else 0:=by
 unfold openN
 rw[List.range_succ,List.filter_append,List.length_append]
 by_cases h:(X.D.at_ (k+1)).state=1
 ·simp[h]
 ·simp[h]
theorem StepsR.ops{B:Nat→Prop}{h:Hp}{s:Sl}{T:List StepD}(sm:SmallT T){k:Nat}(hk:k<T.length){u:Sl}(p:OpsR0 B h u T[k].O):OpsR B h u T[k].O∧T[k].O.length≤1000000:=by
 obtain⟨q1,q2⟩:=sm.2 _ (List.getElem_mem hk)
 exact⟨p.full q2,by omega⟩
theorem TopEnds_law{V:Hp→Prop}(hV:∀ h h',V h→Ext h h'→V h')(aw:∀ h,V h→HC Tryz.prog 6 #[] h fun r h'=>r=.bool true∧Ext h h'){h:Hp}(v:V h){s:Sl}{T:List StepD}(p:StepsR (· < h.size) h s T)(hT:StepsM T) :
 HC Tryz.prog 4 #[.slice s.base s.len s.cap] h fun r h'=>r=.bool true∧Ext h h':=by
 apply wc4
 unfold vc4
 refine(small_spec p hT).mono ?_
 rintro _ h1 ⟨e1,c,rfl,hc⟩
 refine⟨_,rfl,IfB.not (IfB.intro (fun hct=>?_) fun hcf=>?_)⟩
 rotate_left
 ·refine(aw h1 (hV _ _ v e1)).mono ?_
  rintro _ h2 ⟨rfl,e2⟩
  exact⟨_,rfl,rfl,e1.trans e2⟩
 have sm:=hc hct
 have p1:StepsR (· < h1.size) h1 s T:=(p.eq fun b hb=>e1.block b hb).mono fun b hb=>Nat.lt_of_lt_of_le hb e1.size
 refine topBegin_spec.mono ?_
 rintro _ h2 ⟨sc,G2,X2,db2,sb2,rfl,y2,w2,x2,o2,l2,_⟩
 refine⟨_,_,rfl,.no rfl ?_⟩
 have hl:=p.len
 have hs:=sm.1
 have y2':To (fun _=>True) G00 h1 G2 h2:=y2.mono fun _ _=>trivial
 refine⟨fun i n h'=>∃ (k:Nat) (G':Gh),i=k∧n+k=T.length∧To (fun _=>True) G00 h1 G' h'∧RunAt G' h' (258+128*k) (193+2*k) sc 0,T.length,⟨0,G2,rfl,rfl,y2',X2,_,[],0,db2,sb2,_,_,x2,o2,l2⟩,?_⟩
 rintro _ _ n3 h3 ⟨k,G3,rfl,hn3,y3,r3⟩
 refine IfB.dec (fun hlt=>?_) fun hge=>?_
 ·have hk:k<T.length:=by omega
  refine(p1.ghost.to y3).ix k rfl hk fun a u c0 c1 c2 c3 c4 c5 ro rp rt=>⟨_,_,_,_,_,_,c0,c1,c2,c3,c4,c5,?_⟩
  obtain⟨ro',lo⟩:=StepsR.ops (s:=s) (h:=h3) sm hk ro
  refine(topOne_spec y3.ht r3 (by omega) (by omega) T[k] (u:=u) ro' lo).mono ?_
  rintro _ h4 ⟨rfl,G4,y4,r4⟩
  exact⟨rfl,n3-1,by omega,k+1,G4,by rw[iAdd64 (by omega)];push_cast;rfl,by omega,y3.trans y4,by rw[show 258+128*(k+1)=258+128*k+128 by omega,show 193+2*(k+1)=193+2*k+2 by omega];exact r4⟩
 obtain rfl:k=T.length:=by omega
 obtain⟨X3,cl3,bg3,ev3,db3,sb3,all3,bb3,x3,o3,l3⟩:=r3
 have hq16:X3.D.queue.length≤16:=by
  obtain⟨_,_,_,_,_,_,_,_,si⟩:=x3.st
  exact si.mgr.q16 o3.sr.mg
 refine⟨fun i n h'=>∃ (j:Nat) (G':Gh) (X:StD) (cl:List CSl) (bg:List BgD) (ev:Int) (db sb:Nat) (all:Sl) (bb:Nat→Nat),i=j∧n+j=16∧To (fun _=>True) G00 h1 G' h'∧SdIn G' h' (258+128*T.length+128*j) (193+2*T.length+2*j) sc X cl bg bg.length ev db sb all bb∧SdOk G'.W (193+2*T.length+2*j) X bg 0∧Live X.dv∧X.D.queue.length+j≤16,16,
  ⟨0,G3,X3,cl3,bg3,ev3,db3,sb3,all3,bb3,rfl,rfl,y3,x3,o3,l3,hq16⟩,?_⟩
 rintro _ _ n4 h4 ⟨j,G4,X4,cl4,bg4,ev4,db4,sb4,all4,bb4,rfl,hn4,y4,x4,o4,l4,hq4⟩
 refine IfB.dec (fun _=>?_) fun hge=>absurd hge (by omega)
 refine(dStore_spec x4).mono ?_
 rintro _ _ ⟨rfl,hh⟩
 obtain rfl:=hh.symm
 have queue:∀ {K:Value→Hp→Prop},K (.int .i64 (X4.D.queue.length:Int)) h4→HC Tryz.prog 17 #[pv sb4] h4 K:=fun hK=>by
  obtain⟨_,_,_,_,_,_,_,_,si⟩:=x4.st
  refine(sQueue_spec si).mono ?_
  rintro _ _ ⟨rfl,rfl⟩
  exact hK
 refine⟨_,rfl,queue ⟨_,rfl,IfB.dec (fun hpos=>?_) fun hz=>?_⟩⟩
 ·refine(topFlush_spec y4.ht x4 o4 l4 (by omega) (by omega)).mono ?_
  rintro _ h5 ⟨G5,c5,X5,ev5,rfl,y5,x5,o5,l5,f5⟩
  refine⟨_,rfl,n4-1,by omega,j+1,G5,X5,cl4,bg4,ev5,db4,sb4,all4,bb4,by rw[iAdd64 (by omega)];push_cast;rfl,by omega,y4.trans (y5.mono fun _ _=>trivial),?_,?_,l5,?_⟩
  ·rw[show 258+128*T.length+128*(j+1)=258+128*T.length+128*j+128 by omega,show 193+2*T.length+2*(j+1)=193+2*T.length+2*j+2 by omega];exact x5
  ·rw[show 193+2*T.length+2*(j+1)=193+2*T.length+2*j+2 by omega];exact o5
  ·rcases f5 with ⟨hq,_⟩ | ⟨c,k,hk1,hk2,hD⟩
   ·rw[hq]at hpos;simp at hpos
   ·have:X5.D.queue.length=X4.D.queue.length-k:=by rw[hD];show(X4.D.queue.drop k).length=_;rw[List.length_drop]
    omega
 have hq0:X4.D.queue = []:=List.eq_nil_of_length_eq_zero (by omega)
 have hbl:bg4.length=X4.D.txs.length:=by have:=o4.len;omega
 have hbN:=o4.bgN
 have htx:∀ (i:Nat) (b:BgD),bg4[i]? = some b→b.h≠0 →∃ (j:Nat) (t:TxS),b.h=j+1∧X4.D.txs[j]? = some t:=fun i b hb h0=>o4.tx hb h0
 refine(dHist_spec y4.ht x4 (by omega) (by omega) htx).mono ?_
 rintro _ h5 ⟨G5,hs5,L,rfl,y5,w5,hr5,hL,hsee⟩
 have x5:=x4.pure y5
 have y05:To (fun _=>True) G00 h1 G5 h5:=y4.trans (y5.mono fun _ _=>trivial)
 have state:∀ k (hk:k<L.length),L[k].st=((X4.D.at_ (k+1)).state:Int)∧1≤(X4.D.at_ (k+1)).state∧(X4.D.at_ (k+1)).state≠2:=fun k hk=>by
  have hkb:k<bg4.length:=by omega
  obtain⟨y,q1,q2,_⟩:=hsee k _ (List.getElem?_eq_getElem hkb)
  rw[List.getElem?_eq_getElem hk]at q1
  injection q1 with q1
  have hh:=o4.hs k _ (List.getElem?_eq_getElem hkb)
  rw[if_neg (by omega),Nat.sub_zero]at hh
  have htk:X4.D.txs[k]? = some (X4.D.txs[k]'(by omega)):=List.getElem?_eq_getElem _
  obtain⟨s1,s2,s3⟩:=o4.sr.mg.st k _ htk
  rw[hq0]at s3
  rw[MgrD.at_get htk]
  refine⟨?_,s1,fun e=>by have:=s3.1 e;simp at this⟩
  rw[q1,q2]
  unfold seeSt
  rw[if_neg (by omega),hh,MgrD.at_get htk]
 have hL5:=hr5.len
 refine⟨_,rfl,fun o i n h'=>h'=h5∧∃ k:Nat,i=k∧n+k=L.length∧o=(openN X4 k:Int)∧openN X4 k≤k,L.length,⟨rfl,0,rfl,rfl,rfl,Nat.le_refl _⟩,?_⟩
 rintro _ _ _ n6 _ ⟨rfl,k,rfl,hn6,rfl,hok⟩
 refine IfB.dec (fun hlt=>?_) fun hge=>?_
 ·have hk:k<L.length:=by omega
  obtain⟨s1,s2,s3⟩:=state k hk
  have hsucc:=openN_succ X4 k
  refine hr5.ix k rfl hk fun a c0 _ _ _=>⟨_,c0,IfB.eq (fun e=>absurd e (by omega)) fun _=>?_⟩
  refine hr5.ix k rfl hk fun a c0 _ _ _=>⟨_,c0,IfB.eq (fun e=>absurd e (by omega)) fun _=>?_⟩
  refine hr5.ix k rfl hk fun a c0 _ _ _=>⟨_,c0,IfB.eq (fun e=>?_) fun e=>?_⟩
  ·rw[if_pos (by omega)]at hsucc
   exact⟨n6-1,by omega,rfl,k+1,by rw[iAdd64 (by omega)];push_cast;rfl,by omega,by rw[iAdd64 (by omega),hsucc];push_cast;rfl,by omega⟩
  ·rw[if_neg (by omega)]at hsucc
   exact⟨n6-1,by omega,rfl,k+1,by rw[iAdd64 (by omega)];push_cast;rfl,by omega,by rw[hsucc];rfl,by omega⟩
 obtain rfl:k=L.length:=by omega
 refine(dStore_spec x5).mono ?_
 rintro _ _ ⟨rfl,hh⟩
 obtain rfl:=hh.symm
 obtain⟨lb,mb,ts,em,bk,am,q,tb,si⟩:=x5.st
 refine⟨_,rfl,(sQueue_spec si).mono ?_⟩
 rintro _ _ ⟨rfl,hh⟩
 obtain rfl:=hh.symm
 refine⟨_,rfl,.yes (by rw[hq0];rfl) ((dStore_spec x5).mono ?_)⟩
 rintro _ _ ⟨rfl,hh⟩
 obtain rfl:=hh.symm
 refine⟨_,rfl,(sOpen_spec y5.ht si (by omega)).mono ?_⟩
 rintro _ h7 ⟨c7,rfl,e7,hc7⟩
 have hcnt:c7=openN X4 L.length:=by
  rw[hc7 (((List.range L.length).filter fun j=>(X4.D.at_ (j+1)).state == 1).map fun j=>((j+1:Nat):Int)) ?_ ?_,List.length_map];rfl
  ·refine List.Pairwise.map (S:=(· ≠ ·)) _ (fun a b (hne:a≠b) e=>hne (by omega)) ((List.nodup_range).filter _)
  ·intro z
   simp only[List.mem_map,List.mem_filter,List.mem_range,beq_iff_eq]
   constructor
   ·rintro⟨j,⟨hj,h1⟩,rfl⟩
    have htj:X4.D.txs[j]? = some (X4.D.txs[j]'(by omega)):=List.getElem?_eq_getElem _
    rw[MgrD.at_get htj]at h1
    exact⟨j,_,htj,.inl h1,rfl⟩
   ·rintro⟨j,t,htj,hlv,rfl⟩
    have hj:=(List.getElem?_eq_some_iff.1 htj).1
    refine⟨j,⟨by omega,?_⟩,rfl⟩
    rw[MgrD.at_get htj]
    rcases hlv with h1 | h2
    ·exact h1
    ·have:=(state j (by omega)).2.2
     rw[MgrD.at_get htj]at this
     exact absurd h2 this
 refine⟨_,rfl,.yes (by rw[hcnt];simp) ((aw h7 (hV _ _ v (e1.trans ((ext00 y05).trans e7)))).mono ?_)⟩
 rintro _ h8 ⟨rfl,e8⟩
 exact⟨_,rfl,rfl,e1.trans ((ext00 y05).trans (e7.trans e8))⟩
section
open Go.RowKit Go.Shelf
section
variable{P:Program}{ρ:Ren}
theorem count_h(L:Lays.n138 P ρ)(ok:okFn P (ρ.f 138)=true)(s:ByteArray)(c:UInt8)(h:Hp) :
 HC P (ρ.f 138) #[.string s,.string ⟨#[c]⟩] h fun r h'=>r=.int .i64 (Lib.countByte s.data.toList c)∧h'=h:=by
 refine⟨ok,fun w hw=>?_⟩
 subst hw
 refine(Any.strings_Count_one L s c w).mono ?_
 rintro e w' ⟨rfl,rfl⟩
 exact⟨_,rfl,Same.refl _,rfl,rfl⟩
theorem cut_h(L:Lays.n145 P ρ)(ok:okFn P (ρ.f 145)=true)(s sep:ByteArray){m:Int}{h:Hp}(hm:hY h ⟨ρ.g 1,0,none⟩=some (.int .i64 m))(hs:s.size<4294967281) :
 HC P (ρ.f 145) #[.string s,.string sep] h fun r h'=>r=.tuple #[.string ⟨(Lib.cut s.data.toList sep.data.toList).1.toArray⟩,.string ⟨(Lib.cut s.data.toList sep.data.toList).2.1.toArray⟩,.bool (Lib.cut s.data.toList sep.data.toList).2.2]∧h'=h:=by
 refine⟨ok,fun w hw=>?_⟩
 refine(Any.strings_Cut L s sep m w hs (by rw[hw_heap w hw];exact hm)).mono ?_
 rintro e w' ⟨rfl,n,rfl⟩
 subst hw
 exact⟨_,rfl,⟨rfl,rfl,rfl⟩,rfl,rfl⟩
theorem cutPrefix_h(L:Lays.n103 P ρ)(ok:okFn P (ρ.f 103)=true)(s p:ByteArray)(h:Hp) :
 HC P (ρ.f 103) #[.string s,.string p] h fun r h'=>r=.tuple #[.string ⟨(Lib.trimPrefix s.data.toList p.data.toList).toArray⟩,.bool (Lib.hasPrefix s.data.toList p.data.toList)]∧h'=h:=by
 refine⟨ok,fun w hw=>?_⟩
 subst hw
 refine(Any.strings_CutPrefix L s p w).mono ?_
 rintro e w' ⟨rfl,rfl⟩
 exact⟨_,rfl,Same.refl _,rfl,rfl⟩
theorem split_h(L:Lays.n146 P ρ)(hi9:(P.info? (ρ.t 9)).map (fun i=>(i.zero,i.size,i.bytes))=some (some (.string ByteArray.empty),1,16))(ok:okFn P (ρ.f 146)=true)(s sep:ByteArray){m:Int}{h:Hp}
 (hm:hY h ⟨ρ.g 1,0,none⟩=some (.int .i64 m)) (hs:s.size<4294967281) (h1:1≤sep.size) :
 HC P (ρ.f 146) #[.string s,.string sep] h fun r h'=>r=.slice (some ⟨h.size,0,none⟩) (Lib.countB s sep+1) (Lib.countB s sep+1)∧h'=alc h ((Lib.splitB sep 0 (Lib.countB s sep) s).map Value.string) (ρ.t 9):=by
 refine⟨ok,fun w hw=>?_⟩
 refine(Any.strings_Split L hi9 s sep m w hs (by rw[hw_heap w hw];exact hm) h1).mono ?_
 rintro e w' ⟨rfl,rfl⟩
 subst hw
 exact⟨_,rfl,⟨rfl,rfl,rfl⟩,rfl,rfl⟩
theorem join_h(L:Lays.n156 P ρ)(X:Builder.Extra P ρ)(ok:okFn P (ρ.f 156)=true)(b o c:Nat)(xs:List ByteArray)(sep:ByteArray){h:Hp}
 (hc:∀ (j:Nat) x,xs[j]? = some x→hY h ⟨b,o+j,none⟩=some (.string x)) (hb:b<h.size) (hN:xs.length≤140737488355328) (hcap:xs.length≤c)
 (hlen:(Lib.join (xs.map (·.data.toList)) sep.data.toList).length≤140737488355328) :
 HC P (ρ.f 156) #[.slice (some ⟨b,o,none⟩) xs.length c,.string sep] h fun r h'=>r=.string ⟨(Lib.join (xs.map (·.data.toList)) sep.data.toList).toArray⟩∧Ext h h':=by
 refine⟨ok,fun w hw=>?_⟩
 subst hw
 refine(Any.strings_Join L X b o c xs sep w (fun j x hx=>(hw_heap w rfl _).trans (hc j x hx)) hb hN hcap hlen).mono ?_
 rintro e w' ⟨rfl,k⟩
 exact⟨_,rfl,below_same k,rfl,⟨k.size,k.block⟩⟩
theorem itoa_h(L:LaysM.n171 P ρ)(ok:okFn P (ρ.f 171)=true)(n:Int)(h0 : -9223372036854775808≤n)(h1:n≤9223372036854775807){h:Hp}{t f:_}
 (ht:h[ρ.g 17]? = some (.cells (Lib.pow10Tab.map fun z=>Value.int .u64 z).toArray t f)) :
 HC P (ρ.f 171) #[.int .i64 n] h fun r h'=>r=.string ⟨(Lib.itoa n).toArray⟩∧Ext h h':=by
 refine⟨ok,fun w hw=>?_⟩
 have tab:Lib.TabIs P w "internal/strconv.uint64pow10" .u64 Lib.pow10Tab:=by
  unfold Lib.TabIs World.var?
  rw[L.m17]
  subst hw
  simp only[Option.bind_some]
  rw[ht]
 refine(Any.strconv_Itoa L n h0 h1 w tab).mono ?_
 rintro e w' ⟨rfl,k,os,rfl⟩
 subst hw
 exact⟨_,rfl,⟨rfl,rfl,rfl⟩,rfl,⟨by show w.heap.size≤(w.heap++os).size;rw[Array.size_append];omega,fun k hk=>Array.getElem?_append_left hk⟩⟩
end
end
section
open Go.RowKit Go.Shelf
def lays138_ren:Go.Shelf.Ren:=⟨fun | 138=>48 | 195=>89 | 218=>90 | 143=>91 | 219=>141 | 217=>191 | 225=>192 | 224=>193 | 267=>194 | 266=>241 | 314=>242 | n=>n,fun | 9=>9 | 3=>3 | 4=>4 | 5=>5 | 0=>0 | 46=>261 | 146=>318 | 51=>199 | n=>n,fun | 1=>0 | n=>n⟩
theorem lays138:Go.Proofs.Lays.n138 Tryz.prog lays138_ren:={
 mixed:=by kernel_rfl
 f138:=Tryz.func48.trans (congrArg some (by kernel_rfl))
 f143:=Tryz.func91.trans (congrArg some (by kernel_rfl))
 f195:=Tryz.func89.trans (congrArg some (by kernel_rfl))
 f217:=Tryz.func191.trans (congrArg some (by kernel_rfl))
 f218:=Tryz.func90.trans (congrArg some (by kernel_rfl))
 f219:=Tryz.func141.trans (congrArg some (by kernel_rfl))
 f224:=Tryz.func193.trans (congrArg some (by kernel_rfl))
 f225:=Tryz.func192.trans (congrArg some (by kernel_rfl))
 f266:=Tryz.func241.trans (congrArg some (by kernel_rfl))
 f267:=Tryz.func194.trans (congrArg some (by kernel_rfl))
 f314:=Tryz.func242.trans (congrArg some (by kernel_rfl))
 t0:=Tryz.underlying0
 a0:=Tryz.isAgg0
 z0:=Tryz.sizeOf0
 v0:=Tryz.zeroValue0
 t3:=Tryz.underlying3
 a3:=Tryz.isAgg3
 z3:=Tryz.sizeOf3
 v3:=Tryz.zeroValue3
 t4:=Tryz.underlying4
 a4:=Tryz.isAgg4
 z4:=Tryz.sizeOf4
 v4:=Tryz.zeroValue4
 t5:=Tryz.underlying5
 a5:=Tryz.isAgg5
 z5:=Tryz.sizeOf5
 v5:=Tryz.zeroValue5
 t9:=Tryz.underlying9
 a9:=Tryz.isAgg9
 z9:=Tryz.sizeOf9
 v9:=Tryz.zeroValue9
 t46:=Tryz.underlying261
 a46:=Tryz.isAgg261
 z46:=Tryz.sizeOf261
 v46:=Tryz.zeroValue261
 t51:=Tryz.underlying199
 a51:=Tryz.isAgg199
 z51:=Tryz.sizeOf199
 v51:=Tryz.zeroValue199
 t146:=Tryz.underlying318
 a146:=Tryz.isAgg318
 z146:=Tryz.sizeOf318
 v146:=Tryz.zeroValue318
 g1:=by kernel_rfl }
def lays145_ren:Go.Shelf.Ren:=⟨fun | 145=>49 | 220=>92 | 219=>141 | 217=>191 | 225=>192 | 224=>193 | 267=>194 | 266=>241 | 314=>242 | n=>n,fun | 9=>9 | 4=>4 | 59=>102 | 3=>3 | 5=>5 | 46=>261 | 146=>318 | 51=>199 | n=>n,fun | 1=>0 | n=>n⟩
theorem lays145:Go.Proofs.Lays.n145 Tryz.prog lays145_ren:={
 mixed:=by kernel_rfl
 f145:=Tryz.func49.trans (congrArg some (by kernel_rfl))
 f217:=Tryz.func191.trans (congrArg some (by kernel_rfl))
 f219:=Tryz.func141.trans (congrArg some (by kernel_rfl))
 f220:=Tryz.func92.trans (congrArg some (by kernel_rfl))
 f224:=Tryz.func193.trans (congrArg some (by kernel_rfl))
 f225:=Tryz.func192.trans (congrArg some (by kernel_rfl))
 f266:=Tryz.func241.trans (congrArg some (by kernel_rfl))
 f267:=Tryz.func194.trans (congrArg some (by kernel_rfl))
 f314:=Tryz.func242.trans (congrArg some (by kernel_rfl))
 t3:=Tryz.underlying3
 a3:=Tryz.isAgg3
 z3:=Tryz.sizeOf3
 v3:=Tryz.zeroValue3
 t4:=Tryz.underlying4
 a4:=Tryz.isAgg4
 z4:=Tryz.sizeOf4
 v4:=Tryz.zeroValue4
 t5:=Tryz.underlying5
 a5:=Tryz.isAgg5
 z5:=Tryz.sizeOf5
 v5:=Tryz.zeroValue5
 t9:=Tryz.underlying9
 a9:=Tryz.isAgg9
 z9:=Tryz.sizeOf9
 v9:=Tryz.zeroValue9
 t46:=Tryz.underlying261
 a46:=Tryz.isAgg261
 z46:=Tryz.sizeOf261
 v46:=Tryz.zeroValue261
 t51:=Tryz.underlying199
 a51:=Tryz.isAgg199
 z51:=Tryz.sizeOf199
 v51:=Tryz.zeroValue199
 t59:=Tryz.underlying102
 a59:=Tryz.isAgg102
 z59:=Tryz.sizeOf102
 v59:=Tryz.zeroValue102
 t146:=Tryz.underlying318
 a146:=Tryz.isAgg318
 z146:=Tryz.sizeOf318
 v146:=Tryz.zeroValue318
 g1:=by kernel_rfl }
def lays146_ren:Go.Shelf.Ren:=⟨fun | 146=>95 | 221=>145 | 268=>203 | 138=>48 | 143=>91 | 195=>89 | 197=>244 | 218=>90 | 219=>141 | 260=>293 | 217=>191 | 225=>192 | 224=>193 | 267=>194 | 266=>241 | 314=>242 | n=>n,fun | 9=>9 | 31=>167 | 3=>3 | 4=>4 | 0=>0 | 105=>322 | 21=>21 | 5=>5 | 46=>261 | 119=>410 | 139=>413 | 138=>412 | 146=>318 | 51=>199 | n=>n,fun | 1=>0 | 3=>4 | 4=>5 | n=>n⟩
theorem lays146:Go.Proofs.Lays.n146 Tryz.prog lays146_ren:={
 mixed:=by kernel_rfl
 f138:=Tryz.func48.trans (congrArg some (by kernel_rfl))
 f143:=Tryz.func91.trans (congrArg some (by kernel_rfl))
 f146:=Tryz.func95.trans (congrArg some (by kernel_rfl))
 f195:=Tryz.func89.trans (congrArg some (by kernel_rfl))
 f197:=Tryz.func244.trans (congrArg some (by kernel_rfl))
 f217:=Tryz.func191.trans (congrArg some (by kernel_rfl))
 f218:=Tryz.func90.trans (congrArg some (by kernel_rfl))
 f219:=Tryz.func141.trans (congrArg some (by kernel_rfl))
 f221:=Tryz.func145.trans (congrArg some (by kernel_rfl))
 f224:=Tryz.func193.trans (congrArg some (by kernel_rfl))
 f225:=Tryz.func192.trans (congrArg some (by kernel_rfl))
 f260:=Tryz.func293.trans (congrArg some (by kernel_rfl))
 f266:=Tryz.func241.trans (congrArg some (by kernel_rfl))
 f267:=Tryz.func194.trans (congrArg some (by kernel_rfl))
 f268:=Tryz.func203.trans (congrArg some (by kernel_rfl))
 f314:=Tryz.func242.trans (congrArg some (by kernel_rfl))
 t0:=Tryz.underlying0
 a0:=Tryz.isAgg0
 z0:=Tryz.sizeOf0
 v0:=Tryz.zeroValue0
 t3:=Tryz.underlying3
 a3:=Tryz.isAgg3
 z3:=Tryz.sizeOf3
 v3:=Tryz.zeroValue3
 t4:=Tryz.underlying4
 a4:=Tryz.isAgg4
 z4:=Tryz.sizeOf4
 v4:=Tryz.zeroValue4
 t5:=Tryz.underlying5
 a5:=Tryz.isAgg5
 z5:=Tryz.sizeOf5
 v5:=Tryz.zeroValue5
 t9:=Tryz.underlying9
 a9:=Tryz.isAgg9
 z9:=Tryz.sizeOf9
 v9:=Tryz.zeroValue9
 t21:=Tryz.underlying21
 a21:=Tryz.isAgg21
 z21:=Tryz.sizeOf21
 v21:=Tryz.zeroValue21
 t31:=Tryz.underlying167
 a31:=Tryz.isAgg167
 z31:=Tryz.sizeOf167
 v31:=Tryz.zeroValue167
 t46:=Tryz.underlying261
 a46:=Tryz.isAgg261
 z46:=Tryz.sizeOf261
 v46:=Tryz.zeroValue261
 t51:=Tryz.underlying199
 a51:=Tryz.isAgg199
 z51:=Tryz.sizeOf199
 v51:=Tryz.zeroValue199
 t105:=Tryz.underlying322
 a105:=Tryz.isAgg322
 z105:=Tryz.sizeOf322
 v105:=Tryz.zeroValue322
 t119:=Tryz.underlying410
 a119:=Tryz.isAgg410
 z119:=Tryz.sizeOf410
 t138:=Tryz.underlying412
 a138:=Tryz.isAgg412
 z138:=Tryz.sizeOf412
 v138:=Tryz.zeroValue412
 t139:=Tryz.underlying413
 a139:=Tryz.isAgg413
 z139:=Tryz.sizeOf413
 v139:=Tryz.zeroValue413
 t146:=Tryz.underlying318
 a146:=Tryz.isAgg318
 z146:=Tryz.sizeOf318
 v146:=Tryz.zeroValue318
 g1:=by kernel_rfl
 g3:=by kernel_rfl
 g4:=by kernel_rfl }
def lays156_ren:Go.Shelf.Ren:=⟨fun | 156=>102 | 165=>154 | 166=>155 | 169=>156 | 240=>214 | 241=>215 | 276=>265 | 277=>266 | n=>n,fun | 31=>167 | 9=>9 | 3=>3 | 4=>4 | 0=>0 | 20=>20 | 72=>251 | 76=>241 | 70=>249 | 37=>44 | 75=>240 | 127=>300 | 164=>344 | 5=>5 | 80=>252 | n=>n,fun | n=>n⟩
theorem lays156:Go.Proofs.Lays.n156 Tryz.prog lays156_ren:={
 mixed:=by kernel_rfl
 f156:=Tryz.func102.trans (congrArg some (by kernel_rfl))
 f165:=Tryz.func154.trans (congrArg some (by kernel_rfl))
 f166:=Tryz.func155.trans (congrArg some (by kernel_rfl))
 f169:=Tryz.func156.trans (congrArg some (by kernel_rfl))
 f240:=Tryz.func214.trans (congrArg some (by kernel_rfl))
 f241:=Tryz.func215.trans (congrArg some (by kernel_rfl))
 f276:=Tryz.func265.trans (congrArg some (by kernel_rfl))
 f277:=Tryz.func266.trans (congrArg some (by kernel_rfl))
 t0:=Tryz.underlying0
 a0:=Tryz.isAgg0
 z0:=Tryz.sizeOf0
 v0:=Tryz.zeroValue0
 t3:=Tryz.underlying3
 a3:=Tryz.isAgg3
 z3:=Tryz.sizeOf3
 v3:=Tryz.zeroValue3
 t4:=Tryz.underlying4
 a4:=Tryz.isAgg4
 z4:=Tryz.sizeOf4
 v4:=Tryz.zeroValue4
 t9:=Tryz.underlying9
 a9:=Tryz.isAgg9
 z9:=Tryz.sizeOf9
 v9:=Tryz.zeroValue9
 t20:=Tryz.underlying20
 a20:=Tryz.isAgg20
 z20:=Tryz.sizeOf20
 v20:=Tryz.zeroValue20
 t31:=Tryz.underlying167
 a31:=Tryz.isAgg167
 z31:=Tryz.sizeOf167
 v31:=Tryz.zeroValue167
 t37:=Tryz.underlying44
 a37:=Tryz.isAgg44
 z37:=Tryz.sizeOf44
 v37:=Tryz.zeroValue44
 t70:=Tryz.underlying249
 a70:=Tryz.isAgg249
 z70:=Tryz.sizeOf249
 v70:=Tryz.zeroValue249
 t72:=Tryz.underlying251
 a72:=Tryz.isAgg251
 z72:=Tryz.sizeOf251
 v72:=Tryz.zeroValue251
 t75:=Tryz.underlying240
 a75:=Tryz.isAgg240
 z75:=Tryz.sizeOf240
 v75:=Tryz.zeroValue240
 t76:=Tryz.underlying241
 a76:=Tryz.isAgg241
 z76:=Tryz.sizeOf241
 v76:=Tryz.zeroValue241
 t127:=Tryz.underlying300
 a127:=Tryz.isAgg300
 z127:=Tryz.sizeOf300
 v127:=Tryz.zeroValue300
 t164:=Tryz.underlying344
 a164:=Tryz.isAgg344
 z164:=Tryz.sizeOf344
 v164:=Tryz.zeroValue344 }
def lays103_ren:Go.Shelf.Ren:=⟨fun | 103=>93 | 210=>142 | 206=>195 | n=>n,fun | 9=>9 | 4=>4 | 24=>165 | 3=>3 | n=>n,fun | n=>n⟩
theorem lays103:Go.Proofs.Lays.n103 Tryz.prog lays103_ren:={
 mixed:=by kernel_rfl
 f103:=Tryz.func93.trans (congrArg some (by kernel_rfl))
 f206:=Tryz.func195.trans (congrArg some (by kernel_rfl))
 f210:=Tryz.func142.trans (congrArg some (by kernel_rfl))
 t3:=Tryz.underlying3
 a3:=Tryz.isAgg3
 z3:=Tryz.sizeOf3
 v3:=Tryz.zeroValue3
 t4:=Tryz.underlying4
 a4:=Tryz.isAgg4
 z4:=Tryz.sizeOf4
 v4:=Tryz.zeroValue4
 t9:=Tryz.underlying9
 a9:=Tryz.isAgg9
 z9:=Tryz.sizeOf9
 v9:=Tryz.zeroValue9
 t24:=Tryz.underlying165
 a24:=Tryz.isAgg165
 z24:=Tryz.sizeOf165
 v24:=Tryz.zeroValue165 }
def laysM171_ren:Go.Shelf.Ren:=⟨fun | 171=>147 | 243=>206 | 246=>250 | 283=>297 | 284=>298 | 285=>299 | 286=>300 | 129=>281 | 317=>339 | 318=>340 | 319=>341 | 320=>342 | 337=>370 | 338=>371 | n=>n,fun | 3=>3 | 9=>9 | 2=>2 | 4=>4 | 171=>370 | 0=>0 | 53=>196 | 37=>44 | 5=>5 | 173=>372 | 212=>419 | 51=>199 | 20=>20 | 213=>420 | 46=>261 | 232=>458 | 233=>459 | n=>n,fun | 17=>6 | 18=>7 | 19=>8 | n=>n⟩
theorem laysM171:Go.Proofs.LaysM.n171 Tryz.prog laysM171_ren:={
 mixed:=by kernel_rfl
 f129:=Tryz.func281.trans (congrArg some (by kernel_rfl))
 f171:=Tryz.func147.trans (congrArg some (by kernel_rfl))
 f243:=Tryz.func206.trans (congrArg some (by kernel_rfl))
 f246:=Tryz.func250.trans (congrArg some (by kernel_rfl))
 f283:=Tryz.func297.trans (congrArg some (by kernel_rfl))
 f284:=Tryz.func298.trans (congrArg some (by kernel_rfl))
 f285:=Tryz.func299.trans (congrArg some (by kernel_rfl))
 f286:=Tryz.func300.trans (congrArg some (by kernel_rfl))
 f317:=Tryz.func339.trans (congrArg some (by kernel_rfl))
 f318:=Tryz.func340.trans (congrArg some (by kernel_rfl))
 f319:=Tryz.func341.trans (congrArg some (by kernel_rfl))
 f320:=Tryz.func342.trans (congrArg some (by kernel_rfl))
 f337:=Tryz.func370.trans (congrArg some (by kernel_rfl))
 f338:=Tryz.func371.trans (congrArg some (by kernel_rfl))
 t0:=Tryz.underlying0
 a0:=Tryz.isAgg0
 z0:=Tryz.sizeOf0
 v0:=Tryz.zeroValue0
 t2:=Tryz.underlying2
 a2:=Tryz.isAgg2
 z2:=Tryz.sizeOf2
 v2:=Tryz.zeroValue2
 t3:=Tryz.underlying3
 a3:=Tryz.isAgg3
 z3:=Tryz.sizeOf3
 v3:=Tryz.zeroValue3
 t4:=Tryz.underlying4
 a4:=Tryz.isAgg4
 z4:=Tryz.sizeOf4
 v4:=Tryz.zeroValue4
 t5:=Tryz.underlying5
 a5:=Tryz.isAgg5
 z5:=Tryz.sizeOf5
 v5:=Tryz.zeroValue5
 t9:=Tryz.underlying9
 a9:=Tryz.isAgg9
 z9:=Tryz.sizeOf9
 v9:=Tryz.zeroValue9
 t20:=Tryz.underlying20
 a20:=Tryz.isAgg20
 z20:=Tryz.sizeOf20
 v20:=Tryz.zeroValue20
 t37:=Tryz.underlying44
 a37:=Tryz.isAgg44
 z37:=Tryz.sizeOf44
 v37:=Tryz.zeroValue44
 t46:=Tryz.underlying261
 a46:=Tryz.isAgg261
 z46:=Tryz.sizeOf261
 v46:=Tryz.zeroValue261
 t51:=Tryz.underlying199
 a51:=Tryz.isAgg199
 z51:=Tryz.sizeOf199
 v51:=Tryz.zeroValue199
 t53:=Tryz.underlying196
 a53:=Tryz.isAgg196
 z53:=Tryz.sizeOf196
 v53:=Tryz.zeroValue196
 t171:=Tryz.underlying370
 a171:=Tryz.isAgg370
 z171:=Tryz.sizeOf370
 v171:=Tryz.zeroValue370
 t173:=Tryz.underlying372
 a173:=Tryz.isAgg372
 z173:=Tryz.sizeOf372
 v173:=Tryz.zeroValue372
 t212:=Tryz.underlying419
 a212:=Tryz.isAgg419
 z212:=Tryz.sizeOf419
 v212:=Tryz.zeroValue419
 t213:=Tryz.underlying420
 a213:=Tryz.isAgg420
 z213:=Tryz.sizeOf420
 t232:=Tryz.underlying458
 a232:=Tryz.isAgg458
 z232:=Tryz.sizeOf458
 v232:=Tryz.zeroValue458
 t233:=Tryz.underlying459
 a233:=Tryz.isAgg459
 z233:=Tryz.sizeOf459
 v233:=Tryz.zeroValue459
 g17:=by kernel_rfl
 g18:=by kernel_rfl
 g19:=by kernel_rfl
 i0:=by kernel_rfl
 i2:=by kernel_rfl
 i3:=by kernel_rfl
 i4:=by kernel_rfl
 i5:=by kernel_rfl
 i9:=by kernel_rfl
 i20:=by kernel_rfl
 i37:=by kernel_rfl
 i46:=by kernel_rfl
 i51:=by kernel_rfl
 i53:=by kernel_rfl
 i171:=by kernel_rfl
 i173:=by kernel_rfl
 i212:=by kernel_rfl
 i232:=by kernel_rfl
 i233:=by kernel_rfl
 m17:=by kernel_rfl
 m18:=by kernel_rfl
 m19:=by kernel_rfl }
def laysM145_ren:Go.Shelf.Ren:=⟨fun | 145=>49 | 220=>92 | 219=>141 | 217=>191 | 225=>192 | 224=>193 | 267=>194 | 266=>241 | 314=>242 | n=>n,fun | 9=>9 | 4=>4 | 59=>102 | 3=>3 | 5=>5 | 46=>261 | 146=>318 | 51=>199 | n=>n,fun | 1=>0 | n=>n⟩
theorem laysM145:Go.Proofs.LaysM.n145 Tryz.prog laysM145_ren:={
 mixed:=by kernel_rfl
 f145:=Tryz.func49.trans (congrArg some (by kernel_rfl))
 f217:=Tryz.func191.trans (congrArg some (by kernel_rfl))
 f219:=Tryz.func141.trans (congrArg some (by kernel_rfl))
 f220:=Tryz.func92.trans (congrArg some (by kernel_rfl))
 f224:=Tryz.func193.trans (congrArg some (by kernel_rfl))
 f225:=Tryz.func192.trans (congrArg some (by kernel_rfl))
 f266:=Tryz.func241.trans (congrArg some (by kernel_rfl))
 f267:=Tryz.func194.trans (congrArg some (by kernel_rfl))
 f314:=Tryz.func242.trans (congrArg some (by kernel_rfl))
 t3:=Tryz.underlying3
 a3:=Tryz.isAgg3
 z3:=Tryz.sizeOf3
 v3:=Tryz.zeroValue3
 t4:=Tryz.underlying4
 a4:=Tryz.isAgg4
 z4:=Tryz.sizeOf4
 v4:=Tryz.zeroValue4
 t5:=Tryz.underlying5
 a5:=Tryz.isAgg5
 z5:=Tryz.sizeOf5
 v5:=Tryz.zeroValue5
 t9:=Tryz.underlying9
 a9:=Tryz.isAgg9
 z9:=Tryz.sizeOf9
 v9:=Tryz.zeroValue9
 t46:=Tryz.underlying261
 a46:=Tryz.isAgg261
 z46:=Tryz.sizeOf261
 v46:=Tryz.zeroValue261
 t51:=Tryz.underlying199
 a51:=Tryz.isAgg199
 z51:=Tryz.sizeOf199
 v51:=Tryz.zeroValue199
 t59:=Tryz.underlying102
 a59:=Tryz.isAgg102
 z59:=Tryz.sizeOf102
 v59:=Tryz.zeroValue102
 t146:=Tryz.underlying318
 a146:=Tryz.isAgg318
 z146:=Tryz.sizeOf318
 v146:=Tryz.zeroValue318
 g1:=by kernel_rfl
 i3:=by kernel_rfl
 i4:=by kernel_rfl
 i5:=by kernel_rfl
 i9:=by kernel_rfl
 i46:=by kernel_rfl
 i51:=by kernel_rfl
 i59:=by kernel_rfl
 i146:=by kernel_rfl
 m1:=by kernel_rfl
 s1_3:=fun w h=>Go.Proofs.cell_of_shapedOpen_int (zero:=#[.int .i64 0]) (t:=3) h (of_decide_eq_true (by kernel_rfl)) (by kernel_rfl) rfl (by kernel_rfl) (by kernel_rfl) Tryz.underlying3 }
theorem bldX:Builder.Extra Tryz.prog lays156_ren:={
 sizeBuilder:=by kernel_rfl
 liesBuilder:=by kernel_rfl
 t5:=Tryz.underlying5
 a5:=Tryz.isAgg5
 z5:=Tryz.sizeOf5
 v5:=Tryz.zeroValue5
 infoByte:=by kernel_rfl
 cellsByte:=by kernel_rfl
 sizeByte:=by kernel_rfl
 neB5:=by decide }
def LibV(h:Hp):Prop:=(∃ m,hY h ⟨0,0,none⟩=some (.int .i64 m))∧∃ t f,h[6]? = some (.cells (Lib.pow10Tab.map fun z=>Value.int .u64 z).toArray t f)
theorem LibV.ext(h h':Hp)(v:LibV h)(e:Ext h h'):LibV h':=by
 obtain⟨⟨m,hm⟩,t,f,hp⟩:=v
 exact⟨⟨m,e.cell hm⟩,t,f,(e.block 6 ((Array.getElem?_eq_some_iff.1 hp).1)).trans hp⟩
theorem count_t(s:ByteArray)(c:UInt8)(h:Hp):HC Tryz.prog 48 #[.string s,.string ⟨#[c]⟩] h fun r h'=>r=.int .i64 (Lib.countByte s.data.toList c)∧h'=h:=
 count_h lays138 (by kernel_rfl) s c h
theorem cut_t(s sep:ByteArray){h:Hp}(v:LibV h)(hs:s.size<4294967281) :
 HC Tryz.prog 49 #[.string s,.string sep] h fun r h'=>r=.tuple #[.string ⟨(Lib.cut s.data.toList sep.data.toList).1.toArray⟩,.string ⟨(Lib.cut s.data.toList sep.data.toList).2.1.toArray⟩,.bool (Lib.cut s.data.toList sep.data.toList).2.2]∧h'=h:=by
 obtain⟨⟨m,hm⟩,_⟩:=v
 exact cut_h lays145 (by kernel_rfl) s sep hm hs
theorem cutPrefix_t(s p:ByteArray)(h:Hp) :
 HC Tryz.prog 93 #[.string s,.string p] h fun r h'=>r=.tuple #[.string ⟨(Lib.trimPrefix s.data.toList p.data.toList).toArray⟩,.bool (Lib.hasPrefix s.data.toList p.data.toList)]∧h'=h:=
 cutPrefix_h lays103 (by kernel_rfl) s p h
theorem split_t(s sep:ByteArray){h:Hp}(v:LibV h)(hs:s.size<4294967281)(h1:1≤sep.size) :
 HC Tryz.prog 95 #[.string s,.string sep] h fun r h'=>r=.slice (some ⟨h.size,0,none⟩) (Lib.countB s sep+1) (Lib.countB s sep+1)∧h'=alc h ((Lib.splitB sep 0 (Lib.countB s sep) s).map Value.string) 9:=by
 obtain⟨⟨m,hm⟩,_⟩:=v
 exact split_h lays146 (by kernel_rfl) (by kernel_rfl) s sep hm hs h1
theorem join_t(b o c:Nat)(xs:List ByteArray)(sep:ByteArray){h:Hp}
 (hc:∀ (j:Nat) x,xs[j]? = some x→hY h ⟨b,o+j,none⟩=some (.string x)) (hb:b<h.size) (hN:xs.length≤140737488355328) (hcap:xs.length≤c)
 (hlen:(Lib.join (xs.map (·.data.toList)) sep.data.toList).length≤140737488355328) :
 HC Tryz.prog 102 #[.slice (some ⟨b,o,none⟩) xs.length c,.string sep] h fun r h'=>r=.string ⟨(Lib.join (xs.map (·.data.toList)) sep.data.toList).toArray⟩∧Ext h h':=
 join_h lays156 bldX (by kernel_rfl) b o c xs sep hc hb hN hcap hlen
theorem itoa_t(n:Int)(h0 : -9223372036854775808≤n)(h1:n≤9223372036854775807){h:Hp}(v:LibV h) :
 HC Tryz.prog 147 #[.int .i64 n] h fun r h'=>r=.string ⟨(Lib.itoa n).toArray⟩∧Ext h h':=by
 obtain⟨_,t,f,hp⟩:=v
 exact itoa_h laysM171 (by kernel_rfl) n h0 h1 hp
theorem numbers_t(b:Option Addr)(c:Nat)(h:Hp):HC Tryz.prog 96 #[.slice b 0 c] h fun r h'=>r=.tuple #[.slice none 0 0,.bool true]∧h'=h:=by
 apply wc96 (l:=⟨b,0,c⟩)
 unfold vc96
 refine⟨fun o i n h'=>h'=h∧o=Sl.nil∧i=0,0,⟨rfl,rfl,rfl⟩,?_⟩
 rintro _ _ _ n _ ⟨rfl,rfl,rfl⟩
 exact .no (by simp) ⟨rfl,rfl⟩
end
theorem baLoop(bs:ByteArray):∀ (n i:Nat) (r:List UInt8),n+i=bs.size→ByteArray.toList.loop bs i r=r.reverse++bs.data.toList.drop i
 | 0,i,r,h=>by
   unfold ByteArray.toList.loop
   have:bs.data.toList.length=bs.size:=rfl
   rw[if_neg (by omega),List.drop_eq_nil_of_le (by omega),List.append_nil]
 | n+1,i,r,h=>by
   have hl:bs.data.toList.length=bs.size:=rfl
   have hi:i<bs.data.toList.length:=by omega
   unfold ByteArray.toList.loop
   rw[if_pos (by omega),baLoop bs n (i+1) _ (by omega),List.drop_eq_getElem_cons hi,List.reverse_cons,List.append_assoc]
   have:bs.get! i=bs.data.toList[i]:=by
    have hi':i<bs.data.size:=by simpa using hi
    show bs.data[i]! = _
    rw[getElem!_pos bs.data i hi'];simp
   rw[this];rfl
theorem baList(l:List UInt8):(ByteArray.mk l.toArray).toList=l:=by
 unfold ByteArray.toList
 rw[baLoop _ l.length 0 [] (by simp[ByteArray.size])]
 simp
theorem AppS_own{lo e by_:Nat}{zc:Array Value}{s:Sl}{x:List UInt8}{h:Hp}{K:Sl→Hp→Prop}{l:List Value}(hz:zc.size=1)(o:Own lo 1 h s l)(hlo:lo≤h.size)
 (hb:(s.len+x.length)*by_≤140737488355328) (hl:s.len+x.length<9223372036854775807)
 (hK:∀ r h',Own lo 1 h' r (l++x.map bv)→r.len=s.len+x.length→Keep lo h h'→(∀ b,b<h.size→(∀ a,s.base=some a→b≠a.block)→h'[b]? = h[b]?)→K r h'):AppS e 1 by_ zc s ⟨x.toArray⟩ h K:=by
 have hs:(ByteArray.mk x.toArray).size=x.length:=by simp[ByteArray.size]
 have hx:((ByteArray.mk x.toArray).extract 0 (ByteArray.mk x.toArray).size).data.map (fun b=>Value.int .u8 (b.toNat:Int))=(x.map bv).toArray:=by
  rw[ByteArray.extract_zero_size]
  show x.toArray.map _=_
  rw[List.map_toArray];rfl
 have c:=App_core (e:=e) (zc:=zc) (n:=x.length) (K:=K) (news:=x.map bv) hz o hlo (by simp) (fun v hv=>by obtain⟨b,_,rfl⟩:=List.mem_map.1 hv;rfl) (fun r h' a b c d _=>hK r h' a b c d)
 unfold AppS
 rw[hs]at *
 rw[hx]
 exact⟨hb,hl,c.1,c.2⟩
theorem say_t{h:Hp}{b:Nat}{p:Value}(r:Row h b [p,.slice Sl.nil.base Sl.nil.len Sl.nil.cap]){lb:Nat}(xs:List ByteArray)(text:List UInt8)
 (hx:∀ (j:Nat) x,xs[j]? = some x→hY h ⟨lb,j,none⟩=some (.string x)) (hlb:lb<h.size) (hn:xs.length≤100) (ht:Lib.join (xs.map (·.data.toList)) [32]=text) (hl:text.length≤1000) :
 HC Tryz.prog 51 #[pv b,.slice (some ⟨lb,0,none⟩) xs.length xs.length] h fun q h'=>q=.tuple #[]∧h.size≤h'.size∧(∀ k,k<h.size→k≠b→h'[k]? = h[k]?)∧
  ∃ o:Sl,Row h' b [p,.slice o.base o.len o.cap]∧o.len=text.length+1∧RdC h' o.base ((text ++ [10]).map bv):=by
 apply wc51 (l:=⟨some ⟨lb,0,none⟩,xs.length,xs.length⟩)
 unfold vc51
 have hb:=r.lt
 have key:=join_t lb 0 xs.length xs ⟨#[32]⟩ (h:=h) (fun j x hj=>by rw[Nat.zero_add];exact hx j x hj) hlb (by omega) (Nat.le_refl _) (by rw[show(ByteArray.mk #[32]).data.toList = [32] from rfl,ht];omega)
 rw[show(ByteArray.mk #[32]).data.toList = [32] from rfl,ht]at key
 refine⟨_,rfl,Sl.nil,r.get (i:=1) rfl,key.mono ?_⟩
 rintro _ h1 ⟨rfl,e1⟩
 refine⟨_,rfl,e1,AppS_own (lo:=h1.size) rfl (Own.nil _ 1 h1) (Nat.le_refl _) (by show(0+_)*1≤_;omega) (by show 0+_<_;omega) ?_⟩
 rintro s1 h2 o1 l1 k1 _
 have e2:Ext h1 h2:=⟨k1.size,fun k hk=>k1.block k hk⟩
 have r2:=(r.ext e1).ext e2
 obtain⟨ok,r3,f3,z3⟩:=r2.set (i:=1) (by simp) (.slice s1.base s1.len s1.cap)
 refine⟨e1.trans e2,_,rfl,ok,_,rfl,s1,r3.get rfl,?_⟩
 have s12:=e1.size
 have s23:=e2.size
 have o3:=o1.eq (h':=hset h2 ((⟨b,0,none⟩:Addr).add 1) (.slice s1.base s1.len s1.cap)) fun a ha=>f3 _ (by have:=(o1.lt ha).1;omega)
 have hl1:s1.len=text.length:=by rw[l1];show 0+_=_;omega
 generalize hh3:hset h2 ((⟨b,0,none⟩:Addr).add 1) (.slice s1.base s1.len s1.cap)=h3 at r3 f3 z3 o3
 refine AppC_new (n:=1) rfl o3 (by omega) rfl (fun v hv=>by simp at hv;subst hv;rfl) (by omega) (by omega) ?_
 rintro s2 h4 o4 l4 k4 _
 have r4:Row h4 b _:=r3.eq (k4.block b (by omega))
 obtain⟨ok4,r5,f5,z5⟩:=r4.set (i:=1) (by simp) (.slice s2.base s2.len s2.cap)
 have k4s:=k4.size
 refine⟨_,rfl,ok4,rfl,by omega,fun k hk hkb=>?_,s2,r5,by omega,?_⟩
 ·rw[f5 k hkb,k4.block k (by omega),f3 k hkb,e2.block k (by omega),e1.block k hk]
 ·have o5:=o4.eq (h':=hset h4 ((⟨b,0,none⟩:Addr).add 1) (.slice s2.base s2.len s2.cap)) fun a ha=>f5 _ (by have:=(o4.lt ha).1;omega)
  have:=o5.rd
  rw[List.map_append]
  exact this
theorem topData_spec(k:Int)(h:Hp):HC Tryz.prog 23 #[.int .i64 k] h (NewB h (blockL 40 k)):=by
 apply wc23
 unfold vc23
 refine(Block_spec 40 k (by omega) h).mono ?_
 rintro _ h1 ⟨u,rfl,g⟩
 exact⟨u,rfl,u,rfl,g⟩
section
variable{G:Gh}{h:Hp}{M N sc:Nat}{X:StD}{c:CSl}{bg:List BgD}{ev:Int}
theorem OpsT.is{s:Sl}{o:OpD}{O:List OpD}(p:OpsT G h s (o::O)):OpIs G h s o.k o.h o.P:=by
 obtain⟨L,h1,h2,h3⟩:=p
 cases L with
 | nil=>cases h1
 | cons x L=>
   simp only[List.map_cons,List.cons.injEq]at h1
   obtain⟨rfl,_⟩:=h1
   have g:∀ j v,j<5→(blkV x.1.k x.1.h x.1.a x.1.n x.2)[j]? = some v →∃ a:Addr,s.base=some a∧hY h (a.add j)=some v:=fun j v hj hv=>h2.rd j v (by
    rw[c5_cons,List.getElem?_append_left (by simp only[blkV,List.length_cons,List.length_nil];omega)];exact hv)
   obtain⟨a,ha,q0⟩:=g 0 _ (by omega) rfl
   obtain⟨a1,ha1,q1⟩:=g 1 _ (by omega) rfl
   obtain⟨a4,ha4,q4⟩:=g 4 _ (by omega) rfl
   rw[ha]at ha1 ha4
   cases ha1;cases ha4
   rw[Addr.add_zero]at q0
   exact⟨a,x.2,ha,q0,q1,q4,h3 x (by simp)⟩
theorem OpsT.cut{s:Sl}{o:OpD}{O:List OpD}(p:OpsT G h s (o::O)):OpsT G h (cutSl s (1:Int) (s.len:Int) (s.cap:Int) 5) O:=by
 obtain⟨L,h1,h2,h3⟩:=p
 cases L with
 | nil=>cases h1
 | cons x L=>
   simp only[List.map_cons,List.cons.injEq]at h1
   obtain⟨rfl,rfl⟩:=h1
   have hl:=h2.len
   rw[c5_length,List.length_cons]at hl
   have:=h2.cut (lo:=1) (hi:=s.len) (m:=s.cap) (by omega) (Nat.le_refl _) h2.cap
   refine⟨L,rfl,?_,fun y hy=>h3 y (List.mem_cons_of_mem _ hy)⟩
   have e:((c5 (x::L)).drop (1*5)).take ((s.len-1)*5)=c5 L:=by
    have hd:(c5 (x::L)).drop (1*5)=c5 L:=by
     rw[c5_cons];exact List.drop_left' rfl
    rw[hd,List.take_of_length_le]
    rw[c5_length];omega
   rw[e]at this
   exact this
def AwS(G:Gh)(h:Hp)(M N sc:Nat)(X:StD)(c:CSl)(bg:List BgD)(ev:Int)(O:List OpD):Prop:=
 ∃ (cl:List CSl) (db sb:Nat) (all:Sl) (bb:Nat→Nat),SdIn G h M N sc X cl bg bg.length ev db sb all bb∧SdOk G.W N X bg 0∧Live X.dv∧cl[0]? = some c∧OpsT G h c.ops O∧c.ops.len=O.length
theorem step_ops:∀ n,¬ sStep (.arr (.ops 0) n):=fun n h=>by simp[sStep,sSt]at h
theorem aw_step(t:HT G h){o:OpD}{O:List OpD}(s:AwS G h M N sc X c bg ev (o::O))(hN:N≤900000)(hM:M+16≤1000000):HC Tryz.prog 24 #[pv sc,.int .i64 (1:Int)] h fun r h'=>∃ (b0 b1 b2 b3:Int) (u:Sl) (e:Int),r=.tuple #[.agg #[.int .i64 b0,.int .i64 b1,.int .i64 b2,.int .i64 b3,.slice u.base u.len u.cap],.int .i64 e]∧∃ (G':Gh) (X':StD) (c' c'':CSl) (bg':List BgD) (okb:Bool),To sStep G h G' h'∧DoEx o.k o.h o.P c X bg (iAdd .i64 ev 1) okb X' bg' c'∧c''.L=c'.L∧
 (okb=true→c''.asked=false∧AwS G' h' (M+16) (N+1) sc X' c'' bg' (iAdd .i64 ev 1) O)∧(okb=false→c''.asked=true∧AwS G' h' (M+16) (N+1) sc X' c'' bg' (iAdd .i64 ev 1) (o::O)):=by
 obtain⟨cl,db,sb,all,bb,x,od,l,hc,ot,hlen⟩:=s
 refine(dStep_spec t x od hN hM 1).mono ?_
 rintro _ h2 ⟨G2,X2,cl2,bg2,all2,bb2,ev2,b0,b1,b2,b3,e,u,rfl,y2,w2,x2,o2,hdv,ex⟩
 obtain⟨rfl,c',c'',okb,hdo,rfl,hL,ht,hf⟩:=ex 0 c o.k o.h o.P rfl hc (by rw[hlen];simp) ot.is
 have hcl:=x.len
 have hc2:(cl.set 0 c'')[0]? = some c'':=List.getElem?_set_self (by omega)
 have ot2:=ot.to (x.cls 0 c hc).ops y2 t step_ops
 refine⟨b0,b1,b2,b3,u,e,rfl,G2,X2,c',c'',bg2,okb,y2,hdo,hL,fun hk=>?_,fun hk=>?_⟩
 ·obtain⟨q1,q2⟩:=ht hk
  refine⟨q2,_,db,sb,all2,bb2,x2,by rw[w2];exact o2,by rw[hdv];exact l,hc2,by rw[q1];exact ot2.cut,?_⟩
  rw[q1,show(cutSl c.ops (1:Int) (c.ops.len:Int) (c.ops.cap:Int) 5).len=c.ops.len-1 from cut_len (lo:=1),hlen];rfl
 ·obtain⟨q1,q2⟩:=hf hk
  exact⟨q2,_,db,sb,all2,bb2,x2,by rw[w2];exact o2,by rw[hdv];exact l,hc2,by rw[q1];exact ot2,by rw[q1];exact hlen⟩
end
def opB:OpD:=⟨1,0,0,0,[]⟩
def putW:List PutD:=[(1,blockL 40 1)]
def opW:OpD:=⟨3,0,0,0,putW⟩
def opC:OpD:=⟨4,0,0,0,[]⟩
def D0:MgrD:=⟨[],[],0,0,0,0,0,false⟩
def D1:MgrD:=⟨[⟨1,0,0,0,[]⟩],[],0,0,0,0,0,false⟩
def D2:MgrD:=⟨[⟨1,0,0,0,putW⟩],[],0,0,0,0,0,false⟩
def D3:MgrD:=⟨[⟨2,1,0,0,putW⟩],[1],0,0,0,0,1,false⟩
def bgA(v:Int):BgD:=⟨1,0,[],1,v⟩
def AwI(G:Gh)(h:Hp)(sc:Nat)(i:Int)(n:Nat):Prop:=
 (i=0∧n=3∧∃ X c,AwS G h 258 193 sc X c [] 0 [opB,opW,opC]∧X.D=D0∧X.num=0∧X.pos=0∧c.L = []∧c.asked=false) ∨
 (i=1∧n=2∧∃ X c,AwS G h 274 194 sc X c [bgA 0] 1 [opW,opC]∧X.D=D1∧X.num=0∧X.pos=0∧c.L = [0]∧c.asked=false) ∨
 (i=2∧n=1∧∃ X c,AwS G h 290 195 sc X c [bgA 0] 2 [opC]∧X.D=D2∧X.num=0∧X.pos=0∧c.L = [0]∧c.asked=false) ∨
 (i=3∧n=0∧∃ X c,AwS G h 306 196 sc X c [bgA 0] 3 [opC]∧X.D=D3∧X.num=0∧X.pos=0∧c.L = [0]∧c.asked=true)
theorem checkW:CheckP 1 [((1:Int),putW)]:=by
 have h1:∀ j,j < [((1:Int),putW)].length→j=0:=fun j hj=>by simp at hj;omega
 refine⟨by omega,by simp,fun j hj=>?_,by simp[blocksN,putW],fun j hj=>?_⟩
 ·obtain rfl:=h1 j hj
  refine⟨by simp[prevT,tm],by simp[tm],by simp[pt,putW],fun k h0 hk=>?_⟩
  simp[pt,putW]at hk;omega
 ·obtain rfl:=h1 j hj
  refine⟨fun h=>by omega,by simp[pt,putW],fun p hp=>?_⟩
  simp[pt,putW]at hp
  subst hp
  exact⟨by omega,by omega,blockL_length _ _⟩
section
variable{G:Gh}{h:Hp}{sc:Nat}
theorem aw_loop(t:HT G h){i:Int}{n:Nat}(s:AwI G h sc i n)(hi:i<3):HC Tryz.prog 24 #[pv sc,.int .i64 (1:Int)] h fun r h'=>∃ (b0 b1 b2 b3:Int) (u:Sl) (e:Int),r=.tuple #[.agg #[.int .i64 b0,.int .i64 b1,.int .i64 b2,.int .i64 b3,.slice u.base u.len u.cap],.int .i64 e]∧∃ G' n',To sStep G h G' h'∧n'<n∧AwI G' h' sc (iAdd .i64 i 1) n':=by
 rcases s with ⟨rfl,rfl,X,c,s,hD,hn,hp,hL,ha⟩ | ⟨rfl,rfl,X,c,s,hD,hn,hp,hL,ha⟩ | ⟨rfl,rfl,X,c,s,hD,hn,hp,hL,ha⟩ | ⟨rfl,_⟩
 ·refine(aw_step t s (by omega) (by omega)).mono ?_
  rintro _ h2 ⟨b0,b1,b2,b3,u,e,rfl,G2,X2,c',c'',bg2,okb,y2,hdo,hcL,ht,_⟩
  obtain⟨rfl,rfl,rfl,hL'⟩:=hdo.1 rfl fun j t hj=>by rw[hD]at hj;simp[D0]at hj
  obtain⟨q1,q2⟩:=ht rfl
  refine⟨b0,b1,b2,b3,u,e,rfl,G2,2,y2,by omega,.inr (.inl ⟨rfl,rfl,{ X with D:=X.D.add },c'',?_,?_,hn,hp,?_,q1⟩)⟩
  ·have e:([] ++ [⟨X.D.txs.length+1,0,[],iAdd .i64 0 1,0⟩]:List BgD) = [bgA 0]:=by rw[hD];rfl
   rw[e]at q2;exact q2
  ·show X.D.add=D1;rw[hD];rfl
  ·rw[hcL,hL',hL];rfl
 ·refine(aw_step t s (by omega) (by omega)).mono ?_
  rintro _ h2 ⟨b0,b1,b2,b3,u,e,rfl,G2,X2,c',c'',bg2,okb,y2,hdo,hcL,ht,_⟩
  obtain⟨hce,rfl⟩:=hdo.2 0 0 (bgA 0) (.inl rfl) rfl (by rw[hL];rfl) rfl (by simp[bgA])
  obtain⟨rfl,rfl,rfl⟩:=(hce 0 ⟨1,0,0,0,[]⟩ rfl (by rw[hD];rfl)).1 rfl rfl rfl 1 (blockL 40 1) rfl (by omega) (blockL_length _ _)
  obtain⟨q1,q2⟩:=ht rfl
  refine⟨b0,b1,b2,b3,u,e,rfl,G2,1,y2,by omega,.inr (.inr (.inl ⟨rfl,rfl,{ X with D:=X.D.set 0 { (⟨1,0,0,0,[]⟩:TxS) with P:=[(1,blockL 40 1)] } },c'',q2,?_,hn,hp,by rw[hcL,hL],q1⟩))⟩
  show X.D.set 0 _=D2
  rw[hD];rfl
 ·refine(aw_step t s (by omega) (by omega)).mono ?_
  rintro _ h2 ⟨b0,b1,b2,b3,u,e,rfl,G2,X2,c',c'',bg2,okb,y2,hdo,hcL,_,hf⟩
  obtain⟨hce,rfl⟩:=hdo.2 0 0 (bgA 0) (.inr rfl) rfl (by rw[hL];rfl) rfl (by simp[bgA])
  obtain⟨rfl,rfl,rfl⟩:=(hce 0 ⟨1,0,0,0,putW⟩ rfl (by rw[hD];rfl)).2.1 rfl ha rfl (by simp[putW]) (by rw[hD];rfl) (by rw[hD];rfl) (by rw[hD];rfl) (by rw[hD];show(0:Int)<_;omega)
  obtain⟨q1,q2⟩:=hf rfl
  refine⟨b0,b1,b2,b3,u,e,rfl,G2,0,y2,by omega,.inr (.inr (.inr ⟨rfl,rfl,{ X with D:={ X.D with txs:=X.D.txs.set 0 { (⟨1,0,0,0,putW⟩:TxS) with state:=2,time:=X.D.given+1 },queue:=X.D.queue ++ [0+1],given:=X.D.given+1 } },c'',q2,?_,hn,hp,by rw[hcL,hL],q1⟩))⟩
  show({ X.D with txs:=X.D.txs.set 0 _,queue:=X.D.queue ++ [0+1],given:=X.D.given+1 }:MgrD)=D3
  rw[hD];rfl
 ·omega
end
theorem awake_spec{V:Hp→Prop}(hV:∀ h h',V h→Ext h h'→V h')(pl:∀ h,V h→HC Tryz.prog 25 #[.string (ByteArray.mk #[115,116,97,116,10])] h fun r h'=>r=.string (ByteArray.mk #[108,97,115,116,32,48,32,111,112,101,110,32,48,32,113,117,101,117,101,32,48,32,98,108,111,99,107,115,32,50,53,56,10])∧Ext h h')(h:Hp)(v:V h) :
 HC Tryz.prog 6 #[] h fun r h'=>r=.bool true∧Ext h h':=by
 apply wc6
 unfold vc6
 refine topBegin_spec.mono ?_
 rintro _ h1 ⟨sc,G1,X1,db1,sb1,rfl,y1,w1,x1,o1,l1,hD1,hn1,hp1,_⟩
 refine⟨_,_,rfl,.no rfl ((topData_spec 1 h1).mono ?_)⟩
 rintro _ h2 ⟨u,rfl,ou,lu,e2⟩
 refine⟨u,rfl,?_⟩
 intro h3 h4
 have e3:Ext h2 h3:=alc_ext _ _ _
 have e4:Ext h3 h4:=alc_ext _ _ _
 have r3:RdC h3 (some (nw h2)) (c2 [((1:Int),u)]):=RdC.alc h2 _ 46
 have r4:RdC h4 (some (nw h3)) (c5 [(opB,Sl.nil),(opW,⟨some (nw h2),1,1⟩),(opC,Sl.nil)]):=RdC.alc h3 _ 58
 have s3:h3.size=h2.size+1:=size_alc _ _ _
 have s4:h4.size=h3.size+1:=size_alc _ _ _
 clear_value h4
 clear_value h3
 have y4:To (fun _=>False) G1 h1 G1 h4:=((e2.trans e3).trans e4).to y1.ht
 have x4:=x1.pure y4
 have s12:=e2.size
 have stab:∀ b,h1.size≤b→b<h4.size→Stab G1 h4 b:=fun b hb hlt=>⟨hlt,by rw[y1.ht.fresh hb];exact id⟩
 have nilP:PutsR (Stab G1 h4) h4 Sl.nil []:=⟨[],rfl,Rd.nil _ _,fun a ha=>(by cases ha),fun x hx=>(by simp at hx)⟩
 have wP:PutsR (Stab G1 h4) h4 ⟨some (nw h2),1,1⟩ putW:=by
  refine⟨[((1,u),blockL 40 1)],rfl,⟨by simp[c2_length],by simp,r3.ext e4⟩,fun a ha _=>?_,fun x hx=>?_⟩
  ·cases ha;exact stab _ (by show h1.size≤h2.size;omega) (by show h2.size<_;omega)
  ·simp only[List.mem_cons,List.not_mem_nil,or_false]at hx
   subst hx
   exact⟨(ou.toRd.ext e3).ext e4,fun a ha _=>stab _ (ou.lt ha).1 (by have:=(ou.lt ha).2;omega)⟩
 have opsR:OpsR (Stab G1 h4) h4 ⟨some (nw h3),3,3⟩ [opB,opW,opC]:=by
  refine⟨[(opB,Sl.nil),(opW,⟨some (nw h2),1,1⟩),(opC,Sl.nil)],rfl,⟨by rw[c5_length];rfl,by simp,r4⟩,fun a ha _=>?_,fun x hx=>?_⟩
  ·cases ha;exact stab _ (by show h1.size≤h3.size;omega) (by show h3.size<_;omega)
  ·simp only[List.mem_cons,List.not_mem_nil,or_false]at hx
   rcases hx with rfl | rfl | rfl
   ·exact⟨nilP,by simp[opB],fun p hp=>by simp[opB]at hp⟩
   ·refine⟨wP,by simp[opW,putW],fun p hp=>?_⟩
    simp[opW,putW]at hp
    subst hp
    show(blockL 40 1).length≤_
    rw[blockL_length];omega
   ·exact⟨nilP,by simp[opC],fun p hp=>by simp[opC]at hp⟩
 refine(dAdd_spec y4.ht x4 1 opsR (by simp)).mono ?_
 rintro _ h5 ⟨G5,e5,cl5,rfl,y5,w5,x5,ex5⟩
 obtain⟨rfl,c',rfl,ot5,hL5,ha5,hl5⟩:=ex5 0 cl0 rfl rfl rfl (by simp)
 have y05:To (fun _=>True) G00 h G5 h5:=((y1.mono fun _ _=>trivial).trans (y4.mono fun _ h=>h.elim)).trans (y5.mono fun _ _=>trivial)
 have s5:AwS G5 h5 258 193 sc X1 c' [] 0 [opB,opW,opC]:=⟨_,db1,sb1,_,_,x5,by rw[w5];exact o1,l1,rfl,ot5,hl5⟩
 refine⟨0,rfl,.no rfl ?_⟩
 refine⟨fun i n h'=>∃ G':Gh,To (fun _=>True) G00 h G' h'∧AwI G' h' sc i n,3,⟨G5,y05,.inl ⟨rfl,rfl,X1,c',s5,hD1,hn1,hp1,hL5,ha5⟩⟩,?_⟩
 rintro _ i n6 h6 ⟨G6,y6,s6⟩
 refine IfB.dec (fun hlt=>?_) fun hge=>?_
 ·refine(aw_loop y6.ht s6 hlt).mono ?_
  rintro _ h7 ⟨b0,b1,b2,b3,u,e,rfl,G7,n7,y7,hn7,s7⟩
  exact⟨b0,b1,b2,b3,u,e,rfl,n7,hn7,G7,y6.trans (y7.mono fun _ _=>trivial),s7⟩
 obtain⟨X,c,⟨cl,db,sb,all,bb,x6,o6,l6,hc6,ot6,hl6⟩,hD,hn,hp,hL,ha⟩:∃ X c,AwS G6 h6 306 196 sc X c [bgA 0] 3 [opC]∧X.D=D3∧X.num=0∧X.pos=0∧c.L = [0]∧c.asked=true:=by
  rcases s6 with ⟨rfl,_⟩ | ⟨rfl,_⟩ | ⟨rfl,_⟩ | ⟨_,_,s⟩
  ·omega
  ·omega
  ·omega
  ·exact s
 refine(dFlush_spec y6.ht x6 o6 (by omega) (by omega)).mono ?_
 rintro _ h7 ⟨G7,c7,X7,rfl,y7,x7,_,lv7⟩
 obtain⟨o7,l7,f7⟩:=lv7 l6
 have hw:waitT X.D = [((1:Int),putW)]:=by rw[hD];rfl
 obtain⟨rfl,hD7⟩:c7=0∧X7.D=doneD 0 X.D 1:=by
  rcases f7 with ⟨_,_,hq⟩ | ⟨k,hk1,hk2,_,hDk,hz⟩
  ·rw[hD]at hq;cases hq
  ·rw[hD]at hk2
   have hk2:k≤1:=hk2
   obtain rfl:k=1:=by omega
   have hc0:=hz (by rw[hw,hn];exact checkW) (by rw[hw,hp];simp[blocksN,putW])
   rw[hc0]at hDk
   exact⟨hc0,hDk⟩
 refine⟨_,rfl,.no rfl ?_⟩
 have ot7:=ot6.to (x6.cls 0 c hc6).ops y7 y6.ht step_ops
 have s7:AwS G7 h7 (306+128) (196+1) sc X7 c [bgA 0] (iAdd .i64 3 1) [opC]:=⟨cl,db,sb,all,bb,x7,o7,l7,hc6,ot7,hl6⟩
 have tx7:∃ tx:TxS,X7.D.txs[0]? = some tx∧tx.state=3:=by
  refine⟨_,by rw[hD7];exact doneD_tx (N:=196) (k:=1) (code:=0) o6.sr.mg (j:=0) (t:=⟨2,1,0,0,putW⟩) (by rw[hD];rfl),?_⟩
  rw[if_pos (by rw[hD];simp[D3])]
  rfl
 obtain⟨tx,htx,hst⟩:=tx7
 refine(aw_step y7.ht s7 (by omega) (by omega)).mono ?_
 rintro _ h8 ⟨b0,b1,b2,b3,u8,e8,rfl,G8,X8,c',c'',bg8,okb,y8,hdo,hcL,ht8,_⟩
 obtain⟨hce,rfl⟩:=hdo.2 0 0 (bgA 0) (.inr rfl) rfl (by rw[hL];rfl) rfl (by simp[bgA])
 obtain⟨rfl,rfl,rfl⟩:=(hce 0 tx rfl htx).2.2 rfl ha hst
 obtain⟨_,cl8,db8,sb8,all8,bb8,x8,o8,l8,hc8,ot8,hl8⟩:=ht8 rfl
 refine⟨b0,b1,b2,b3,u8,e8,rfl,(dHist_spec y8.ht x8 (by simp) (by omega) fun i b hb h0=>o8.tx hb h0).mono ?_⟩
 rintro _ h9 ⟨G9,hs,L,rfl,y9,w9,hr9,hL9,hsee⟩
 have hlen:=hr9.len
 have hL9:L.length=1:=hL9
 obtain⟨y,q1,q2,_,q4⟩:=hsee 0 _ rfl
 have hy:L[0]'(by omega)=y:=by rw[List.getElem?_eq_getElem (by omega)]at q1;exact Option.some.inj q1
 have hy3:y.st=3:=by
  rw[q2]
  unfold seeSt
  rw[if_neg (by simp[bgA])]
  show((X8.D.at_ (0+1)).state:Int)=3
  rw[MgrD.at_get htx,hst];rfl
 have y09:To (fun _=>True) G00 h G9 h9:=((y6.trans (y7.mono fun _ _=>trivial)).trans (y8.mono fun _ _=>trivial)).trans (y9.mono fun _ h=>h.elim)
 refine⟨hs,rfl,.yes (by rw[hlen,hL9];rfl) ?_⟩
 refine hr9.ix 0 rfl (by omega) fun a c0 _ _ _=>⟨_,c0,.yes (by rw[hy,hy3];rfl) ?_⟩
 refine hr9.ix 0 rfl (by omega) fun a _ c4 _ _=>⟨_,c4,.yes (by rw[hy,q4];rfl) ?_⟩
 refine(pl h9 (hV _ _ v (ext00 y09))).mono ?_
 rintro _ h10 ⟨rfl,e10⟩
 exact⟨_,rfl,by simp,(ext00 y09).trans e10⟩
theorem strF(a b:List UInt8)(h:(a == b)=false):((ByteArray.mk a.toArray).toList ==(ByteArray.mk b.toArray).toList)=false:=by rw[baList,baList];exact h
theorem strT(a b:List UInt8)(h:(a == b)=true):((ByteArray.mk a.toArray).toList ==(ByteArray.mk b.toArray).toList)=true:=by rw[baList,baList];exact h
def answerL:List UInt8:=[108,97,115,116,32,48,32,111,112,101,110,32,48,32,113,117,101,117,101,32,48,32,98,108,111,99,107,115,32,50,53,56]
def PlAt(G:Gh)(h0 h:Hp)(b:Nat)(o:Sl):Prop:=
 To (fun _=>True) G00 h0 G h∧h0.size≤b∧G.k b=.one 30∧∃ (sc:Nat) (X:StD) (db sb:Nat),Row h b [pv sc,.slice o.base o.len o.cap]∧SdIn G h 258 193 sc X (List.replicate 8 cl0) [] 0 0 db sb Sl.nil id∧SdOk G.W 193 X [] 0∧X.D=⟨[],[],0,0,0,0,0,false⟩
def PlDone(h0 h:Hp)(b:Nat):Prop:=Ext h0 h∧∃ (p:Value) (o:Sl),Row h b [p,.slice o.base o.len o.cap]∧o.len=answerL.length+1∧RdC h o.base ((answerL ++ [10]).map bv)
section
variable{G:Gh}{h0 h:Hp}{b:Nat}{o:Sl}
theorem PlAt.ext{h':Hp}(x:PlAt G h0 h b o)(e:Ext h h'):PlAt G h0 h' b o:=by
 obtain⟨y,hb,kd,sc,X,db,sb,r,x,w,hD⟩:=x
 exact⟨y.ext e,hb,kd,sc,X,db,sb,r.ext e,x.pure (e.to y.ht),w,hD⟩
theorem PlAt.old(x:PlAt G h0 h b o):Ext h0 h:=⟨x.1.size,fun k hk=>x.1.fr k hk fun q=>q.1⟩
theorem sBlocks_spec{M sb:Nat}{X:StD}{db lb mb:Nat}{ts:Sl}{em bk am:Nat}{q:Sl}{tb:Nat→Nat}(x:StIn G h M sb X db lb mb ts em bk am q tb)(hn:X.dv.n=8)(hs:X.dv.size=96) :
 HC Tryz.prog 150 #[pv sb] h fun r h'=>r=.int .i64 258∧Ext h h':=by
 apply wc150
 unfold vc150
 refine .no rfl ⟨_,rfl,_,x.row.get0 rfl,.no rfl ⟨_,rfl,_,x.row.get0 rfl,(Geometry_spec x.dev).mono ?_⟩⟩
 rintro _ h1 ⟨rfl,e1⟩
 rw[hn,hs]
 refine⟨_,_,rfl,(spCap_spec h1).mono ?_⟩
 rintro _ h2 ⟨rfl,e2⟩
 exact⟨_,rfl,rfl,e1.trans e2⟩
theorem StIn.ext'{h':Hp}{M sb:Nat}{X:StD}{db lb mb:Nat}{ts:Sl}{em bk am:Nat}{q:Sl}{tb:Nat→Nat}(x:StIn G h M sb X db lb mb ts em bk am q tb)(t:HT G h)(e:Ext h h'):StIn G h' M sb X db lb mb ts em bk am q tb:=
 x.to (S:=fun _=>False) (e.to t) (Nat.le_refl _) fun _ _ h=>h
theorem bare_t(x:PlAt G h0 h b Sl.nil)(v:LibV h0):HC Tryz.prog 98 #[pv b,.string (ByteArray.mk #[115,116,97,116])] h fun r h'=>r=.bool true∧PlDone h0 h' b:=by
 have x0:=x
 obtain⟨y,hb,kd,sc,X,db,sb,r,sd,w,hD⟩:=x
 apply wc98
 unfold vc98
 refine .no (strF _ _ (by decide)) (.no (strF _ _ (by decide)) (.no (strF _ _ (by decide)) (.no (strF _ _ (by decide)) (.no (strF _ _ (by decide)) (.no (strF _ _ (by decide)) (.no (strF _ _ (by decide)) (.yes (strT _ _ (by decide)) ?_)))))))
 refine⟨_,rfl,_,r.get0 rfl,(dStore_spec sd).mono ?_⟩
 rintro _ _ ⟨rfl,rfl⟩
 obtain⟨lb,mb,ts,em,bk,am,q,tb,st⟩:=sd.st
 refine⟨_,rfl,(sLast_spec st).mono ?_⟩
 rintro _ _ ⟨rfl,rfl⟩
 rw[hD]
 have v0:=LibV.ext _ _ v x0.old
 refine⟨_,rfl,(itoa_t 0 (by omega) (by omega) v0).mono ?_⟩
 rintro _ h1 ⟨rfl,e1⟩
 have x1:=x0.ext e1
 have st1:=st.ext' y.ht e1
 refine⟨_,rfl,(sOpen_spec x1.1.ht st1 (by rw[hD];simp)).mono ?_⟩
 rintro _ h2 ⟨c,rfl,e2,hc⟩
 obtain rfl:c=0:=hc [] List.nodup_nil fun k=>⟨fun hk=>(by cases hk),fun⟨j,t,hj,_⟩=>by rw[hD]at hj;simp at hj⟩
 have e12:=e1.trans e2
 have x2:=x0.ext e12
 have st2:=st.ext' y.ht e12
 refine⟨_,rfl,(itoa_t 0 (by omega) (by omega) (LibV.ext _ _ v x2.old)).mono ?_⟩
 rintro _ h3 ⟨rfl,e3⟩
 have e13:=e12.trans e3
 have st3:=st.ext' y.ht e13
 refine⟨_,rfl,(sQueue_spec st3).mono ?_⟩
 rintro _ _ ⟨rfl,rfl⟩
 rw[hD]
 refine⟨_,rfl,(itoa_t 0 (by omega) (by omega) (LibV.ext _ _ v (x0.ext e13).old)).mono ?_⟩
 rintro _ h4 ⟨rfl,e4⟩
 have e14:=e13.trans e4
 refine⟨_,rfl,(sBlocks_spec (st.ext' y.ht e14) w.sr.n w.sr.size).mono ?_⟩
 rintro _ h5 ⟨rfl,e5⟩
 have e15:=e14.trans e5
 refine⟨_,rfl,(itoa_t 258 (by omega) (by omega) (LibV.ext _ _ v (x0.ext e15).old)).mono ?_⟩
 rintro _ h6 ⟨rfl,e6⟩
 have e16:=e15.trans e6
 refine⟨_,rfl,?_⟩
 intro h7
 have e7:Ext h6 h7:=alc_ext _ _ _
 have e17:=e16.trans e7
 have r7:=r.ext e17
 have rr:Row h7 h6.size _:=Row.alc h6 _ _
 have s7:h7.size=h6.size+1:=size_alc _ _ _
 refine(say_t r7 (lb:=h6.size) [ByteArray.mk #[108,97,115,116],⟨(Lib.itoa 0).toArray⟩,ByteArray.mk #[111,112,101,110],⟨(Lib.itoa 0).toArray⟩,ByteArray.mk #[113,117,101,117,101],⟨(Lib.itoa 0).toArray⟩,ByteArray.mk #[98,108,111,99,107,115],⟨(Lib.itoa 258).toArray⟩] answerL
  (fun j x hj=>?_) (by omega) (by simp) (by kernel_rfl) (by simp[answerL])).mono ?_
 ·have hj':([ByteArray.mk #[108,97,115,116],⟨(Lib.itoa 0).toArray⟩,ByteArray.mk #[111,112,101,110],⟨(Lib.itoa 0).toArray⟩,ByteArray.mk #[113,117,101,117,101],⟨(Lib.itoa 0).toArray⟩,ByteArray.mk #[98,108,111,99,107,115],⟨(Lib.itoa 258).toArray⟩].map Value.string)[j]? = some (.string x):=by rw[List.getElem?_map,hj];rfl
  have g:=rr.get (i:=j) hj'
  rw[add_none,Nat.zero_add]at g
  exact g
 ·rintro _ h8 ⟨rfl,s8,f8,o8,r8,l8,d8⟩
  refine⟨rfl,rfl,?_,_,o8,r8,l8,d8⟩
  have e07:=x0.old.trans e17
  have:=e07.size
  exact⟨by omega,fun k hk=>by rw[f8 k (by omega) (by omega),e07.block k hk]⟩
theorem line_t(x:PlAt G h0 h b Sl.nil)(v:LibV h0):HC Tryz.prog 50 #[pv b,.string (ByteArray.mk #[115,116,97,116])] h fun r h'=>r=.bool true∧PlDone h0 h' b:=by
 apply wc50
 unfold vc50
 refine(cutPrefix_t _ _ h).mono ?_
 rintro _ h ⟨rfl,rfl⟩
 refine⟨_,_,rfl,.no (by decide) ?_⟩
 have c0:Lib.countB (ByteArray.mk #[115,116,97,116]) (ByteArray.mk #[32])=0:=by kernel_rfl
 have key:=split_t (ByteArray.mk #[115,116,97,116]) (ByteArray.mk #[32]) (LibV.ext _ _ v x.old) (by decide) (by decide)
 rw[c0]at key
 refine key.mono ?_
 rintro _ h1 ⟨rfl,rfl⟩
 have e1:Ext h _:=alc_ext h ((Lib.splitB (ByteArray.mk #[32]) 0 0 (ByteArray.mk #[115,116,97,116])).map Value.string) 9
 have x1:=x.ext e1
 have rr:=Row.alc h ((Lib.splitB (ByteArray.mk #[32]) 0 0 (ByteArray.mk #[115,116,97,116])).map Value.string) 9
 refine⟨⟨some ⟨h.size,0,none⟩,1,1⟩,rfl,by omega,by show(1:Int)≤((1:Nat):Int);omega,Int.le_refl _,Int.le_refl _,(numbers_t _ _ _).mono ?_⟩
 rintro _ _ ⟨rfl,rfl⟩
 refine⟨Sl.nil,true,rfl,.no rfl ⟨_,rfl,by omega,by show(0:Int)<((1:Nat):Int);omega,_,rr.get (i:=0) rfl,?_⟩⟩
 refine .no (strF _ _ (by decide)) (.no (strF _ _ (by decide)) (.yes rfl ((bare_t x1 v).mono ?_)))
 rintro _ h2 ⟨rfl,hd⟩
 exact⟨_,rfl,rfl,hd⟩
end
theorem Play_spec{h:Hp}(v:LibV h):HC Tryz.prog 25 #[.string (ByteArray.mk #[115,116,97,116,10])] h fun r h'=>r=.string (ByteArray.mk #[108,97,115,116,32,48,32,111,112,101,110,32,48,32,113,117,101,117,101,32,48,32,98,108,111,99,107,115,32,50,53,56,10])∧Ext h h':=by
 apply wc25
 unfold vc25
 intro h1
 obtain⟨G1,y1,w1,k1,r1⟩:=alcLoc (ht00 h) [.pointer none,.slice Sl.nil.base Sl.nil.len Sl.nil.cap] 100
 refine(dNewG_spec y1.ht fun a l hw=>by rw[w1]at hw;exact hw).mono ?_
 rintro _ h2 ⟨sc,G2,X,db,sb,rfl,y2,w2,x2,o2,_,hD,_⟩
 have k2:=y2.kd k1 (by simp)
 have r2:=y2.rowK r1 k1 (by simp[sSt])
 obtain⟨ok,_,y3,r3⟩:=locSet y2.ht k2 r2 (i:=0) (by simp) (pv sc)
 rw[Addr.add_zero]at ok y3 r3
 refine⟨_,_,rfl,_,rfl,ok,?_⟩
 have y03:To (fun _=>True) G00 h G2 (hset h2 ⟨h.size,0,none⟩ (pv sc)):=((y1.mono fun _ h=>h.elim).trans (y2.mono fun _ _=>trivial)).trans (y3.mono fun _ _=>trivial)
 have pl:PlAt G2 h (hset h2 ⟨h.size,0,none⟩ (pv sc)) h.size Sl.nil:=⟨y03,Nat.le_refl _,y3.kd k2 (by simp),sc,X,db,sb,r3,x2.loc y3,o2,hD⟩
 obtain⟨h3,eh3⟩:∃ h3,h3=hset h2 (nw h) (.pointer (some ⟨sc,0,none⟩)):=⟨_,rfl⟩
 rw[← eh3]
 replace pl:PlAt G2 h h3 h.size Sl.nil:=by rw[eh3];exact pl
 clear eh3
 refine .no (by decide) ((count_t _ _ h3).mono ?_)
 rintro _ h3 ⟨rfl,rfl⟩
 refine⟨_,rfl,.yes (by rw[show(ByteArray.mk #[115,116,97,116,10]).toList = [115,116,97,116,10] from baList _,show(ByteArray.mk #[]).toList = [] from baList []];rfl) ⟨4,10,by decide,rfl,.no (by decide) (.no (by decide) ?_)⟩⟩
 refine⟨fun t n h'=>(t=ByteArray.mk #[115,116,97,116,10]∧n=1∧h'=h3)∨(t=ByteArray.mk #[]∧n=0∧PlDone h h' h.size),1,.inl ⟨rfl,rfl,rfl⟩,?_⟩
 rintro _ t n h4 (⟨rfl,rfl,rfl⟩ | ⟨rfl,rfl,hd⟩)
 ·refine .yes (by rw[show(ByteArray.mk #[115,116,97,116,10]).toList = [115,116,97,116,10] from baList _,show(ByteArray.mk #[]).toList = [] from baList []];rfl) ?_
  refine(cut_t _ _ (LibV.ext _ _ v pl.old) (by decide)).mono ?_
  rintro _ _ ⟨rfl,rfl⟩
  refine⟨ByteArray.mk #[115,116,97,116],ByteArray.mk #[],true,by kernel_rfl,.no (strF [115,116,97,116] [] (by decide)) ⟨0,115,rfl,rfl,.no (by decide) ((line_t pl v).mono ?_)⟩⟩
  rintro _ h5 ⟨rfl,hd⟩
  exact⟨_,rfl,.no rfl ⟨0,by omega,.inr ⟨rfl,rfl,hd⟩⟩⟩
 ·refine .no (by simp) ?_
  obtain⟨e,p,o,r,hl,hr⟩:=hd
  refine⟨_,rfl,o,r.get rfl,answerL ++ [10],by rw[hl];simp,hr,rfl,e⟩
end Go.Proofs.YtdpdkpfnfllipaaGreatDoor
