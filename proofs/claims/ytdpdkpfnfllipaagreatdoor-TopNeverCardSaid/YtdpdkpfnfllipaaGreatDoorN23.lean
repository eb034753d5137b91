/- A part of the proof, no condition. -/
import Derived.HandedShaped
import Derived.Lay
import Derived.Lib.LaidTab
import Derived.Lib.LaidU8
import Derived.MakeChecks
import Derived.OpenShut
import Derived.ProofKit
import Derived.Stop.Joined
import Derived.Test.YtdpdkpfnfllipaaGreatDoorN5
import Derived.Test.YtdpdkpfnfllipaaGreatDoorN6
import Derived.Test.YtdpdkpfnfllipaaGreatDoorN7
import Derived.Test.YtdpdkpfnfllipaaGreatDoorN22
set_option linter.unusedVariables false
set_option linter.unusedSimpArgs false
namespace Go.Proofs.YtdpdkpfnfllipaaGreatDoor
theorem AppS_own{lo e by_:Nat}{zc:Array Value}{s:Sl}{x:List UInt8}{h:Hp}{K:Sl→Hp→Prop}{l:List Value}(hz:zc.size=1)(o:Own lo 1 h s l)(hlo:lo≤h.size)
 (hb:(s.len+x.length)*by_≤140737488355328) (hl:s.len+x.length<9223372036854775807)
 (hK:∀ r h',Own lo 1 h' r (l++x.map bv)→r.len=s.len+x.length→Keep lo h h'→(∀ b,b<h.size→(∀ a,s.base=some a→b≠a.block)→h'[b]? = h[b]?)→K r h'):AppS e 1 by_ zc s ⟨x.toArray⟩ h K:=by
 have hs:(ByteArray.mk x.toArray).size=x.length:=by simp[ByteArray.size]
 have hx:((ByteArray.mk x.toArray).extract 0 (ByteArray.mk x.toArray).size).data.map (fun b=>Value.int .u8 (b.toNat:Int))=(x.map bv).toArray:=by
  rw[ByteArray.extract_zero_size]
  show x.toArray.map _=_
  rw[List.map_toArray];rfl
 have c:=App_core (e:=e) (zc:=zc) (n:=x.length) (K:=K) (news:=x.map bv) hz o hlo (by simp) (fun v hv=>by obtain⟨b,_,rfl⟩:=List.mem_map.1 hv;rfl) (fun r h' a b c d _=>hK r h' a b c d)
 unfold AppS
 rw[hs]at *
 rw[hx]
 exact⟨hb,hl,c.1,c.2⟩
theorem say_t{h:Hp}{b:Nat}{p:Value}(r:Row h b [p,.slice Sl.nil.base Sl.nil.len Sl.nil.cap]){lb:Nat}(xs:List ByteArray)(text:List UInt8)
 (hx:∀ (j:Nat) x,xs[j]? = some x→hY h ⟨lb,j,none⟩=some (.string x)) (hlb:lb<h.size) (hn:xs.length≤100) (ht:Lib.join (xs.map (·.data.toList)) [32]=text) (hl:text.length≤1000) :
 HC Tryz.prog 51 #[pv b,.slice (some ⟨lb,0,none⟩) xs.length xs.length] h fun q h'=>q=.tuple #[]∧h.size≤h'.size∧(∀ k,k<h.size→k≠b→h'[k]? = h[k]?)∧
  ∃ o:Sl,Row h' b [p,.slice o.base o.len o.cap]∧o.len=text.length+1∧RdC h' o.base ((text ++ [10]).map bv):=by
 apply wc51 (l:=⟨some ⟨lb,0,none⟩,xs.length,xs.length⟩)
 unfold vc51
 have hb:=r.lt
 have key:=join_t lb 0 xs.length xs ⟨#[32]⟩ (h:=h) (fun j x hj=>by rw[Nat.zero_add];exact hx j x hj) hlb (by omega) (Nat.le_refl _) (by rw[show(ByteArray.mk #[32]).data.toList = [32] from rfl,ht];omega)
 rw[show(ByteArray.mk #[32]).data.toList = [32] from rfl,ht]at key
 refine⟨_,rfl,Sl.nil,r.get (i:=1) rfl,key.mono ?_⟩
 rintro _ h1 ⟨rfl,e1⟩
 refine⟨_,rfl,e1,AppS_own (lo:=h1.size) rfl (Own.nil _ 1 h1) (Nat.le_refl _) (by show(0+_)*1≤_;omega) (by show 0+_<_;omega) ?_⟩
 rintro s1 h2 o1 l1 k1 _
 have e2:Ext h1 h2:=⟨k1.size,fun k hk=>k1.block k hk⟩
 have r2:=(r.ext e1).ext e2
 obtain⟨ok,r3,f3,z3⟩:=r2.set (i:=1) (by simp) (.slice s1.base s1.len s1.cap)
 refine⟨e1.trans e2,_,rfl,ok,_,rfl,s1,r3.get rfl,?_⟩
 have s12:=e1.size
 have s23:=e2.size
 have o3:=o1.eq (h':=hset h2 ((⟨b,0,none⟩:Addr).add 1) (.slice s1.base s1.len s1.cap)) fun a ha=>f3 _ (by have:=(o1.lt ha).1;omega)
 have hl1:s1.len=text.length:=by rw[l1];show 0+_=_;omega
 generalize hh3:hset h2 ((⟨b,0,none⟩:Addr).add 1) (.slice s1.base s1.len s1.cap)=h3 at r3 f3 z3 o3
 refine AppC_new (n:=1) rfl o3 (by omega) rfl (fun v hv=>by simp at hv;subst hv;rfl) (by omega) (by omega) ?_
 rintro s2 h4 o4 l4 k4 _
 have r4:Row h4 b _:=r3.eq (k4.block b (by omega))
 obtain⟨ok4,r5,f5,z5⟩:=r4.set (i:=1) (by simp) (.slice s2.base s2.len s2.cap)
 have k4s:=k4.size
 refine⟨_,rfl,ok4,rfl,by omega,fun k hk hkb=>?_,s2,r5,by omega,?_⟩
 ·rw[f5 k hkb,k4.block k (by omega),f3 k hkb,e2.block k (by omega),e1.block k hk]
 ·have o5:=o4.eq (h':=hset h4 ((⟨b,0,none⟩:Addr).add 1) (.slice s2.base s2.len s2.cap)) fun a ha=>f5 _ (by have:=(o4.lt ha).1;omega)
  have:=o5.rd
  rw[List.map_append]
  exact this
theorem topData_spec(k:Int)(h:Hp):HC Tryz.prog 23 #[.int .i64 k] h (NewB h (blockL 40 k)):=by
 apply wc23
 unfold vc23
 refine(Block_spec 40 k (by omega) h).mono ?_
 rintro _ h1 ⟨u,rfl,g⟩
 exact⟨u,rfl,u,rfl,g⟩
section
variable{G:Gh}{h:Hp}{M N sc:Nat}{X:StD}{c:CSl}{bg:List BgD}{ev:Int}
theorem OpsT.is{s:Sl}{o:OpD}{O:List OpD}(p:OpsT G h s (o::O)):OpIs G h s o.k o.h o.P:=by
 obtain⟨L,h1,h2,h3⟩:=p
 cases L with
 | nil=>cases h1
 | cons x L=>
   simp only[List.map_cons,List.cons.injEq]at h1
   obtain⟨rfl,_⟩:=h1
   have g:∀ j v,j<5→(blkV x.1.k x.1.h x.1.a x.1.n x.2)[j]? = some v →∃ a:Addr,s.base=some a∧hY h (a.add j)=some v:=fun j v hj hv=>h2.rd j v (by
    rw[c5_cons,List.getElem?_append_left (by simp only[blkV,List.length_cons,List.length_nil];omega)];exact hv)
   obtain⟨a,ha,q0⟩:=g 0 _ (by omega) rfl
   obtain⟨a1,ha1,q1⟩:=g 1 _ (by omega) rfl
   obtain⟨a4,ha4,q4⟩:=g 4 _ (by omega) rfl
   rw[ha]at ha1 ha4
   cases ha1;cases ha4
   rw[Addr.add_zero]at q0
   exact⟨a,x.2,ha,q0,q1,q4,h3 x (by simp)⟩
theorem OpsT.cut{s:Sl}{o:OpD}{O:List OpD}(p:OpsT G h s (o::O)):OpsT G h (cutSl s (1:Int) (s.len:Int) (s.cap:Int) 5) O:=by
 obtain⟨L,h1,h2,h3⟩:=p
 cases L with
 | nil=>cases h1
 | cons x L=>
   simp only[List.map_cons,List.cons.injEq]at h1
   obtain⟨rfl,rfl⟩:=h1
   have hl:=h2.len
   rw[c5_length,List.length_cons]at hl
   have:=h2.cut (lo:=1) (hi:=s.len) (m:=s.cap) (by omega) (Nat.le_refl _) h2.cap
   refine⟨L,rfl,?_,fun y hy=>h3 y (List.mem_cons_of_mem _ hy)⟩
   have e:((c5 (x::L)).drop (1*5)).take ((s.len-1)*5)=c5 L:=by
    have hd:(c5 (x::L)).drop (1*5)=c5 L:=by
     rw[c5_cons];exact List.drop_left' rfl
    rw[hd,List.take_of_length_le]
    rw[c5_length];omega
   rw[e]at this
   exact this
def AwS(G:Gh)(h:Hp)(M N sc:Nat)(X:StD)(c:CSl)(bg:List BgD)(ev:Int)(O:List OpD):Prop:=
 ∃ (cl:List CSl) (db sb:Nat) (all:Sl) (bb:Nat→Nat),SdIn G h M N sc X cl bg bg.length ev db sb all bb∧SdOk G.W N X bg 0∧Live X.dv∧cl[0]? = some c∧OpsT G h c.ops O∧c.ops.len=O.length
theorem step_ops:∀ n,¬ sStep (.arr (.ops 0) n):=fun n h=>by simp[sStep,sSt]at h
theorem aw_step(t:HT G h){o:OpD}{O:List OpD}(s:AwS G h M N sc X c bg ev (o::O))(hN:N≤900000)(hM:M+16≤1000000):HC Tryz.prog 24 #[pv sc,.int .i64 (1:Int)] h fun r h'=>∃ (b0 b1 b2 b3:Int) (u:Sl) (e:Int),r=.tuple #[.agg #[.int .i64 b0,.int .i64 b1,.int .i64 b2,.int .i64 b3,.slice u.base u.len u.cap],.int .i64 e]∧∃ (G':Gh) (X':StD) (c' c'':CSl) (bg':List BgD) (okb:Bool),To sStep G h G' h'∧DoEx o.k o.h o.P c X bg (iAdd .i64 ev 1) okb X' bg' c'∧c''.L=c'.L∧
 (okb=true→c''.asked=false∧AwS G' h' (M+16) (N+1) sc X' c'' bg' (iAdd .i64 ev 1) O)∧(okb=false→c''.asked=true∧AwS G' h' (M+16) (N+1) sc X' c'' bg' (iAdd .i64 ev 1) (o::O)):=by
 obtain⟨cl,db,sb,all,bb,x,od,l,hc,ot,hlen⟩:=s
 refine(dStep_spec t x od hN hM 1).mono ?_
 rintro _ h2 ⟨G2,X2,cl2,bg2,all2,bb2,ev2,b0,b1,b2,b3,e,u,rfl,y2,w2,x2,o2,hdv,ex⟩
 obtain⟨rfl,c',c'',okb,hdo,rfl,hL,ht,hf⟩:=ex 0 c o.k o.h o.P rfl hc (by rw[hlen];simp) ot.is
 have hcl:=x.len
 have hc2:(cl.set 0 c'')[0]? = some c'':=List.getElem?_set_self (by omega)
 have ot2:=ot.to (x.cls 0 c hc).ops y2 t step_ops
 refine⟨b0,b1,b2,b3,u,e,rfl,G2,X2,c',c'',bg2,okb,y2,hdo,hL,fun hk=>?_,fun hk=>?_⟩
 ·obtain⟨q1,q2⟩:=ht hk
  refine⟨q2,_,db,sb,all2,bb2,x2,by rw[w2];exact o2,by rw[hdv];exact l,hc2,by rw[q1];exact ot2.cut,?_⟩
  rw[q1,show(cutSl c.ops (1:Int) (c.ops.len:Int) (c.ops.cap:Int) 5).len=c.ops.len-1 from cut_len (lo:=1),hlen];rfl
 ·obtain⟨q1,q2⟩:=hf hk
  exact⟨q2,_,db,sb,all2,bb2,x2,by rw[w2];exact o2,by rw[hdv];exact l,hc2,by rw[q1];exact ot2,by rw[q1];exact hlen⟩
end
def opB:OpD:=⟨1,0,0,0,[]⟩
def putW:List PutD:=[(1,blockL 40 1)]
def opW:OpD:=⟨3,0,0,0,putW⟩
def opC:OpD:=⟨4,0,0,0,[]⟩
def D0:MgrD:=⟨[],[],0,0,0,0,0,false⟩
def D1:MgrD:=⟨[⟨1,0,0,0,[]⟩],[],0,0,0,0,0,false⟩
def D2:MgrD:=⟨[⟨1,0,0,0,putW⟩],[],0,0,0,0,0,false⟩
def D3:MgrD:=⟨[⟨2,1,0,0,putW⟩],[1],0,0,0,0,1,false⟩
def bgA(v:Int):BgD:=⟨1,0,[],1,v⟩
def AwI(G:Gh)(h:Hp)(sc:Nat)(i:Int)(n:Nat):Prop:=
 (i=0∧n=3∧∃ X c,AwS G h 258 193 sc X c [] 0 [opB,opW,opC]∧X.D=D0∧X.num=0∧X.pos=0∧c.L = []∧c.asked=false) ∨
 (i=1∧n=2∧∃ X c,AwS G h 274 194 sc X c [bgA 0] 1 [opW,opC]∧X.D=D1∧X.num=0∧X.pos=0∧c.L = [0]∧c.asked=false) ∨
 (i=2∧n=1∧∃ X c,AwS G h 290 195 sc X c [bgA 0] 2 [opC]∧X.D=D2∧X.num=0∧X.pos=0∧c.L = [0]∧c.asked=false) ∨
 (i=3∧n=0∧∃ X c,AwS G h 306 196 sc X c [bgA 0] 3 [opC]∧X.D=D3∧X.num=0∧X.pos=0∧c.L = [0]∧c.asked=true)
theorem checkW:CheckP 1 [((1:Int),putW)]:=by
 have h1:∀ j,j < [((1:Int),putW)].length→j=0:=fun j hj=>by simp at hj;omega
 refine⟨by omega,by simp,fun j hj=>?_,by simp[blocksN,putW],fun j hj=>?_⟩
 ·obtain rfl:=h1 j hj
  refine⟨by simp[prevT,tm],by simp[tm],by simp[pt,putW],fun k h0 hk=>?_⟩
  simp[pt,putW]at hk;omega
 ·obtain rfl:=h1 j hj
  refine⟨fun h=>by omega,by simp[pt,putW],fun p hp=>?_⟩
  simp[pt,putW]at hp
  subst hp
  exact⟨by omega,by omega,blockL_length _ _⟩
section
variable{G:Gh}{h:Hp}{sc:Nat}
theorem aw_loop(t:HT G h){i:Int}{n:Nat}(s:AwI G h sc i n)(hi:i<3):HC Tryz.prog 24 #[pv sc,.int .i64 (1:Int)] h fun r h'=>∃ (b0 b1 b2 b3:Int) (u:Sl) (e:Int),r=.tuple #[.agg #[.int .i64 b0,.int .i64 b1,.int .i64 b2,.int .i64 b3,.slice u.base u.len u.cap],.int .i64 e]∧∃ G' n',To sStep G h G' h'∧n'<n∧AwI G' h' sc (iAdd .i64 i 1) n':=by
 rcases s with ⟨rfl,rfl,X,c,s,hD,hn,hp,hL,ha⟩ | ⟨rfl,rfl,X,c,s,hD,hn,hp,hL,ha⟩ | ⟨rfl,rfl,X,c,s,hD,hn,hp,hL,ha⟩ | ⟨rfl,_⟩
 ·refine(aw_step t s (by omega) (by omega)).mono ?_
  rintro _ h2 ⟨b0,b1,b2,b3,u,e,rfl,G2,X2,c',c'',bg2,okb,y2,hdo,hcL,ht,_⟩
  obtain⟨rfl,rfl,rfl,hL'⟩:=hdo.1 rfl fun j t hj=>by rw[hD]at hj;simp[D0]at hj
  obtain⟨q1,q2⟩:=ht rfl
  refine⟨b0,b1,b2,b3,u,e,rfl,G2,2,y2,by omega,.inr (.inl ⟨rfl,rfl,{ X with D:=X.D.add },c'',?_,?_,hn,hp,?_,q1⟩)⟩
  ·have e:([] ++ [⟨X.D.txs.length+1,0,[],iAdd .i64 0 1,0⟩]:List BgD) = [bgA 0]:=by rw[hD];rfl
   rw[e]at q2;exact q2
  ·show X.D.add=D1;rw[hD];rfl
  ·rw[hcL,hL',hL];rfl
 ·refine(aw_step t s (by omega) (by omega)).mono ?_
  rintro _ h2 ⟨b0,b1,b2,b3,u,e,rfl,G2,X2,c',c'',bg2,okb,y2,hdo,hcL,ht,_⟩
  obtain⟨hce,rfl⟩:=hdo.2 0 0 (bgA 0) (.inl rfl) rfl (by rw[hL];rfl) rfl (by simp[bgA])
  obtain⟨rfl,rfl,rfl⟩:=(hce 0 ⟨1,0,0,0,[]⟩ rfl (by rw[hD];rfl)).1 rfl rfl rfl 1 (blockL 40 1) rfl (by omega) (blockL_length _ _)
  obtain⟨q1,q2⟩:=ht rfl
  refine⟨b0,b1,b2,b3,u,e,rfl,G2,1,y2,by omega,.inr (.inr (.inl ⟨rfl,rfl,{ X with D:=X.D.set 0 { (⟨1,0,0,0,[]⟩:TxS) with P:=[(1,blockL 40 1)] } },c'',q2,?_,hn,hp,by rw[hcL,hL],q1⟩))⟩
  show X.D.set 0 _=D2
  rw[hD];rfl
 ·refine(aw_step t s (by omega) (by omega)).mono ?_
  rintro _ h2 ⟨b0,b1,b2,b3,u,e,rfl,G2,X2,c',c'',bg2,okb,y2,hdo,hcL,_,hf⟩
  obtain⟨hce,rfl⟩:=hdo.2 0 0 (bgA 0) (.inr rfl) rfl (by rw[hL];rfl) rfl (by simp[bgA])
  obtain⟨rfl,rfl,rfl⟩:=(hce 0 ⟨1,0,0,0,putW⟩ rfl (by rw[hD];rfl)).2.1 rfl ha rfl (by simp[putW]) (by rw[hD];rfl) (by rw[hD];rfl) (by rw[hD];rfl) (by rw[hD];show(0:Int)<_;omega)
  obtain⟨q1,q2⟩:=hf rfl
  refine⟨b0,b1,b2,b3,u,e,rfl,G2,0,y2,by omega,.inr (.inr (.inr ⟨rfl,rfl,{ X with D:={ X.D with txs:=X.D.txs.set 0 { (⟨1,0,0,0,putW⟩:TxS) with state:=2,time:=X.D.given+1 },queue:=X.D.queue ++ [0+1],given:=X.D.given+1 } },c'',q2,?_,hn,hp,by rw[hcL,hL],q1⟩))⟩
  show({ X.D with txs:=X.D.txs.set 0 _,queue:=X.D.queue ++ [0+1],given:=X.D.given+1 }:MgrD)=D3
  rw[hD];rfl
 ·omega
end
theorem awake_spec{V:Hp→Prop}(hV:∀ h h',V h→Ext h h'→V h')(pl:∀ h,V h→HC Tryz.prog 25 #[.string (ByteArray.mk #[115,116,97,116,10])] h fun r h'=>r=.string (ByteArray.mk #[108,97,115,116,32,48,32,111,112,101,110,32,48,32,113,117,101,117,101,32,48,32,98,108,111,99,107,115,32,50,53,56,10])∧Ext h h')(h:Hp)(v:V h) :
 HC Tryz.prog 6 #[] h fun r h'=>r=.bool true∧Ext h h':=by
 apply wc6
 unfold vc6
 refine topBegin_spec.mono ?_
 rintro _ h1 ⟨sc,G1,X1,db1,sb1,rfl,y1,w1,x1,o1,l1,hD1,hn1,hp1,_⟩
 refine⟨_,_,rfl,.no rfl ((topData_spec 1 h1).mono ?_)⟩
 rintro _ h2 ⟨u,rfl,ou,lu,e2⟩
 refine⟨u,rfl,?_⟩
 intro h3 h4
 have e3:Ext h2 h3:=alc_ext _ _ _
 have e4:Ext h3 h4:=alc_ext _ _ _
 have r3:RdC h3 (some (nw h2)) (c2 [((1:Int),u)]):=RdC.alc h2 _ 46
 have r4:RdC h4 (some (nw h3)) (c5 [(opB,Sl.nil),(opW,⟨some (nw h2),1,1⟩),(opC,Sl.nil)]):=RdC.alc h3 _ 58
 have s3:h3.size=h2.size+1:=size_alc _ _ _
 have s4:h4.size=h3.size+1:=size_alc _ _ _
 clear_value h4
 clear_value h3
 have y4:To (fun _=>False) G1 h1 G1 h4:=((e2.trans e3).trans e4).to y1.ht
 have x4:=x1.pure y4
 have s12:=e2.size
 have stab:∀ b,h1.size≤b→b<h4.size→Stab G1 h4 b:=fun b hb hlt=>⟨hlt,by rw[y1.ht.fresh hb];exact id⟩
 have nilP:PutsR (Stab G1 h4) h4 Sl.nil []:=⟨[],rfl,Rd.nil _ _,fun a ha=>(by cases ha),fun x hx=>(by simp at hx)⟩
 have wP:PutsR (Stab G1 h4) h4 ⟨some (nw h2),1,1⟩ putW:=by
  refine⟨[((1,u),blockL 40 1)],rfl,⟨by simp[c2_length],by simp,r3.ext e4⟩,fun a ha _=>?_,fun x hx=>?_⟩
  ·cases ha;exact stab _ (by show h1.size≤h2.size;omega) (by show h2.size<_;omega)
  ·simp only[List.mem_cons,List.not_mem_nil,or_false]at hx
   subst hx
   exact⟨(ou.toRd.ext e3).ext e4,fun a ha _=>stab _ (ou.lt ha).1 (by have:=(ou.lt ha).2;omega)⟩
 have opsR:OpsR (Stab G1 h4) h4 ⟨some (nw h3),3,3⟩ [opB,opW,opC]:=by
  refine⟨[(opB,Sl.nil),(opW,⟨some (nw h2),1,1⟩),(opC,Sl.nil)],rfl,⟨by rw[c5_length];rfl,by simp,r4⟩,fun a ha _=>?_,fun x hx=>?_⟩
  ·cases ha;exact stab _ (by show h1.size≤h3.size;omega) (by show h3.size<_;omega)
  ·simp only[List.mem_cons,List.not_mem_nil,or_false]at hx
   rcases hx with rfl | rfl | rfl
   ·exact⟨nilP,by simp[opB],fun p hp=>by simp[opB]at hp⟩
   ·refine⟨wP,by simp[opW,putW],fun p hp=>?_⟩
    simp[opW,putW]at hp
    subst hp
    show(blockL 40 1).length≤_
    rw[blockL_length];omega
   ·exact⟨nilP,by simp[opC],fun p hp=>by simp[opC]at hp⟩
 refine(dAdd_spec y4.ht x4 1 opsR (by simp)).mono ?_
 rintro _ h5 ⟨G5,e5,cl5,rfl,y5,w5,x5,ex5⟩
 obtain⟨rfl,c',rfl,ot5,hL5,ha5,hl5⟩:=ex5 0 cl0 rfl rfl rfl (by simp)
 have y05:To (fun _=>True) G00 h G5 h5:=((y1.mono fun _ _=>trivial).trans (y4.mono fun _ h=>h.elim)).trans (y5.mono fun _ _=>trivial)
 have s5:AwS G5 h5 258 193 sc X1 c' [] 0 [opB,opW,opC]:=⟨_,db1,sb1,_,_,x5,by rw[w5];exact o1,l1,rfl,ot5,hl5⟩
 refine⟨0,rfl,.no rfl ?_⟩
 refine⟨fun i n h'=>∃ G':Gh,To (fun _=>True) G00 h G' h'∧AwI G' h' sc i n,3,⟨G5,y05,.inl ⟨rfl,rfl,X1,c',s5,hD1,hn1,hp1,hL5,ha5⟩⟩,?_⟩
 rintro _ i n6 h6 ⟨G6,y6,s6⟩
 refine IfB.dec (fun hlt=>?_) fun hge=>?_
 ·refine(aw_loop y6.ht s6 hlt).mono ?_
  rintro _ h7 ⟨b0,b1,b2,b3,u,e,rfl,G7,n7,y7,hn7,s7⟩
  exact⟨b0,b1,b2,b3,u,e,rfl,n7,hn7,G7,y6.trans (y7.mono fun _ _=>trivial),s7⟩
 obtain⟨X,c,⟨cl,db,sb,all,bb,x6,o6,l6,hc6,ot6,hl6⟩,hD,hn,hp,hL,ha⟩:∃ X c,AwS G6 h6 306 196 sc X c [bgA 0] 3 [opC]∧X.D=D3∧X.num=0∧X.pos=0∧c.L = [0]∧c.asked=true:=by
  rcases s6 with ⟨rfl,_⟩ | ⟨rfl,_⟩ | ⟨rfl,_⟩ | ⟨_,_,s⟩
  ·omega
  ·omega
  ·omega
  ·exact s
 refine(dFlush_spec y6.ht x6 o6 (by omega) (by omega)).mono ?_
 rintro _ h7 ⟨G7,c7,X7,rfl,y7,x7,_,lv7⟩
 obtain⟨o7,l7,f7⟩:=lv7 l6
 have hw:waitT X.D = [((1:Int),putW)]:=by rw[hD];rfl
 obtain⟨rfl,hD7⟩:c7=0∧X7.D=doneD 0 X.D 1:=by
  rcases f7 with ⟨_,_,hq⟩ | ⟨k,hk1,hk2,_,hDk,hz⟩
  ·rw[hD]at hq;cases hq
  ·rw[hD]at hk2
   have hk2:k≤1:=hk2
   obtain rfl:k=1:=by omega
   have hc0:=hz (by rw[hw,hn];exact checkW) (by rw[hw,hp];simp[blocksN,putW])
   rw[hc0]at hDk
   exact⟨hc0,hDk⟩
 refine⟨_,rfl,.no rfl ?_⟩
 have ot7:=ot6.to (x6.cls 0 c hc6).ops y7 y6.ht step_ops
 have s7:AwS G7 h7 (306+128) (196+1) sc X7 c [bgA 0] (iAdd .i64 3 1) [opC]:=⟨cl,db,sb,all,bb,x7,o7,l7,hc6,ot7,hl6⟩
 have tx7:∃ tx:TxS,X7.D.txs[0]? = some tx∧tx.state=3:=by
  refine⟨_,by rw[hD7];exact doneD_tx (N:=196) (k:=1) (code:=0) o6.sr.mg (j:=0) (t:=⟨2,1,0,0,putW⟩) (by rw[hD];rfl),?_⟩
  rw[if_pos (by rw[hD];simp[D3])]
  rfl
 obtain⟨tx,htx,hst⟩:=tx7
 refine(aw_step y7.ht s7 (by omega) (by omega)).mono ?_
 rintro _ h8 ⟨b0,b1,b2,b3,u8,e8,rfl,G8,X8,c',c'',bg8,okb,y8,hdo,hcL,ht8,_⟩
 obtain⟨hce,rfl⟩:=hdo.2 0 0 (bgA 0) (.inr rfl) rfl (by rw[hL];rfl) rfl (by simp[bgA])
 obtain⟨rfl,rfl,rfl⟩:=(hce 0 tx rfl htx).2.2 rfl ha hst
 obtain⟨_,cl8,db8,sb8,all8,bb8,x8,o8,l8,hc8,ot8,hl8⟩:=ht8 rfl
 refine⟨b0,b1,b2,b3,u8,e8,rfl,(dHist_spec y8.ht x8 (by simp) (by omega) fun i b hb h0=>o8.tx hb h0).mono ?_⟩
 rintro _ h9 ⟨G9,hs,L,rfl,y9,w9,hr9,hL9,hsee⟩
 have hlen:=hr9.len
 have hL9:L.length=1:=hL9
 obtain⟨y,q1,q2,_,q4⟩:=hsee 0 _ rfl
 have hy:L[0]'(by omega)=y:=by rw[List.getElem?_eq_getElem (by omega)]at q1;exact Option.some.inj q1
 have hy3:y.st=3:=by
  rw[q2]
  unfold seeSt
  rw[if_neg (by simp[bgA])]
  show((X8.D.at_ (0+1)).state:Int)=3
  rw[MgrD.at_get htx,hst];rfl
 have y09:To (fun _=>True) G00 h G9 h9:=((y6.trans (y7.mono fun _ _=>trivial)).trans (y8.mono fun _ _=>trivial)).trans (y9.mono fun _ h=>h.elim)
 refine⟨hs,rfl,.yes (by rw[hlen,hL9];rfl) ?_⟩
 refine hr9.ix 0 rfl (by omega) fun a c0 _ _ _=>⟨_,c0,.yes (by rw[hy,hy3];rfl) ?_⟩
 refine hr9.ix 0 rfl (by omega) fun a _ c4 _ _=>⟨_,c4,.yes (by rw[hy,q4];rfl) ?_⟩
 refine(pl h9 (hV _ _ v (ext00 y09))).mono ?_
 rintro _ h10 ⟨rfl,e10⟩
 exact⟨_,rfl,by simp,(ext00 y09).trans e10⟩
theorem strF(a b:List UInt8)(h:(a == b)=false):((ByteArray.mk a.toArray).toList ==(ByteArray.mk b.toArray).toList)=false:=by rw[baList,baList];exact h
theorem strT(a b:List UInt8)(h:(a == b)=true):((ByteArray.mk a.toArray).toList ==(ByteArray.mk b.toArray).toList)=true:=by rw[baList,baList];exact h
def answerL:List UInt8:=[108,97,115,116,32,48,32,111,112,101,110,32,48,32,113,117,101,117,101,32,48,32,98,108,111,99,107,115,32,50,53,56]
def PlAt(G:Gh)(h0 h:Hp)(b:Nat)(o:Sl):Prop:=
 To (fun _=>True) G00 h0 G h∧h0.size≤b∧G.k b=.one 30∧∃ (sc:Nat) (X:StD) (db sb:Nat),Row h b [pv sc,.slice o.base o.len o.cap]∧SdIn G h 258 193 sc X (List.replicate 8 cl0) [] 0 0 db sb Sl.nil id∧SdOk G.W 193 X [] 0∧X.D=⟨[],[],0,0,0,0,0,false⟩
def PlDone(h0 h:Hp)(b:Nat):Prop:=Ext h0 h∧∃ (p:Value) (o:Sl),Row h b [p,.slice o.base o.len o.cap]∧o.len=answerL.length+1∧RdC h o.base ((answerL ++ [10]).map bv)
section
variable{G:Gh}{h0 h:Hp}{b:Nat}{o:Sl}
theorem PlAt.ext{h':Hp}(x:PlAt G h0 h b o)(e:Ext h h'):PlAt G h0 h' b o:=by
 obtain⟨y,hb,kd,sc,X,db,sb,r,x,w,hD⟩:=x
 exact⟨y.ext e,hb,kd,sc,X,db,sb,r.ext e,x.pure (e.to y.ht),w,hD⟩
theorem PlAt.old(x:PlAt G h0 h b o):Ext h0 h:=⟨x.1.size,fun k hk=>x.1.fr k hk fun q=>q.1⟩
theorem sBlocks_spec{M sb:Nat}{X:StD}{db lb mb:Nat}{ts:Sl}{em bk am:Nat}{q:Sl}{tb:Nat→Nat}(x:StIn G h M sb X db lb mb ts em bk am q tb)(hn:X.dv.n=8)(hs:X.dv.size=96) :
 HC Tryz.prog 150 #[pv sb] h fun r h'=>r=.int .i64 258∧Ext h h':=by
 apply wc150
 unfold vc150
 refine .no rfl ⟨_,rfl,_,x.row.get0 rfl,.no rfl ⟨_,rfl,_,x.row.get0 rfl,(Geometry_spec x.dev).mono ?_⟩⟩
 rintro _ h1 ⟨rfl,e1⟩
 rw[hn,hs]
 refine⟨_,_,rfl,(spCap_spec h1).mono ?_⟩
 rintro _ h2 ⟨rfl,e2⟩
 exact⟨_,rfl,rfl,e1.trans e2⟩
theorem StIn.ext'{h':Hp}{M sb:Nat}{X:StD}{db lb mb:Nat}{ts:Sl}{em bk am:Nat}{q:Sl}{tb:Nat→Nat}(x:StIn G h M sb X db lb mb ts em bk am q tb)(t:HT G h)(e:Ext h h'):StIn G h' M sb X db lb mb ts em bk am q tb:=
 x.to (S:=fun _=>False) (e.to t) (Nat.le_refl _) fun _ _ h=>h
theorem bare_t(x:PlAt G h0 h b Sl.nil)(v:LibV h0):HC Tryz.prog 98 #[pv b,.string (ByteArray.mk #[115,116,97,116])] h fun r h'=>r=.bool true∧PlDone h0 h' b:=by
 have x0:=x
 obtain⟨y,hb,kd,sc,X,db,sb,r,sd,w,hD⟩:=x
 apply wc98
 unfold vc98
 refine .no (strF _ _ (by decide)) (.no (strF _ _ (by decide)) (.no (strF _ _ (by decide)) (.no (strF _ _ (by decide)) (.no (strF _ _ (by decide)) (.no (strF _ _ (by decide)) (.no (strF _ _ (by decide)) (.yes (strT _ _ (by decide)) ?_)))))))
 refine⟨_,rfl,_,r.get0 rfl,(dStore_spec sd).mono ?_⟩
 rintro _ _ ⟨rfl,rfl⟩
 obtain⟨lb,mb,ts,em,bk,am,q,tb,st⟩:=sd.st
 refine⟨_,rfl,(sLast_spec st).mono ?_⟩
 rintro _ _ ⟨rfl,rfl⟩
 rw[hD]
 have v0:=LibV.ext _ _ v x0.old
 refine⟨_,rfl,(itoa_t 0 (by omega) (by omega) v0).mono ?_⟩
 rintro _ h1 ⟨rfl,e1⟩
 have x1:=x0.ext e1
 have st1:=st.ext' y.ht e1
 refine⟨_,rfl,(sOpen_spec x1.1.ht st1 (by rw[hD];simp)).mono ?_⟩
 rintro _ h2 ⟨c,rfl,e2,hc⟩
 obtain rfl:c=0:=hc [] List.nodup_nil fun k=>⟨fun hk=>(by cases hk),fun⟨j,t,hj,_⟩=>by rw[hD]at hj;simp at hj⟩
 have e12:=e1.trans e2
 have x2:=x0.ext e12
 have st2:=st.ext' y.ht e12
 refine⟨_,rfl,(itoa_t 0 (by omega) (by omega) (LibV.ext _ _ v x2.old)).mono ?_⟩
 rintro _ h3 ⟨rfl,e3⟩
 have e13:=e12.trans e3
 have st3:=st.ext' y.ht e13
 refine⟨_,rfl,(sQueue_spec st3).mono ?_⟩
 rintro _ _ ⟨rfl,rfl⟩
 rw[hD]
 refine⟨_,rfl,(itoa_t 0 (by omega) (by omega) (LibV.ext _ _ v (x0.ext e13).old)).mono ?_⟩
 rintro _ h4 ⟨rfl,e4⟩
 have e14:=e13.trans e4
 refine⟨_,rfl,(sBlocks_spec (st.ext' y.ht e14) w.sr.n w.sr.size).mono ?_⟩
 rintro _ h5 ⟨rfl,e5⟩
 have e15:=e14.trans e5
 refine⟨_,rfl,(itoa_t 258 (by omega) (by omega) (LibV.ext _ _ v (x0.ext e15).old)).mono ?_⟩
 rintro _ h6 ⟨rfl,e6⟩
 have e16:=e15.trans e6
 refine⟨_,rfl,?_⟩
 intro h7
 have e7:Ext h6 h7:=alc_ext _ _ _
 have e17:=e16.trans e7
 have r7:=r.ext e17
 have rr:Row h7 h6.size _:=Row.alc h6 _ _
 have s7:h7.size=h6.size+1:=size_alc _ _ _
 refine(say_t r7 (lb:=h6.size) [ByteArray.mk #[108,97,115,116],⟨(Lib.itoa 0).toArray⟩,ByteArray.mk #[111,112,101,110],⟨(Lib.itoa 0).toArray⟩,ByteArray.mk #[113,117,101,117,101],⟨(Lib.itoa 0).toArray⟩,ByteArray.mk #[98,108,111,99,107,115],⟨(Lib.itoa 258).toArray⟩] answerL
  (fun j x hj=>?_) (by omega) (by simp) (by kernel_rfl) (by simp[answerL])).mono ?_
 ·have hj':([ByteArray.mk #[108,97,115,116],⟨(Lib.itoa 0).toArray⟩,ByteArray.mk #[111,112,101,110],⟨(Lib.itoa 0).toArray⟩,ByteArray.mk #[113,117,101,117,101],⟨(Lib.itoa 0).toArray⟩,ByteArray.mk #[98,108,111,99,107,115],⟨(Lib.itoa 258).toArray⟩].map Value.string)[j]? = some (.string x):=by rw[List.getElem?_map,hj];rfl
  have g:=rr.get (i:=j) hj'
  rw[add_none,Nat.zero_add]at g
  exact g
 ·rintro _ h8 ⟨rfl,s8,f8,o8,r8,l8,d8⟩
  refine⟨rfl,rfl,?_,_,o8,r8,l8,d8⟩
  have e07:=x0.old.trans e17
  have:=e07.size
  exact⟨by omega,fun k hk=>by rw[f8 k (by omega) (by omega),e07.block k hk]⟩
theorem line_t(x:PlAt G h0 h b Sl.nil)(v:LibV h0):HC Tryz.prog 50 #[pv b,.string (ByteArray.mk #[115,116,97,116])] h fun r h'=>r=.bool true∧PlDone h0 h' b:=by
 apply wc50
 unfold vc50
 refine(cutPrefix_t _ _ h).mono ?_
 rintro _ h ⟨rfl,rfl⟩
 refine⟨_,_,rfl,.no (by decide) ?_⟩
 have c0:Lib.countB (ByteArray.mk #[115,116,97,116]) (ByteArray.mk #[32])=0:=by kernel_rfl
 have key:=split_t (ByteArray.mk #[115,116,97,116]) (ByteArray.mk #[32]) (LibV.ext _ _ v x.old) (by decide) (by decide)
 rw[c0]at key
 refine key.mono ?_
 rintro _ h1 ⟨rfl,rfl⟩
 have e1:Ext h _:=alc_ext h ((Lib.splitB (ByteArray.mk #[32]) 0 0 (ByteArray.mk #[115,116,97,116])).map Value.string) 9
 have x1:=x.ext e1
 have rr:=Row.alc h ((Lib.splitB (ByteArray.mk #[32]) 0 0 (ByteArray.mk #[115,116,97,116])).map Value.string) 9
 refine⟨⟨some ⟨h.size,0,none⟩,1,1⟩,rfl,by omega,by show(1:Int)≤((1:Nat):Int);omega,Int.le_refl _,Int.le_refl _,(numbers_t _ _ _).mono ?_⟩
 rintro _ _ ⟨rfl,rfl⟩
 refine⟨Sl.nil,true,rfl,.no rfl ⟨_,rfl,by omega,by show(0:Int)<((1:Nat):Int);omega,_,rr.get (i:=0) rfl,?_⟩⟩
 refine .no (strF _ _ (by decide)) (.no (strF _ _ (by decide)) (.yes rfl ((bare_t x1 v).mono ?_)))
 rintro _ h2 ⟨rfl,hd⟩
 exact⟨_,rfl,rfl,hd⟩
end
theorem Play_spec{h:Hp}(v:LibV h):HC Tryz.prog 25 #[.string (ByteArray.mk #[115,116,97,116,10])] h fun r h'=>r=.string (ByteArray.mk #[108,97,115,116,32,48,32,111,112,101,110,32,48,32,113,117,101,117,101,32,48,32,98,108,111,99,107,115,32,50,53,56,10])∧Ext h h':=by
 apply wc25
 unfold vc25
 intro h1
 obtain⟨G1,y1,w1,k1,r1⟩:=alcLoc (ht00 h) [.pointer none,.slice Sl.nil.base Sl.nil.len Sl.nil.cap] 100
 refine(dNewG_spec y1.ht fun a l hw=>by rw[w1]at hw;exact hw).mono ?_
 rintro _ h2 ⟨sc,G2,X,db,sb,rfl,y2,w2,x2,o2,_,hD,_⟩
 have k2:=y2.kd k1 (by simp)
 have r2:=y2.rowK r1 k1 (by simp[sSt])
 obtain⟨ok,_,y3,r3⟩:=locSet y2.ht k2 r2 (i:=0) (by simp) (pv sc)
 rw[Addr.add_zero]at ok y3 r3
 refine⟨_,_,rfl,_,rfl,ok,?_⟩
 have y03:To (fun _=>True) G00 h G2 (hset h2 ⟨h.size,0,none⟩ (pv sc)):=((y1.mono fun _ h=>h.elim).trans (y2.mono fun _ _=>trivial)).trans (y3.mono fun _ _=>trivial)
 have pl:PlAt G2 h (hset h2 ⟨h.size,0,none⟩ (pv sc)) h.size Sl.nil:=⟨y03,Nat.le_refl _,y3.kd k2 (by simp),sc,X,db,sb,r3,x2.loc y3,o2,hD⟩
 obtain⟨h3,eh3⟩:∃ h3,h3=hset h2 (nw h) (.pointer (some ⟨sc,0,none⟩)):=⟨_,rfl⟩
 rw[← eh3]
 replace pl:PlAt G2 h h3 h.size Sl.nil:=by rw[eh3];exact pl
 clear eh3
 refine .no (by decide) ((count_t _ _ h3).mono ?_)
 rintro _ h3 ⟨rfl,rfl⟩
 refine⟨_,rfl,.yes (by rw[show(ByteArray.mk #[115,116,97,116,10]).toList = [115,116,97,116,10] from baList _,show(ByteArray.mk #[]).toList = [] from baList []];rfl) ⟨4,10,by decide,rfl,.no (by decide) (.no (by decide) ?_)⟩⟩
 refine⟨fun t n h'=>(t=ByteArray.mk #[115,116,97,116,10]∧n=1∧h'=h3)∨(t=ByteArray.mk #[]∧n=0∧PlDone h h' h.size),1,.inl ⟨rfl,rfl,rfl⟩,?_⟩
 rintro _ t n h4 (⟨rfl,rfl,rfl⟩ | ⟨rfl,rfl,hd⟩)
 ·refine .yes (by rw[show(ByteArray.mk #[115,116,97,116,10]).toList = [115,116,97,116,10] from baList _,show(ByteArray.mk #[]).toList = [] from baList []];rfl) ?_
  refine(cut_t _ _ (LibV.ext _ _ v pl.old) (by decide)).mono ?_
  rintro _ _ ⟨rfl,rfl⟩
  refine⟨ByteArray.mk #[115,116,97,116],ByteArray.mk #[],true,by kernel_rfl,.no (strF [115,116,97,116] [] (by decide)) ⟨0,115,rfl,rfl,.no (by decide) ((line_t pl v).mono ?_)⟩⟩
  rintro _ h5 ⟨rfl,hd⟩
  exact⟨_,rfl,.no rfl ⟨0,by omega,.inr ⟨rfl,rfl,hd⟩⟩⟩
 ·refine .no (by simp) ?_
  obtain⟨e,p,o,r,hl,hr⟩:=hd
  refine⟨_,rfl,o,r.get rfl,answerL ++ [10],by rw[hl];simp,hr,rfl,e⟩
section
open Go.ChangeShapes Go.WideShapes Go.ChangeAt Go.RowKit
section
variable{H:Type}{enc:TypeId × Value→H}{P:Program}{w:World}{base:Nat}
theorem rd_c2{h:Hp}{a:Addr}{l:List (Int × Sl)}(hg:∀ i (hi:i<l.length),hY h (a.add (i*2))=some (.int .i64 l[i].1)∧hY h ((a.add (i*2)).add 1)=some (slV l[i].2)):RdC h (some a) (c2 l):=by
 intro i v hv
 refine⟨a,rfl,?_⟩
 obtain⟨k,hk⟩:∃ k,i=k*2∨i=k*2+1:=⟨i / 2,by omega⟩
 rcases hk with rfl | rfl
 ·rw[c2_get0]at hv
  by_cases hkl:k<l.length
  ·rw[List.getElem?_eq_getElem hkl]at hv
   obtain rfl:Value.int .i64 l[k].1=v:=Option.some.inj hv
   exact(hg k hkl).1
  ·rw[List.getElem?_eq_none (by omega)]at hv;cases hv
 ·rw[c2_get1]at hv
  by_cases hkl:k<l.length
  ·rw[List.getElem?_eq_getElem hkl]at hv
   obtain rfl:slV l[k].2=v:=Option.some.inj hv
   have:=(hg k hkl).2
   rwa[add_add]at this
  ·rw[List.getElem?_eq_none (by omega)]at hv;cases hv
theorem pairs_of{β:Type}[Inhabited β]{Q:Sl→β→Prop}{t e ti tf:TypeId}{f0 f1:Field}(ht:P.underlying t=some (.slice e))(he:P.underlying e=some (.struct #[f0,f1]))(hf0:(f0.type,f0.offset)=(ti,0))(hf1:(f1.type,f1.offset)=(tf,1))
 (hi:P.underlying ti=some (.int .i64)) (hc:P.cellsOf e=2) (hci:P.cellsOf ti=1) (hcf:P.cellsOf tf=1)
 (sub:∀ fuel v x,DataW.trod enc P w base (fun _=>true) true fuel tf [v]=some x →∃ s b,v=slV s∧Q s b)
 {fuel:Nat} {v:Value} {x:DataW H × List MemPlace} (h:DataW.trod enc P w base (fun _=>true) true fuel t [v]=some x) :
 ∃ (s:Sl) (L:List ((Int × Sl) × β)),v=slV s∧L.length=s.len∧s.cap≤maxLen∧Rd 2 w.heap s (c2 (L.map (·.1)))∧(∀ a,s.base=some a→s.len≠0→a.block<w.heap.size)∧∀ x∈L,(Lit.int .i64 x.1.1).wf=true∧Q x.1.2 x.2:=by
 rcases Deep.open_slice ht h with ⟨hcs,_⟩ | ⟨a,len,cap,m,n,D,Pl,hcs,_,hl,hm,hmm,_,hx⟩
 ·obtain rfl:v=.slice none 0 0:=by simpa using hcs
  exact⟨⟨none,0,0⟩,[],rfl,rfl,by simp[maxLen],⟨rfl,Nat.le_refl _,RdC.nil _ _⟩,fun a ha=>(by cases ha),fun x hx=>by simp at hx⟩
 ·obtain rfl:v=.slice (some a) len cap:=by simpa using hcs
  have hm':m=cap:=by simpa using hmm
  simp only[Prod.mk.injEq]at hf0 hf1
  obtain⟨g,hg⟩:=Deep.choose_lt (α:=(Int × Sl) × β) (n:=len) (p:=fun i p=>hY w.heap (a.add (i*2))=some (.int .i64 p.1.1)∧hY w.heap ((a.add (i*2)).add 1)=some (slV p.1.2)∧(Lit.int .i64 p.1.1).wf=true∧Q p.1.2 p.2) (fun i hi'=>by
   obtain⟨cs,hcs,htr⟩:=hx i (by omega)
   rw[hc]at hcs
   obtain⟨_,hlen,hget⟩:=World.cells?_some hcs
   obtain⟨xs,n',_,_,_,hxl,hxs⟩:=DataW.trod_struct he htr
   have hxl':xs.length=2:=hxl
   have t0:=hxs 0 f0 rfl
   have t1:=hxs 1 f1 rfl
   rw[hf0.1,hf0.2,hci,List.getElem?_eq_getElem (by omega)]at t0
   rw[hf1.1,hf1.2,hcf,List.getElem?_eq_getElem (by omega)]at t1
   match cs,hlen with
   | [c0,c1],_=>
     simp only[List.drop_zero,List.take_succ_cons,List.take_zero,List.drop_succ_cons]at t0 t1
     obtain⟨p,hp,_,wp⟩:=DataW.trod_int hi t0
     obtain⟨s,b,hv1,hQ⟩:=sub _ _ _ t1
     simp only[List.cons.injEq,and_true]at hp
     subst hp hv1
     have g0:=hget 0 (by omega)
     have g1:=hget 1 (by omega)
     rw[hcell_heap]at g0 g1
     refine⟨((p,s),b),?_,?_,wp,hQ⟩
     ·have:(a.add (i*2)).add 0=a.add (i*2):=by rw[add_add];rfl
      rw[this]at g0;rw[g0];rfl
     ·rw[g1];rfl)
  have hcells:∀ i,∀ hi:i<len,((((List.range len).map g).map (·.1))[i]'(by simpa using hi))=(g i).1:=fun i hi=>by simp
  have rd:RdC w.heap (some a) (c2 (((List.range len).map g).map (·.1))):=rd_c2 fun i hi=>by
   have hi':i<len:=by simpa using hi
   rw[hcells i hi']
   exact⟨(hg i hi').1,(hg i hi').2.1⟩
  refine⟨⟨some a,len,cap⟩,(List.range len).map g,rfl,by simp,hm,⟨by rw[c2_length];simp,hl,rd⟩,?_,?_⟩
  ·intro a' ha' h0
   cases ha'
   have:=hcell_lt (hg 0 (by show 0<len;have:len≠0:=h0;omega)).1
   rwa[add_block]at this
  ·intro p hp
   obtain⟨i,hi',rfl⟩:=List.mem_map.1 hp
   have:=hg i (by simpa using hi')
   exact⟨this.2.2.1,this.2.2.2⟩
theorem bytes_of{t e:TypeId}(ht:P.underlying t=some (.slice e))(he:P.underlying e=some (.int .u8))(hc:P.cellsOf e=1){fuel:Nat}{v:Value}{x:DataW H × List MemPlace}(h:DataW.trod enc P w base (fun _=>true) true fuel t [v]=some x) :
 ∃ (s:Sl) (l:List UInt8),v=slV s∧(Rd 1 w.heap s (l.map bv)∧(∀ a,s.base=some a→s.len≠0→a.block<w.heap.size)∧l.length≤maxLen):=by
 obtain⟨s,l,rfl,hI⟩:=ints_of ht he hc h
 obtain⟨bs,hb⟩:=hI.bytes
 have hl:=hb.len
 refine⟨s,bs,rfl,⟨by simpa using hb.len,hb.cap,hb.rd⟩,fun a ha h0=>?_,by have:=hb.cap;have:=hb.max;omega⟩
 exact hb.rd.lt (by intro e;rw[List.map_eq_nil_iff]at e;subst e;simp at hl;omega) ha
end
def InPuts(h:Hp)(s:Sl)(P:List PutD):Prop:=PutsR (· < h.size) h s P∧P.length≤maxLen∧∀ y∈P,y.2.length≤maxLen
theorem inPuts_of{h:Hp}{s:Sl}{L:List ((Int × Sl) × List UInt8)}(hl:L.length=s.len)(hm:s.cap≤maxLen)(r:Rd 2 h s (c2 (L.map (·.1))))(hb:∀ a,s.base=some a→s.len≠0→a.block<h.size)
 (he:∀ x∈L,(Lit.int .i64 x.1.1).wf=true∧Rd 1 h x.1.2 (x.2.map bv)∧(∀ a,x.1.2.base=some a→x.1.2.len≠0→a.block<h.size)∧x.2.length≤maxLen):InPuts h s (L.map fun x=>(x.1.1,x.2)):=by
 refine⟨⟨L,rfl,r,hb,fun x hx=>⟨(he x hx).2.1,(he x hx).2.2.1⟩⟩,by have:=r.cap;simp;omega,fun y hy=>?_⟩
 obtain⟨x,hx,rfl⟩:=List.mem_map.1 hy
 exact(he x hx).2.2.2
end
section
open Go.ChangeShapes Go.WideShapes Go.ChangeAt Go.RowKit
section
variable{H:Type}{enc:TypeId × Value→H}{P:Program}{w:World}{base:Nat}
theorem flat_len{α:Type}{ev:α→List Value}{sz:Nat}(hen:∀ y,(ev y).length=sz):∀ l:List α,(l.flatMap ev).length=l.length*sz
 | []=>by simp
 | x::r=>by rw[List.flatMap_cons,List.length_append,flat_len hen r,hen,List.length_cons,Nat.succ_mul];omega
theorem flat_get{α:Type}{ev:α→List Value}{sz:Nat}(hen:∀ y,(ev y).length=sz):∀ (l:List α) (i j:Nat),j<sz→(l.flatMap ev)[i*sz+j]? =(l[i]?).bind fun x=>(ev x)[j]?
 | [],i,j,_=>by simp
 | x::r,0,j,h=>by rw[List.flatMap_cons,List.getElem?_append_left (by rw[hen];omega)];simp
 | x::r,i+1,j,h=>by
   rw[List.flatMap_cons,List.getElem?_append_right (by rw[hen,Nat.succ_mul];omega)]
   rw[show(i+1)*sz+j-(ev x).length=i*sz+j by rw[hen,Nat.succ_mul];omega,flat_get hen r i j h]
   rfl
theorem rd_flat{α:Type}{ev:α→List Value}{sz:Nat}(h0:0<sz)(hen:∀ y,(ev y).length=sz){h:Hp}{a:Addr}{l:List α}(hg:∀ i (hi:i<l.length) j v,(ev l[i])[j]? = some v→hY h ((a.add (i*sz)).add j)=some v):RdC h (some a) (l.flatMap ev):=by
 intro i v hv
 refine⟨a,rfl,?_⟩
 have e:i=i / sz*sz+i % sz:=by rw[Nat.mul_comm];exact(Nat.div_add_mod i sz).symm
 rw[e,flat_get hen l _ _ (Nat.mod_lt _ h0)]at hv
 by_cases hk:i / sz<l.length
 ·rw[List.getElem?_eq_getElem hk]at hv
  have:=hg _ hk _ v hv
  rw[add_add,← e]at this
  exact this
 ·rw[List.getElem?_eq_none (by omega)]at hv;cases hv
theorem sls_of{α:Type}[Inhabited α]{ev:α→List Value}{Q:α→Prop}{t e:TypeId}{sz:Nat}(ht:P.underlying t=some (.slice e))(hc:P.cellsOf e=sz)(h0:0<sz)(hen:∀ y,(ev y).length=sz)
 (el:∀ fuel cs x,cs.length=sz→DataW.trod enc P w base (fun _=>true) true fuel e cs=some x →∃ y,cs=ev y∧Q y)
 {fuel:Nat} {v:Value} {x:DataW H × List MemPlace} (h:DataW.trod enc P w base (fun _=>true) true fuel t [v]=some x) :
 ∃ (s:Sl) (L:List α),v=slV s∧L.length=s.len∧s.cap≤maxLen∧Rd sz w.heap s (L.flatMap ev)∧(∀ a,s.base=some a→s.len≠0→a.block<w.heap.size)∧∀ y∈L,Q y:=by
 rcases Deep.open_slice ht h with ⟨hcs,_⟩ | ⟨a,len,cap,m,n,D,Pl,hcs,_,hl,hm,hmm,_,hx⟩
 ·obtain rfl:v=.slice none 0 0:=by simpa using hcs
  exact⟨⟨none,0,0⟩,[],rfl,rfl,by simp[maxLen],⟨by simp,Nat.le_refl _,RdC.nil _ _⟩,fun a ha=>(by cases ha),fun x hx=>by simp at hx⟩
 ·obtain rfl:v=.slice (some a) len cap:=by simpa using hcs
  have hm':m=cap:=by simpa using hmm
  obtain⟨g,hg⟩:=Deep.choose_lt (α:=α) (n:=len) (p:=fun i p=>(∀ j v,(ev p)[j]? = some v→hY w.heap ((a.add (i*sz)).add j)=some v)∧Q p) (fun i hi=>by
   obtain⟨cs,hcs,htr⟩:=hx i (by omega)
   rw[hc]at hcs
   obtain⟨_,hlen,hget⟩:=World.cells?_some hcs
   obtain⟨y,rfl,hQ⟩:=el _ _ _ hlen htr
   refine⟨y,fun j v hj=>?_,hQ⟩
   have hjl:j<sz:=by
    have:=List.getElem?_eq_some_iff.1 hj
    obtain⟨h1,_⟩:=this
    rw[hen]at h1;exact h1
   have g:=hget j hjl
   rw[hcell_heap,hj]at g
   exact g)
  have hget:∀ i,∀ hi:i<len,(((List.range len).map g)[i]'(by simpa using hi))=g i:=fun i hi=>by simp
  have rd:RdC w.heap (some a) (((List.range len).map g).flatMap ev):=rd_flat h0 hen fun i hi j v hv=>by
   have hi':i<len:=by simpa using hi
   rw[hget i hi']at hv
   exact(hg i hi').1 j v hv
  refine⟨⟨some a,len,cap⟩,(List.range len).map g,rfl,by simp,hm,⟨by rw[flat_len hen];simp,hl,rd⟩,?_,?_⟩
  ·intro a' ha' hn
   cases ha'
   have h00:0<(ev (g 0)).length:=by rw[hen];exact h0
   have:=hcell_lt ((hg 0 (by show 0<len;have:len≠0:=hn;omega)).1 0 _ (List.getElem?_eq_getElem h00))
   rwa[add_block,add_block]at this
  ·intro p hp
   obtain⟨i,hi',rfl⟩:=List.mem_map.1 hp
   exact(hg i (by simpa using hi')).2
end
end
section
open Go.ChangeShapes Go.WideShapes Go.ChangeAt Go.RowKit
set_option maxRecDepth 20000
instance:Inhabited OpD:=⟨⟨0,0,0,0,[]⟩⟩
instance:Inhabited StepD:=⟨⟨0,0,[],0,[],[]⟩⟩
instance:Inhabited StSl:=⟨⟨Sl.nil,Sl.nil,Sl.nil⟩⟩
def OpsM(O:List OpD):Prop:=O.length≤maxLen∧∀ o∈O,o.P.length≤maxLen∧∀ q∈o.P,q.2.length≤maxLen
section
variable{H:Type}{enc:TypeId × Value→H}{w:World}{base:Nat}
theorem putsG{fuel:Nat}{v:Value}{x:DataW H × List MemPlace}(h:DataW.trod enc Tryz.prog w base (fun _=>true) true fuel 39 [v]=some x):∃ (s:Sl) (P:List PutD),v=slV s∧InPuts w.heap s P:=by
 obtain⟨s,L,rfl,hl,hm,r,hb,he⟩:=pairs_of (Q:=fun s (l:List UInt8)=>Rd 1 w.heap s (l.map bv)∧(∀ a,s.base=some a→s.len≠0→a.block<w.heap.size)∧l.length≤maxLen) Tryz.underlying39 Tryz.underlying46 rfl rfl Tryz.underlying3 (by kernel_rfl) (by kernel_rfl) (by kernel_rfl)
  (fun fuel v x h=>bytes_of Tryz.underlying44 Tryz.underlying5 (by kernel_rfl) h) h
 exact⟨s,_,rfl,inPuts_of hl hm r hb he⟩
theorem intsG{fuel:Nat}{v:Value}{x:DataW H × List MemPlace}(h:DataW.trod enc Tryz.prog w base (fun _=>true) true fuel 29 [v]=some x):∃ (s:Sl) (l:List Int),v=slV s∧IntsR (· < w.heap.size) w.heap s l∧l.length≤maxLen:=by
 obtain⟨s,l,rfl,hI⟩:=ints_of Tryz.underlying29 Tryz.underlying3 (by kernel_rfl) h
 have hl:=hI.len
 refine⟨s,l,rfl,⟨⟨by simpa using hI.len,hI.cap,hI.rd⟩,fun a ha hn=>?_⟩,by have:=hI.cap;have:=hI.max;omega⟩
 exact hI.rd.lt (by intro e;rw[List.map_eq_nil_iff]at e;subst e;simp at hl;omega) ha
theorem opsG{fuel:Nat}{v:Value}{x:DataW H × List MemPlace}(h:DataW.trod enc Tryz.prog w base (fun _=>true) true fuel 28 [v]=some x):∃ (s:Sl) (O:List OpD),v=slV s∧OpsR0 (· < w.heap.size) w.heap s O∧OpsM O:=by
 have c3:Tryz.prog.cellsOf 3=1:=by kernel_rfl
 have c39:Tryz.prog.cellsOf 39=1:=by kernel_rfl
 obtain⟨s,L,rfl,hl,hm,r,hb,he⟩:=sls_of (α:=OpD × Sl) (ev:=fun x=>blkV x.1.k x.1.h x.1.a x.1.n x.2) (Q:=fun x=>InPuts w.heap x.2 x.1.P) (sz:=5) Tryz.underlying28 (by kernel_rfl) (by omega) (fun _=>rfl)
  (fun fuel cs x hcl htr=>by
   obtain⟨xs,n',_,_,_,hxl,hxs⟩:=DataW.trod_struct Tryz.underlying58 htr
   have hxl':xs.length=5:=hxl
   have t0:=hxs 0 _ rfl
   have t1:=hxs 1 _ rfl
   have t2:=hxs 2 _ rfl
   have t3:=hxs 3 _ rfl
   have t4:=hxs 4 _ rfl
   change DataW.trod enc Tryz.prog w base (fun _=>true) true _ 3 ((cs.drop 0).take (Tryz.prog.cellsOf 3))=xs[0]? at t0
   change DataW.trod enc Tryz.prog w base (fun _=>true) true _ 3 ((cs.drop 1).take (Tryz.prog.cellsOf 3))=xs[1]? at t1
   change DataW.trod enc Tryz.prog w base (fun _=>true) true _ 3 ((cs.drop 2).take (Tryz.prog.cellsOf 3))=xs[2]? at t2
   change DataW.trod enc Tryz.prog w base (fun _=>true) true _ 3 ((cs.drop 3).take (Tryz.prog.cellsOf 3))=xs[3]? at t3
   change DataW.trod enc Tryz.prog w base (fun _=>true) true _ 39 ((cs.drop 4).take (Tryz.prog.cellsOf 39))=xs[4]? at t4
   rw[c3,List.getElem?_eq_getElem (by omega)]at t0 t1 t2 t3
   rw[c39,List.getElem?_eq_getElem (by omega)]at t4
   match cs,hcl with
   | [k0,k1,k2,k3,k4],_=>
     simp only[List.drop_zero,List.take_succ_cons,List.take_zero,List.drop_succ_cons]at t0 t1 t2 t3 t4
     obtain⟨p0,h0,_,_⟩:=DataW.trod_int Tryz.underlying3 t0
     obtain⟨p1,h1,_,_⟩:=DataW.trod_int Tryz.underlying3 t1
     obtain⟨p2,h2,_,_⟩:=DataW.trod_int Tryz.underlying3 t2
     obtain⟨p3,h3,_,_⟩:=DataW.trod_int Tryz.underlying3 t3
     obtain⟨s,P,hs,hP⟩:=putsG t4
     simp only[List.cons.injEq,and_true]at h0 h1 h2 h3
     subst h0 h1 h2 h3 hs
     exact⟨(⟨p0,p1,p2,p3,P⟩,s),rfl,hP⟩) h
 have hcap:=r.cap
 refine⟨s,L.map (·.1),rfl,⟨L,rfl,r,hb,fun x hx=>(he x hx).1⟩,by simp only[List.length_map];omega,fun o ho=>?_⟩
 obtain⟨y,hy,rfl⟩:=List.mem_map.1 ho
 exact(he y hy).2
theorem stepsG{fuel:Nat}{v:Value}{x:DataW H × List MemPlace}(h:DataW.trod enc Tryz.prog w base (fun _=>true) true fuel 22 [v]=some x):∃ (s:Sl) (T:List StepD),v=slV s∧StepsR (· < w.heap.size) w.heap s T∧StepsM T:=by
 have c3:Tryz.prog.cellsOf 3=1:=by kernel_rfl
 have c28:Tryz.prog.cellsOf 28=1:=by kernel_rfl
 have c29:Tryz.prog.cellsOf 29=1:=by kernel_rfl
 obtain⟨s,L,rfl,hl,hm,r,hb,he⟩:=sls_of (α:=StepD × StSl) (ev:=stepV) (Q:=fun x=>(OpsR0 (· < w.heap.size) w.heap x.2.ops x.1.O∧IntsR (· < w.heap.size) w.heap x.2.pk x.1.pk∧IntsR (· < w.heap.size) w.heap x.2.tn x.1.tn)∧OpsM x.1.O∧x.1.pk.length≤maxLen∧x.1.tn.length≤maxLen) (sz:=6) Tryz.underlying22 (by kernel_rfl) (by omega) (fun _=>rfl)
  (fun fuel cs x hcl htr=>by
   obtain⟨xs,n',_,_,_,hxl,hxs⟩:=DataW.trod_struct Tryz.underlying31 htr
   have hxl':xs.length=6:=hxl
   have t0:=hxs 0 _ rfl
   have t1:=hxs 1 _ rfl
   have t2:=hxs 2 _ rfl
   have t3:=hxs 3 _ rfl
   have t4:=hxs 4 _ rfl
   have t5:=hxs 5 _ rfl
   change DataW.trod enc Tryz.prog w base (fun _=>true) true _ 3 ((cs.drop 0).take (Tryz.prog.cellsOf 3))=xs[0]? at t0
   change DataW.trod enc Tryz.prog w base (fun _=>true) true _ 3 ((cs.drop 1).take (Tryz.prog.cellsOf 3))=xs[1]? at t1
   change DataW.trod enc Tryz.prog w base (fun _=>true) true _ 28 ((cs.drop 2).take (Tryz.prog.cellsOf 28))=xs[2]? at t2
   change DataW.trod enc Tryz.prog w base (fun _=>true) true _ 3 ((cs.drop 3).take (Tryz.prog.cellsOf 3))=xs[3]? at t3
   change DataW.trod enc Tryz.prog w base (fun _=>true) true _ 29 ((cs.drop 4).take (Tryz.prog.cellsOf 29))=xs[4]? at t4
   change DataW.trod enc Tryz.prog w base (fun _=>true) true _ 29 ((cs.drop 5).take (Tryz.prog.cellsOf 29))=xs[5]? at t5
   rw[c3,List.getElem?_eq_getElem (by omega)]at t0 t1 t3
   rw[c28,List.getElem?_eq_getElem (by omega)]at t2
   rw[c29,List.getElem?_eq_getElem (by omega)]at t4 t5
   match cs,hcl with
   | [k0,k1,k2,k3,k4,k5],_=>
     simp only[List.drop_zero,List.take_succ_cons,List.take_zero,List.drop_succ_cons]at t0 t1 t2 t3 t4 t5
     obtain⟨p0,h0,_,_⟩:=DataW.trod_int Tryz.underlying3 t0
     obtain⟨p1,h1,_,_⟩:=DataW.trod_int Tryz.underlying3 t1
     obtain⟨s2,O,h2,hO,mO⟩:=opsG t2
     obtain⟨p3,h3,_,_⟩:=DataW.trod_int Tryz.underlying3 t3
     obtain⟨s4,l4,h4,i4,m4⟩:=intsG t4
     obtain⟨s5,l5,h5,i5,m5⟩:=intsG t5
     simp only[List.cons.injEq,and_true]at h0 h1 h3
     subst h0 h1 h2 h3 h4 h5
     exact⟨(⟨p0,p1,O,p3,l4,l5⟩,⟨s2,s4,s5⟩),rfl,⟨hO,i4,i5⟩,mO,m4,m5⟩) h
 have hcap:=r.cap
 refine⟨s,L.map (·.1),rfl,⟨L,rfl,r,hb,fun x hx=>(he x hx).1⟩,by simp only[List.length_map];omega,fun t ht=>?_⟩
 obtain⟨y,hy,rfl⟩:=List.mem_map.1 ht
 have:=(he y hy).2
 exact⟨this.1.1,this.2.1,this.2.2,this.1.2⟩
theorem in_steps{v:Value}{d:DataW H}{ps:List MemPlace}{r:Reach}{b0:Nat}(hval:Value.okWide Tryz.prog w r b0 22 v)(hj:DataW.Trod enc Tryz.prog w base (fun _=>true) true 22 v d ps) :
 ∃ (s:Sl) (T:List StepD),v=.slice s.base s.len s.cap∧StepsR (· < w.heap.size) w.heap s T∧StepsM T:=by
 obtain⟨a,len,cap,rfl⟩:=WideShapes.okWide_slice Tryz.underlying22 hval
 obtain⟨fuel,hfu⟩:=hj
 have hfu':DataW.trod enc Tryz.prog w base (fun _=>true) true fuel 22 [.slice a len cap]=some (d,ps):=hfu
 obtain⟨s,T,hv,h1,h2⟩:=stepsG hfu'
 exact⟨s,T,hv,h1,h2⟩
end
end
section
open Go.ChangeShapes Go.WideShapes Go.ChangeAt Go.RowKit
theorem handed_and_shaped{H:Type}{enc:TypeId × Value→H}{a:Assume}{C:Checked}{os:Os}{f:FuncId}{fn:Func}{s:ChangeSpec}{conds:List PathCond}{apart fresh handsOn again:Bool}{X:World→Array Value→Prop}
 (hX:∀ (w w':World) (args:Array Value),w.heap=w'.heap→X w args→X w' args)
 (own:ownKnob C.prog.godebug=none) (started:os.Started) (noInit:C.prog.inits.idxOf? f=none) (hfn:C.prog.funcs[f]? = some fn)
 (witness:∃ (w:World) (tape:Tape) (i:Input),w.os=os∧(w.forCall tape i).Shaped C.prog∧i.vars = []∧Input.okWide C.prog (w.forCall tape i) .any w.heap.size f i∧
  ((s.pre enc C.prog fn conds apart (w.forCall tape i).memory i.args∧X (w.forCall tape i).memory i.args)∧sizedMet enc C.prog fn (OpenSpec.ofChange s) apart (w.forCall tape i).memory i.args)∧a.holds C.prog (lone (Frame.enter C.prog f i.args .normal) [] (w.forCall tape i)))
 (contract:∀ (W:World) (base:Nat) (args:Array Value) (ds gs:List (DataW H)) (before:List MemPlace),
  (∀ (j:Nat) t v,fn.params[j]? = some t→args[j]? = some v→Value.okWide C.prog W .any base t v) →
  DataW.Whole enc C.prog fn.params.toList s.vars apart W args.toList ds gs before→X W args→W.ShapedOpen C.prog →
  Calls C.prog f args W fun e W'=>∃ v,e=.returned v∧s.post enc C.prog fn apart fresh handsOn again W args v W') :
 ReturnsInHanded a C os f .any (fun w args=>(s.pre enc C.prog fn conds apart w args∧X w args)∧sizedMet enc C.prog fn (OpenSpec.ofChange s) apart w args) (s.post enc C.prog fn apart fresh handsOn again):=by
 refine returnsInHanded_of_calls own started noInit witness ?_
 intro w tape i _ hsh _ hok hpre _
 obtain⟨_,_,_,fn',hfn',_,_,_,_,hval⟩:=hok
 have e:fn'=fn:=Option.some.inj (hfn'.symm.trans hfn)
 subst e
 obtain⟨⟨⟨ds,gs,before,hw,hc⟩,hx⟩,hz⟩:=hpre
 have hw':=DataW.Whole.of_heap (w':=w.forCall tape i) (by rfl) hw
 refine(contract (w.forCall tape i) w.heap.size i.args ds gs before hval hw' (hX _ _ _ (by rfl) hx) hsh).mono fun e W' ⟨v,he,hp⟩=>?_
 subst he
 exact ChangeSpec.post_blind hp
theorem powD:(Rows.laid_internal_strconv_uint64pow10:DataW Unit)=Lib.tabData .u64 Lib.pow10Tab:=by kernel_rfl
theorem libV_of{l:List (String × DataW Unit)}{W:World}(hp:(l.all fun x=>x.2.handleName?.isNone)=true)(hm:("internal/strconv.uint64pow10",(Rows.laid_internal_strconv_uint64pow10:DataW Unit))∈l)(hL:laidMetH Tryz.prog l W)(hsh:W.ShapedOpen Tryz.prog):LibV W.heap:=by
 refine⟨laysM145.s1_3 W hsh,?_⟩
 rw[MakeChecks.laidMetH_plain _ _ _ hp]at hL
 obtain⟨g,t,cs,fuel,p,hg,ht,hv,hd⟩:=Lib.laidMet.reads hL hm
 obtain rfl:=Option.some.inj ((show Tryz.prog.globalNamed "internal/strconv.uint64pow10" = some 6 by kernel_rfl).symm.trans hg)
 obtain rfl:=Option.some.inj ((show(Tryz.prog.globals[6]?).map (·.type)=some 419 by kernel_rfl).symm.trans ht)
 rw[powD]at hd
 have hc:=Lib.cells_of_tab Tryz.underlying419 Tryz.underlying196 (by kernel_rfl) (by kernel_rfl) hd
 have e:cs=(Lib.pow10Tab.map fun z=>Value.int .u64 z).toArray:=by rw[← hc]
 subst e
 unfold World.var? at hv
 rw[hg]at hv
 simp only[Option.bind_some]at hv
 split at hv
 ·rename_i cs' ty f hb
  cases hv
  exact⟨ty,f,hb⟩
 ·cases hv
theorem wit(os:Os) :
 laidMetH Tryz.prog Rows.topEndsRow.laid ((World.laidAll Tryz.prog os Rows.topEndsRow.laid).forCall (fun _ _=>0) ⟨#[],#[.slice none 0 0],[]⟩).memory:=by
 rw[MakeChecks.laidMetH_plain _ _ _ (by kernel_rfl)];exact laidMet_laidAll _ (by kernel_rfl) (by kernel_rfl)
theorem witShaped(os:Os):((World.laidAll Tryz.prog os Rows.topEndsRow.laid).forCall (fun _ _=>0) ⟨#[],#[.slice none 0 0],[]⟩).Shaped Tryz.prog:=World.shaped_of_ZipB (by kernel_rfl) (by kernel_rfl)
end
end Go.Proofs.YtdpdkpfnfllipaaGreatDoor
