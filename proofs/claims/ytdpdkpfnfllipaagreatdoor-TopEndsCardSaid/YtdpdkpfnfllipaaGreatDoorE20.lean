/- A part of the proof, no condition. -/
import Derived.Test.YtdpdkpfnfllipaaGreatDoorE5
import Derived.Test.YtdpdkpfnfllipaaGreatDoorE14
import Derived.Test.YtdpdkpfnfllipaaGreatDoorE19
set_option linter.unusedVariables false
set_option linter.unusedSimpArgs false
namespace Go.Proofs.YtdpdkpfnfllipaaGreatDoor
structure OpD where
 k:Int
 h:Int
 a:Int
 n:Int
 P:List PutD
def c5(l:List (OpD × Sl)):List Value:=l.flatMap fun x=>blkV x.1.k x.1.h x.1.a x.1.n x.2
theorem c5_cons(x:OpD × Sl)(r:List (OpD × Sl)):c5 (x::r)=blkV x.1.k x.1.h x.1.a x.1.n x.2++c5 r:=rfl
theorem c5_append(a b:List (OpD × Sl)):c5 (a++b)=c5 a++c5 b:=by simp[c5]
theorem c5_length:∀ l:List (OpD × Sl),(c5 l).length=l.length*5
 | []=>rfl
 | x::r=>by rw[c5_cons,List.length_append,c5_length r];simp only[blkV,List.length_cons,List.length_nil];omega
theorem c5_get:∀ (l:List (OpD × Sl)) (i j:Nat),j<5→(c5 l)[i*5+j]? =(l[i]?).bind fun x=>(blkV x.1.k x.1.h x.1.a x.1.n x.2)[j]?
 | [],i,j,_=>by simp[c5]
 | x::r,0,j,h=>by rw[c5_cons,List.getElem?_append_left (by simp only[blkV,List.length_cons,List.length_nil];omega)];simp
 | x::r,i+1,j,h=>by
   rw[c5_cons,List.getElem?_append_right (by simp only[blkV,List.length_cons,List.length_nil];omega)]
   rw[show(i+1)*5+j-(blkV x.1.k x.1.h x.1.a x.1.n x.2).length=i*5+j by simp only[blkV,List.length_cons,List.length_nil];omega,c5_get r i j h]
   rfl
def OpsR(B:Nat→Prop)(h:Hp)(s:Sl)(O:List OpD):Prop:=
 ∃ L:List (OpD × Sl),O=L.map (·.1)∧Rd 5 h s (c5 L)∧(∀ a,s.base=some a→s.len≠0→B a.block)∧∀ x∈L,PutsR B h x.2 x.1.P∧PutsB x.1.P
theorem OpsR.eq{B:Nat→Prop}{h h':Hp}{s:Sl}{O:List OpD}(p:OpsR B h s O)(e:∀ b,B b→h'[b]? = h[b]?):OpsR B h' s O:=by
 obtain⟨L,h1,h2,h3,h4⟩:=p
 exact⟨L,h1,h2.mv h3 e,h3,fun x hx=>⟨(h4 x hx).1.eq e,(h4 x hx).2⟩⟩
theorem OpsR.mono{B B':Nat→Prop}{h:Hp}{s:Sl}{O:List OpD}(p:OpsR B h s O)(hb:∀ b,B b→B' b):OpsR B' h s O:=by
 obtain⟨L,h1,h2,h3,h4⟩:=p
 exact⟨L,h1,h2,fun a ha hn=>hb _ (h3 a ha hn),fun x hx=>⟨(h4 x hx).1.mono hb,(h4 x hx).2⟩⟩
theorem OpsR.to{S:Kd→Prop}{A B:Gh}{a b:Hp}(x:To S A a B b){s:Sl}{O:List OpD}(p:OpsR (Stab A a) a s O):OpsR (Stab B b) b s O:=
 (p.eq fun k hk=>(x.stab hk).1).mono fun k hk=>(x.stab hk).2
theorem OpsR.len{B:Nat→Prop}{h:Hp}{s:Sl}{O:List OpD}(p:OpsR B h s O):s.len=O.length:=by
 obtain⟨L,rfl,h2,_⟩:=p
 have:=h2.len
 rw[c5_length]at this
 simp;omega
theorem OpsR.ix{B:Nat→Prop}{h:Hp}{s:Sl}{O:List OpD}(p:OpsR B h s O){i:Int}(k:Nat)(hi:i=k)(hk:k<O.length){K:Addr→Prop}
 (hK:∀ a d,hY h (a.add (i.toNat*5))=some (.int .i64 O[k].k)→hY h ((a.add (i.toNat*5)).add 1)=some (.int .i64 O[k].h)→hY h ((a.add (i.toNat*5)).add 2)=some (.int .i64 O[k].a)→hY h ((a.add (i.toNat*5)).add 3)=some (.int .i64 O[k].n)→hY h ((a.add (i.toNat*5)).add 4)=some (.slice d.base d.len d.cap)→PutsR B h d O[k].P→PutsB O[k].P→K a):∃ a:Addr,s.base=some a∧0≤i∧i<(s.len:Int)∧K a:=by
 have hl:=p.len
 obtain⟨L,rfl,h2,_,h4⟩:=p
 subst hi
 have hkL:k<L.length:=by simpa using hk
 have g:∀ j,j<5→(c5 L)[k*5+j]? =(blkV L[k].1.k L[k].1.h L[k].1.a L[k].1.n L[k].2)[j]?:=fun j hj=>by rw[c5_get L k j hj,List.getElem?_eq_getElem hkL];rfl
 have cell:∀ j v,j<5→(blkV L[k].1.k L[k].1.h L[k].1.a L[k].1.n L[k].2)[j]? = some v →∃ a:Addr,s.base=some a∧hY h ((a.add (((k:Int)).toNat*5)).add j)=some v:=fun j v hj hv=>by
  obtain⟨a,ha,hc⟩:=h2.rd (k*5+j) v (by rw[g j hj];exact hv)
  exact⟨a,ha,by rw[Int.toNat_natCast,add_add];exact hc⟩
 obtain⟨a,ha,q0⟩:=cell 0 _ (by omega) rfl
 obtain⟨a1,ha1,q1⟩:=cell 1 _ (by omega) rfl
 obtain⟨a2,ha2,q2⟩:=cell 2 _ (by omega) rfl
 obtain⟨a3,ha3,q3⟩:=cell 3 _ (by omega) rfl
 obtain⟨a4,ha4,q4⟩:=cell 4 _ (by omega) rfl
 rw[ha]at ha1 ha2 ha3 ha4
 cases ha1;cases ha2;cases ha3;cases ha4
 rw[Addr.add_zero]at q0
 have hm:=h4 _ (List.getElem_mem hkL)
 refine⟨a,ha,by omega,by omega,hK a L[k].2 ?_ ?_ ?_ ?_ q4 ?_ ?_⟩
 ·simpa using q0
 ·simpa using q1
 ·simpa using q2
 ·simpa using q3
 ·simpa using hm.1
 ·simpa using hm.2
def OpsT(G:Gh)(h:Hp)(s:Sl)(O:List OpD):Prop:=
 ∃ L:List (OpD × Sl),O=L.map (·.1)∧Rd 5 h s (c5 L)∧∀ x∈L,SlP G x.2 x.1.P
def sOps:Kd→Prop:=fun q=>∃ n,q=.arr (.ops 0) n
def sAdd(k:Kd):Prop:=k=.one 1∨sOps k
theorem OpsT.to{S:Kd→Prop}{G G':Gh}{h h':Hp}{s:Sl}{O:List OpD}(p:OpsT G h s O)(sl:SlA G (.ops 0) s)(y:To S G h G' h')(t:HT G h)(hS:∀ n,¬ S (.arr (.ops 0) n)):OpsT G' h' s O:=by
 obtain⟨L,h1,h2,h3⟩:=p
 refine⟨L,h1,h2.mv (B:=fun b=>∃ n,G.k b=.arr (.ops 0) n) (fun a ha hn=>?_) (fun b hb=>?_),fun x hx=>(h3 x hx).mono y.le⟩
 ·obtain⟨_,⟨hb,hc⟩ | ⟨b,o,N,hb,hk,_⟩⟩:=sl
  ·rw[hb]at ha;cases ha
  ·rw[hb]at ha;cases ha;exact⟨N,hk⟩
 ·obtain⟨n,hn⟩:=hb
  exact y.fr b (t.dom b (by rw[hn];simp)) (by rw[hn];exact fun hh=>hS n hh.2)
section
variable{G:Gh}{h:Hp}{M N sc:Nat}{X:StD}{cl:List CSl}{bg:List BgD}{na base:Nat}{ev:Int}{db sb:Nat}{all:Sl}{bb:Nat→Nat}
theorem dAdd_spec(t:HT G h)(x:SdIn G h M N sc X cl bg na ev db sb all bb)(k:Int){l:Sl}{O:List OpD}(p:OpsR (Stab G h) h l O)(hO:O.length≤1000000):HC Tryz.prog 22 #[pv sc,.int .i64 k,.slice l.base l.len l.cap] h fun r h'=>∃ (G':Gh) (e:Int) (cl':List CSl),r=.int .i64 e∧To sAdd G h G' h'∧G'.W=G.W∧SdIn G' h' M N sc X cl' bg na ev db sb all bb∧
 (∀ (i:Nat) (c:CSl),k=((i+1:Nat):Int)→cl[i]? = some c→c.ops.len=0→O.length≤200→e=0∧∃ c',cl'=cl.set i c'∧OpsT G' h' c'.ops O∧c'.L=c.L∧c'.asked=c.asked∧c'.ops.len=O.length):=by
 apply wc22
 unfold vc22
 refine(dClient_spec x k).mono ?_
 rintro rc h1 ⟨hh,hcl⟩
 obtain rfl:=hh.symm
 have hlO:=p.len
 have hl8:=x.len
 rcases hcl with ⟨rfl,hno⟩ | ⟨i,c,rfl,hi,hc,rfl⟩
 ·exact⟨_,rfl,.yes rfl ⟨G,1,cl,rfl,.refl t,rfl,x,fun i c hk hc=>by have:=x.lt hc;omega⟩⟩
 have ck:=x.cls i c hc
 have hc200:=ck.len
 have e200:iSub .i64 (200:Int) (c.ops.len:Int)=200-(c.ops.len:Int):=iSub64 (by omega)
 refine⟨_,rfl,.no rfl ⟨_,rfl,c.ops,x.cell0 hc,?_⟩⟩
 rw[e200]
 refine IfB.dec (fun hbig=>?_) fun hfit=>?_
 ·exact⟨G,7,cl,rfl,.refl t,rfl,x,fun i' c' hk hc' h0 hO2=>by
   obtain rfl:i'=i:=by omega
   rw[hc]at hc';cases hc';omega⟩
 refine⟨fun q n h'=>∃ (j:Nat) (G':Gh) (c':CSl),q=j∧n+j=O.length∧To sAdd G h G' h'∧G'.W=G.W∧SdIn G' h' M N sc X (cl.set i c') bg na ev db sb all bb∧c'.ops.len=c.ops.len+j∧c'.L=c.L∧c'.asked=c.asked∧(c.ops.len=0→OpsT G' h' c'.ops (O.take j)),O.length,
  ⟨0,G,c,rfl,rfl,.refl t,rfl,by rw[set_same hc];exact x,rfl,rfl,rfl,fun h0=>⟨[],by simp,⟨by rw[h0];rfl,ck.ops.1,RdC.nil _ _⟩,fun x hx=>by simp at hx⟩⟩,?_⟩
 rintro _ _ n2 h2 ⟨j,G2,c2',rfl,hn2,y2,w2,x2,hlen2,hL2,hA2,ht2⟩
 have hc2:(cl.set i c2')[i]? = some c2':=List.getElem?_set_self (by omega)
 refine IfB.dec (fun hlt=>?_) fun hge=>?_
 ·have hj:j<O.length:=by omega
  refine(p.to y2).ix j rfl hj fun a d q0 q1 q2 q3 q4 pd pb=>⟨_,_,_,_,d,q0,q1,q2,q3,q4,?_⟩
  intro h3
  have e3:Ext h2 h3:=alc_ext _ _ _
  have s3:h3.size=h2.size+1:=size_alc _ _ _
  have r3:Row h3 h2.size [.int .i64 (0:Int),.int .i64 (0:Int),.int .i64 (0:Int),.int .i64 (0:Int),.slice Sl.nil.base Sl.nil.len Sl.nil.cap]:=Row.alc _ _ _
  refine r3.put (vs:=blkV O[j].k O[j].h O[j].a O[j].n d) rfl (blkV_ok _ _ _ _ _) fun h4 r4 s4 o4=>?_
  have e24:Ext h2 h4:=⟨by omega,fun b hb=>by rw[o4 b (by omega),e3.block b hb]⟩
  have y24:To (fun _=>False) G2 h2 G2 h4:=e24.to y2.ht
  have x4:=x2.pure y24
  have k4:G2.k h2.size=.any:=y2.ht.fresh (Nat.le_refl _)
  have fs:kf G2 sOps sc=true:=kf_yes (by rw[x4.kd];rintro⟨n,e⟩;cases e)
  have fl:kf G2 sOps h2.size=true:=kf_yes (by rw[k4];rintro⟨n,e⟩;cases e)
  have cR:hY (filt (kf G2 sOps) h4) (clA sc i)=some (.slice c2'.ops.base c2'.ops.len c2'.ops.cap):=(hcell_eq (filt_at fs)).trans (x4.cell0 hc2)
  have lR:Row (filt (kf G2 sOps) h4) h2.size (blkV O[j].k O[j].h O[j].a O[j].n d):=r4.filt fl
  refine⟨filt (kf G2 sOps) h4,sub_kf _ _ _,_,rfl,c2'.ops,cR,lR.get5 ((dOwn_spec y24.ht _ _ _ _ (pd.to y24) pb).mono ?_)⟩
  rintro _ h5 ⟨G5,s5,rfl,y5,w5,sp5⟩
  have e5:=y5.toExt
  refine⟨_,_,_,_,s5,rfl,sub_filt fun b hb _=>e5.block b hb,?_⟩
  intro h6
  have x5:=x4.pure y5
  have ck5:=x5.cls i c2' hc2
  refine⟨sub_filt fun b hb _=>by rw[show h6[b]? = h5[b]? from alc_old _ _ _ (Nat.lt_of_lt_of_le hb e5.size),e5.block b hb],?_⟩
  obtain⟨lx,rlx,_⟩:=ck5.ops.all y5.ht
  have okE5:okE G5 (.ops 0) (blkV O[j].k O[j].h O[j].a O[j].n s5):=⟨_,_,_,_,s5,O[j].P,rfl,sp5,pb⟩
  refine AppC.mono ((AppC_arr1 (S:=sOps) (a := .ops 0) y5.ht rfl ck5.ops okE5 (by omega) (by omega) (fun n=>⟨n,rfl⟩) (K:=fun r h'=>∃ G',To sOps G5 h5 G' h'∧SlA G' (.ops 0) r∧r.len=c2'.ops.len+1∧G'.W=G5.W) fun r h' G' y sl hl w=>⟨G',y,sl,hl,w⟩).and (AppC_rd1 (a := .ops 0) y5.ht ck5.ops okE5 (by omega) (by omega) rlx)) ?_
  rintro r7 h7 ⟨⟨G7,y7,sl7,l7,w7⟩,rd7⟩
  have x7:=x5.to y7 (Nat.le_refl _) (Nat.le_refl _) (fun q hq hS=>by
   obtain⟨n,rfl⟩:=hS
   rcases hq with (hq | hq | hq) | hq <;> first | exact hq | cases hq) (fun q _ hq hS=>by obtain⟨n,rfl⟩:=hS;exact hq _ _ rfl)
  have ck7:=x7.cls i c2' hc2
  obtain⟨ok8,y8,x8⟩:=x7.cset y7.ht hc2 (j:=0) (by omega) (v := .slice r7.base r7.len r7.cap) (c':={ c2' with ops:=r7 }) rfl ⟨sl7,by show r7.len≤200;omega,fun _=>by show 1≤r7.len;omega,ck7.beg,ck7.L,ck7.ans,ck7.ansN,ck7.LN⟩
  rw[Addr.add_zero]at ok8 y8 x8
  rw[List.set_set]at x8
  refine⟨sub_filt fun b hb hQ=>?_,_,rfl,ok8,n2-1,by omega,j+1,G7,{ c2' with ops:=r7 },by rw[iAdd64 (by omega)];push_cast;rfl,by omega,?_,w7.trans (w5.trans w2),x8,by show r7.len=_;omega,hL2,hA2,fun h0=>?_⟩
  ·rw[y7.fr b (Nat.lt_of_lt_of_le hb e5.size) fun hh=>?_,e5.block b hb]
   rw[y5.old b hb]at hh
   simp[kf]at hQ
   exact hQ hh.1 hh.2
  ·exact(((y2.trans (y24.mono fun _ h=>h.elim)).trans (y5.mono fun _ h=>h.elim)).trans (y7.mono fun _ h=>.inr h)).trans (y8.mono fun _ h=>.inl h)
  ·have q2:=ht2 h0
   have q5:=(q2.to (x2.cls i c2' hc2).ops y24 y2.ht fun _ h=>h).to (x4.cls i c2' hc2).ops y5 y24.ht fun _ h=>h
   obtain⟨TL,hTL,rTL,sTL⟩:=q5
   have hlx:lx=c5 TL:=rlx.rd.uniq rTL.rd (by have:=rlx.len;have:=rTL.len;simp only[AK.sz]at *;omega)
   rw[hlx]at rd7
   have q7:OpsT G7 h7 r7 (O.take (j+1)):=by
    refine⟨TL ++ [(O[j],s5)],by rw[List.map_append,← hTL,List.take_succ_eq_append_getElem hj];rfl,by rw[c5_append,show c5 [(O[j],s5)]=blkV O[j].k O[j].h O[j].a O[j].n s5 from by simp[c5]];exact rd7,fun z hz=>?_⟩
    rcases List.mem_append.1 hz with hz | hz
    ·exact(sTL z hz).mono y7.le
    ·simp only[List.mem_cons,List.not_mem_nil,or_false]at hz
     subst hz;exact sp5.mono y7.le
   exact q7.to sl7 y8 y7.ht fun n=>by simp
 ·obtain rfl:j=O.length:=by omega
  rw[List.take_length]at ht2
  refine⟨G2,0,cl.set i c2',rfl,y2,w2,x2,fun i' c' hk hc' h0 _=>?_⟩
  obtain rfl:i'=i:=by omega
  rw[hc]at hc';cases hc'
  exact⟨rfl,c2',rfl,ht2 h0,hL2,hA2,by omega⟩
end
def G00:Gh:=⟨fun _=>.any,fun _=>0,fun _ _=>False⟩
theorem ht00(h:Hp):HT G00 h:=⟨fun b hb=>absurd rfl hb,fun _ _=>rfl,fun b l hb=>(by cases hb),fun b L hb=>(by cases hb),fun b a N hb=>(by cases hb)⟩
theorem mt_new{W:Int→List UInt8→Prop}{d:Dv}(hd:d=Dv.new 8 96)(w:d.Wf)(hW:WOk W)(N:Nat):MtOk W N 1 0 [] d:=by
 subst hd
 exact⟨new_live 8 96,w,rfl,rfl,fun j=>by rw[Dv.new_z];rfl,SlInv.new (fun j _ _=>by rw[Dv.new_z]) (by omega) (by omega),Nat.zero_le _,.inl rfl,fun m _ p hp=>by rw[Dv.new_z]at hp;simp at hp,hW⟩
def cl0:CSl:=⟨Sl.nil,Sl.nil,Sl.nil,false,[]⟩
theorem dNewG_spec{G:Gh}{h:Hp}(t:HT G h)(hG:∀ a l,¬ G.W a l):HC Tryz.prog 26 #[.agg #[.int .i64 (8:Int),.int .i64 (96:Int)]] h fun r h'=>∃ (sc:Nat) (G':Gh) (X:StD) (db sb:Nat),r=.tuple #[pv sc,.int .i64 0]∧To sSt G h G' h'∧G'.W=G.W∧SdIn G' h' 258 193 sc X (List.replicate 8 cl0) [] 0 0 db sb Sl.nil id∧SdOk G'.W 193 X [] 0∧Live X.dv∧X.D=⟨[],[],0,0,0,0,0,false⟩∧X.num=0∧X.pos=0∧X.count=0:=by
 apply wc26
 unfold vc26
 intro h1
 have e1:Ext h h1:=alc_ext _ _ _
 have r1:Row h1 h.size [.int .i64 (8:Int),.int .i64 (96:Int)]:=Row.alc _ _ _
 refine⟨_,_,r1.get0 rfl,r1.get rfl,(New_spec _ _ h1).mono ?_⟩
 rintro _ h2 ⟨e2,⟨hno,_⟩ | ⟨_,F,b,rfl,x2⟩⟩
 ·exact absurd ⟨by omega,by omega⟩ hno
 have t1:=t.ext e1
 obtain⟨G2,y2,w2,dv2⟩:=newDev t1 e2 x2
 have y02:To (fun _=>False) G h G2 h2:=(e1.to t).trans y2
 have hW:WOk G2.W:=fun a l hw=>by rw[w2]at hw;exact(hG _ _ hw).elim
 refine⟨_,_,rfl,.no rfl ((sMount_spec y2.ht dv2 (N:=192) (mt_new rfl dv2.1 hW 192) (by omega) (by omega)).mono ?_)⟩
 rintro _ h3 ⟨sb,G3,X,last,rfl,y3,w3,s3,o3,l3,hD,hz⟩
 obtain⟨rfl,hn,hp,hcn⟩:=hz rfl fun m _=>by show((Dv.new 8 96).z (6+m)).rows = [];rw[Dv.new_z]
 refine⟨_,_,rfl,.no rfl ?_⟩
 intro h4
 have e4:Ext h3 h4:=alc_ext _ _ _
 have row:Row h4 h3.size (scV b sb (List.replicate 8 cl0) Sl.nil 0):=Row.alc _ _ _
 obtain⟨y4,k4,w4⟩:=y3.ht.kindNew e4 (b:=h3.size) (Nat.le_refl _) row.lt (k := .one 1) id
 refine⟨h3.size,_,X,b,sb,rfl,((y02.mono fun _ h=>h.elim).trans y3).trans (y4.mono fun _ h=>h.elim),w4.trans (w3.trans w2),⟨k4,row,rfl,s3.to y4 (Nat.le_refl _) fun _ _ h=>h,fun k c hc=>?_,OwnK.nil _ _ _ _,fun i b hb=>by simp at hb⟩,?_,l3,hD,hn,hp,hcn⟩
 ·obtain rfl:c=cl0:=by
   have:=List.mem_of_getElem? hc
   exact List.eq_of_mem_replicate this
  exact⟨SlA.nil _ _,Nat.zero_le _,fun h=>(by cases h),OwnK.nil _ _ _ _,fun i hi=>(by cases hi),SlA.nil _ _,Nat.zero_le _,Nat.zero_le _⟩
 ·have hW4:∀ a l,¬ (G3.set h3.size (.one 1) 0).W a l:=fun a l hw=>by
   have hw:G3.W a l:=hw
   rw[w3,w2]at hw;exact hG _ _ hw
  refine⟨?_,?_,Nat.zero_le _,fun i b hb=>by simp at hb,fun a l hw=>absurd hw (hW4 a l)⟩
  ·have:(G3.set h3.size (.one 1) 0).W=G2.W:=w3
   rw[this];exact o3
  ·rw[hD];rfl
theorem dNew_spec{h:Hp}:HC Tryz.prog 26 #[.agg #[.int .i64 (8:Int),.int .i64 (96:Int)]] h fun r h'=>∃ (sc:Nat) (G':Gh) (X:StD) (db sb:Nat),r=.tuple #[pv sc,.int .i64 0]∧To sSt G00 h G' h'∧G'.W=G00.W∧SdIn G' h' 258 193 sc X (List.replicate 8 cl0) [] 0 0 db sb Sl.nil id∧SdOk G'.W 193 X [] 0∧Live X.dv∧X.D=⟨[],[],0,0,0,0,0,false⟩∧X.num=0∧X.pos=0∧X.count=0:=
 dNewG_spec (ht00 h) fun _ _ h=>h
def h7V(a0 a1 a2 a3 a4:Int)(s t:Sl):List Value:=[.int .i64 a0,.int .i64 a1,.int .i64 a2,.int .i64 a3,.int .i64 a4,.slice s.base s.len s.cap,.slice t.base t.len t.cap]
theorem h7V_ok(a0 a1 a2 a3 a4:Int)(s t:Sl):∀ v∈h7V a0 a1 a2 a3 a4 s t,cellOk v=true:=by simp[h7V,cellOk]
section
variable{G:Gh}{h:Hp}
theorem Row.get7{b:Nat}{a0 a1 a2 a3 a4:Int}{s t:Sl}(r:Row h b (h7V a0 a1 a2 a3 a4 s t)){K:Int→Int→Int→Int→Int→Sl→Sl→Prop}(hK:K a0 a1 a2 a3 a4 s t) :
 ∃ c10:Int,∃ c11:Int,∃ c12:Int,∃ c13:Int,∃ c14:Int,∃ c15:Sl,∃ c16:Sl,hY h ⟨b,0,none⟩=some (.int .i64 c10)∧hY h ((⟨b,0,none⟩:Addr).add 1)=some (.int .i64 c11)∧hY h ((⟨b,0,none⟩:Addr).add 2)=some (.int .i64 c12)∧hY h ((⟨b,0,none⟩:Addr).add 3)=some (.int .i64 c13)∧hY h ((⟨b,0,none⟩:Addr).add 4)=some (.int .i64 c14)∧hY h ((⟨b,0,none⟩:Addr).add 5)=some (.slice c15.base c15.len c15.cap)∧hY h ((⟨b,0,none⟩:Addr).add 6)=some (.slice c16.base c16.len c16.cap)∧K c10 c11 c12 c13 c14 c15 c16:=
 ⟨_,_,_,_,_,s,t,r.get0 rfl,r.get rfl,r.get rfl,r.get rfl,r.get rfl,r.get rfl,r.get rfl,hK⟩
theorem ret7(ht:HT G h){la lr:Nat}{a0 a1 a2 a3 a4:Int}{s t:Sl}{l7:List Value}(ra:Row h la (h7V a0 a1 a2 a3 a4 s t))(kr:G.k lr=.one 30)(rr:Row h lr l7)(hl:l7.length=7){K:Int→Int→Int→Int→Int→Sl→Sl→Hp→Prop}
 (hK:∀ h',ToB lr G h G h'→To isLoc G h G h'→Row h' lr (h7V a0 a1 a2 a3 a4 s t)→K a0 a1 a2 a3 a4 s t h') :
 ∃ c10:Int,∃ c11:Int,∃ c12:Int,∃ c13:Int,∃ c14:Int,∃ c15:Sl,∃ c16:Sl,hY h ⟨la,0,none⟩=some (.int .i64 c10)∧hY h ((⟨la,0,none⟩:Addr).add 1)=some (.int .i64 c11)∧hY h ((⟨la,0,none⟩:Addr).add 2)=some (.int .i64 c12)∧hY h ((⟨la,0,none⟩:Addr).add 3)=some (.int .i64 c13)∧hY h ((⟨la,0,none⟩:Addr).add 4)=some (.int .i64 c14)∧hY h ((⟨la,0,none⟩:Addr).add 5)=some (.slice c15.base c15.len c15.cap)∧hY h ((⟨la,0,none⟩:Addr).add 6)=some (.slice c16.base c16.len c16.cap)∧
   stCells ⟨lr,0,none⟩ 0 [.int .i64 c10,.int .i64 c11,.int .i64 c12,.int .i64 c13,.int .i64 c14,.slice c15.base c15.len c15.cap,.slice c16.base c16.len c16.cap] h fun vh5=>
   ∃ x:Int,∃ x1:Int,∃ x2:Int,∃ x3:Int,∃ x4:Int,∃ x5:Sl,∃ x6:Sl,hY vh5 ⟨lr,0,none⟩=some (.int .i64 x)∧hY vh5 ((⟨lr,0,none⟩:Addr).add 1)=some (.int .i64 x1)∧hY vh5 ((⟨lr,0,none⟩:Addr).add 2)=some (.int .i64 x2)∧hY vh5 ((⟨lr,0,none⟩:Addr).add 3)=some (.int .i64 x3)∧hY vh5 ((⟨lr,0,none⟩:Addr).add 4)=some (.int .i64 x4)∧hY vh5 ((⟨lr,0,none⟩:Addr).add 5)=some (.slice x5.base x5.len x5.cap)∧hY vh5 ((⟨lr,0,none⟩:Addr).add 6)=some (.slice x6.base x6.len x6.cap)∧K x x1 x2 x3 x4 x5 x6 vh5:=
 ra.get7 (locPut (vs:=h7V a0 a1 a2 a3 a4 s t) ht kr rr (by rw[hl];rfl) (h7V_ok _ _ _ _ _ _ _) fun h' b y r=>r.get7 (K:=fun x x1 x2 x3 x4 x5 x6=>K x x1 x2 x3 x4 x5 x6 h') (hK h' b y r))
end
theorem PutsOk.b{P:List PutD}(o:PutsOk P)(hl:P.length≤16):PutsB P:=⟨by omega,fun p hp=>by have:=(o.2 p hp).2.2;omega⟩
def IntsR(B:Nat→Prop)(h:Hp)(s:Sl)(l:List Int):Prop:=Rd 1 h s (l.map (Value.int .i64))∧∀ a,s.base=some a→s.len≠0→B a.block
theorem rClone_spec{h:Hp}{s:Sl}{l:List Value}(r:Rd 3 h s l)(hok:∀ v∈l,cellOk v=true)(hmax:s.len≤1000000):HC Tryz.prog 78 #[.slice s.base s.len s.cap] h fun r h'=>∃ t:Sl,r=.slice t.base t.len t.cap∧Own h.size 3 h' t l∧t.len=s.len∧Ext h h':=by
 apply wc78
 unfold vc78
 have hl:=r.len
 refine IfB.nilp (fun hn=>?_) (fun a ha=>?_)
 ·have hl0:l = []:=by
   cases l with
   | nil=>rfl
   | cons v q=>
     exfalso
     obtain⟨a,ha,_⟩:=r.rd 0 v rfl
     rw[hn]at ha;cases ha
  subst hl0
  exact⟨Sl.nil,rfl,Own.nil _ _ _,by simp at hl;simp[Sl.nil];omega,.refl _⟩
 ·have o0:Own h.size 3 (alc h [] 51) ⟨some (nw h),0,0⟩ []:=Own.alc h [] 51 0 3 rfl
  refine AppC_own (news:=l) rfl o0 (by rw[size_alc];omega) hl (r.ext (alc_ext _ _ _)).rd hok (by simp only;omega) (by simp only;omega) fun t h1 o1 l1 k1 _=>?_
  exact⟨t,rfl,by simpa using o1,by rw[l1];simp only;omega,(((alc_ext h [] 51).toKeep).trans k1).ext⟩
theorem chunk_set(l:List Value)(v:Value){i j c:Nat}(hc:c<3):((l.set (j*3+c) v).drop (i*3)).take 3=if i=j then ((l.drop (i*3)).take 3).set c v else (l.drop (i*3)).take 3:=by
 apply List.ext_getElem?
 intro m
 by_cases hm:m<3
 ·split
  ·rename_i e;subst e
   rw[List.getElem?_take,if_pos hm,List.getElem?_drop,List.getElem?_set,List.getElem?_set]
   by_cases e2:c=m
   ·subst e2
    rw[if_pos rfl,if_pos rfl]
    simp only[List.length_take,List.length_drop]
    by_cases e3:i*3+c<l.length
    ·rw[if_pos e3,if_pos (by omega)]
    ·rw[if_neg e3,if_neg (by omega)]
   ·rw[if_neg (by omega),if_neg e2,List.getElem?_take,if_pos hm,List.getElem?_drop]
  ·rw[List.getElem?_take,if_pos hm,List.getElem?_drop,List.getElem?_set,if_neg (by omega),List.getElem?_take,if_pos hm,List.getElem?_drop]
 ·rw[List.getElem?_eq_none (by simp;omega),List.getElem?_eq_none]
  split
  ·rw[List.length_set,List.length_take];omega
  ·rw[List.length_take];omega
theorem chunk_get{l:List Value}{i m:Nat}{v:Value}(h:((l.drop (i*3)).take 3)[m]? = some v):l[i*3+m]? = some v:=by
 rw[List.getElem?_take]at h
 split at h
 ·rwa[List.getElem?_drop]at h
 ·cases h
section
variable{G:Gh}{h:Hp}
theorem SlP.all(t:HT G h){s:Sl}{P:List PutD}(x:SlP G s P):∃ L:List ((Int × Sl) × List UInt8),P=L.map (fun x=>(x.1.1,x.2))∧Rd 2 h s (c2 (L.map (·.1)))∧∀ x∈L,SlB G x.1.2 x.2:=by
 obtain⟨h1,h2,rfl | ⟨b,L,h3,h4,rfl⟩⟩:=x
 ·exact⟨[],rfl,⟨by simp[h1,c2],h2,RdC.nil _ _⟩,fun x hx=>by simp at hx⟩
 ·obtain⟨⟨c,e,g1,g2⟩,g3⟩:=t.puts b L h4
  rw[List.length_map]at h1
  refine⟨L,rfl,⟨by rw[c2_length,List.length_map,h1],h2,fun i v hv=>⟨_,h3,?_⟩⟩,g3⟩
  rw[add_none,hcell_blk g1,Nat.zero_add]
  rw[← g2,List.getElem?_take]at hv
  split at hv
  ·simpa using hv
  ·cases hv
theorem dCopied_spec(t:HT G h)(a0 a1 a2 a3 a4:Int){rs ps:Sl}{P:List PutD}(hr:SlA G (.reads 0) rs)(hrl:rs.len≤1000000)(hp:SlP G ps P)(hP:PutsB P) :
 HC Tryz.prog 37 #[.agg #[.int .i64 a0,.int .i64 a1,.int .i64 a2,.int .i64 a3,.int .i64 a4,.slice rs.base rs.len rs.cap,.slice ps.base ps.len ps.cap]] h fun r h'=>∃ (G':Gh) (rs' ps':Sl),r=.agg #[.int .i64 a0,.int .i64 a1,.int .i64 a2,.int .i64 a3,.int .i64 a4,.slice rs'.base rs'.len rs'.cap,.slice ps'.base ps'.len ps'.cap]∧To (fun _=>False) G h G' h'∧G'.W=G.W∧SlA G' (.reads 0) rs'∧rs'.len=rs.len∧SlP G' ps' P:=by
 apply wc37
 unfold vc37
 intro h1 h2
 obtain⟨G2,y2,w2,k1,k2,r1,r2⟩:=alcTwo t (h7V a0 a1 a2 a3 a4 rs ps) (h7V 0 0 0 0 0 Sl.nil Sl.nil) 49 49
 have e1:nw h=(⟨h.size,0,none⟩:Addr):=rfl
 have e2:nw h1=(⟨h.size+1,0,none⟩:Addr):=by show nw (alc h _ _)=_;unfold nw;rw[size_alc]
 rw[e1,e2]
 change To _ G h G2 h2 at y2
 change Row h2 _ _ at r1
 change Row h2 _ _ at r2
 clear_value h2
 clear e1 e2
 obtain⟨lr,rdr,okr⟩:=(hr.mono y2.le).all y2.ht
 have rdr:Rd 3 h2 rs lr:=rdr
 have okc:∀ v∈lr,cellOk v=true:=by
  intro v hv
  obtain⟨j,hj,rfl⟩:=List.mem_iff_getElem.1 hv
  have hlen:=rdr.len
  have hjx:j / 3<rs.len:=by omega
  refine okE_cell (okr (j / 3) hjx) _ ?_
  have:((lr.drop (j / 3*3)).take 3)[j % 3]? = some lr[j]:=by
   rw[List.getElem?_take,if_pos (Nat.mod_lt _ (by omega)),List.getElem?_drop,show j / 3*3+j % 3=j by omega]
   exact List.getElem?_eq_getElem hj
  exact List.mem_of_getElem? this
 refine⟨rs,r1.get rfl,ps,r1.get rfl,(rClone_spec rdr okc hrl).mono ?_⟩
 rintro _ h3 ⟨u,rfl,ou,lu,e3⟩
 obtain⟨L,rfl,rdL,okL⟩:=(hp.mono y2.le).all y2.ht
 have hLn:L.length≤1000000:=by have:=hP.1;simpa using this
 refine⟨u,rfl,e3,(pClone_spec (rdL.ext e3) (by simpa using hLn)).mono ?_⟩
 rintro _ h4 ⟨p,rfl,op,lp,e4⟩
 rw[List.length_map]at lp
 have y4:To (fun _=>False) G h G2 h4:=(y2.ext e3).ext e4
 have on4:OwnN h.size 3 G2 h4 u lr:=((ou.ext e4).toN y2.ht y2.size)
 have op4:OwnN h.size 2 G2 h4 p (c2 (L.map (·.1))):=op.toN (y2.ht.ext e3) (Nat.le_trans y2.size e3.size)
 have hd:∀ a b,u.base=some a→p.base=some b→a.block≠b.block:=fun a b ha hb=>by
  have:=(ou.lt ha).2
  have:=(op.lt hb).1
  omega
 obtain⟨ok5,b5,y5,r5⟩:=locSet y4.ht k1 (r1.ext (e3.trans e4)) (i:=5) (by simp[h7V]) (.slice u.base u.len u.cap)
 obtain⟨ok6,b6,y6,r6⟩:=locSet y5.ht k1 r5 (i:=6) (by simp[h7V]) (.slice p.base p.len p.cap)
 have r6:Row _ h.size (h7V a0 a1 a2 a3 a4 u p):=r6
 have r26:=(b6.row (b5.row (r2.ext (e3.trans e4)) (by omega)) (by omega))
 have y06:=b6.new (b5.new y4 (Nat.le_refl _)) (Nat.le_refl _)
 refine⟨p,rfl,e3.trans e4,ok5,ok6,u,r6.get rfl,?_⟩
 refine⟨fun i n h'=>∃ (j:Nat) (G':Gh) (l:List Value),i=j∧n+j=rs.len∧To (fun _=>False) G h G' h'∧G'.W=G.W∧OwnN h.size 3 G' h' u l∧(∀ k,k<rs.len→okE G' (.reads 0) ((l.drop (k*3)).take 3))∧OwnN h.size 2 G' h' p (c2 (L.map (·.1)))∧(∀ x∈L,SlB G' x.1.2 x.2)∧Row h' h.size (h7V a0 a1 a2 a3 a4 u p)∧Row h' (h.size+1) (h7V 0 0 0 0 0 Sl.nil Sl.nil)∧G'.k h.size=.one 30∧G'.k (h.size+1)=.one 30,rs.len,
  ⟨0,G2,lr,rfl,rfl,y06,w2,(on4.to y5).to y6,okr,(op4.to y5).to y6,okL,r6,r26,k1,k2⟩,?_⟩
 rintro _ _ n7 h7 ⟨j,G7,l7,rfl,hn7,y7,w7,o7,ok7,op7,okL7,r7,r27,k17,k27⟩
 refine IfB.dec (fun hlt=>?_) (fun hge=>?_)
 ·have hj:j<rs.len:=by omega
  obtain⟨lba,d,own,bs,hch,sd,ld,wd⟩:=ok7 j hj
  obtain⟨a,ha,hca⟩:=o7.own.rd (j*3+1) _ (chunk_get (m:=1) (by rw[hch];rfl))
  refine⟨u,r7.get rfl,u,r7.get rfl,a,ha,by omega,by omega,d,by rw[Int.toNat_natCast,add_add];exact hca,(cloneB y7.ht sd (by omega)).mono ?_⟩
  rintro _ h8 ⟨v,G8,rfl,y8,sv,w8⟩
  have o8:=o7.to y8
  have y08:=y7.trans y8
  have hl7:=o8.own.len
  obtain⟨ok9,o9,kp9,fr9,sz9⟩:=o8.own.set ha (k:=j*3+1) (by omega) (.slice v.base v.len v.cap)
  refine⟨v,rfl,y8.toExt,a,ha,by omega,by omega,by rw[Int.toNat_natCast,add_add];exact ok9,?_⟩
  rw[Int.toNat_natCast,add_add]
  have hne:∀ b,G8.k b=.one 30→b≠a.block:=fun b hb e=>by have:=o8.any a ha;rw[← e,hb]at this;cases this
  have k18:=y8.kd k17 (by simp)
  have k28:=y8.kd k27 (by simp)
  have op8:=op7.to y8
  refine⟨n7-1,by omega,j+1,G8,_,by rw[iAdd64 (by omega)];push_cast;rfl,by omega,y08.own1 (o8.own.lt ha).1 (o8.any a ha) (by omega) (fun b _ hb=>fr9 b hb),w8.trans w7,⟨o9,o8.any⟩,fun k hk=>?_,⟨op8.own.eq fun b hb=>fr9 _ fun e=>hd a b ha hb e.symm,op8.any⟩,fun x hx=>(okL7 x hx).mono y8.le,(y8.rowK r7 k17 id).eq (fr9 _ (hne _ k18)),(y8.rowK r27 k27 id).eq (fr9 _ (hne _ k28)),k18,k28⟩
  rw[chunk_set l7 _ (by omega)]
  split
  ·rename_i e;subst e
   rw[hch]
   exact⟨lba,v,own,bs,rfl,sv,ld,wd.imp id (Or.imp id fun h=>by rw[w8];exact h)⟩
  ·exact okE_mono y8.le (ok7 k hk)
 ·obtain rfl:j=rs.len:=by omega
  refine⟨p,r7.get rfl,?_⟩
  refine⟨fun i n h'=>∃ (j:Nat) (G':Gh) (D:List ((Int × Sl) × List UInt8)),i=j∧n+j=L.length∧To (fun _=>False) G h G' h'∧G'.W=G.W∧OwnN h.size 3 G' h' u l7∧(∀ k,k<rs.len→okE G' (.reads 0) ((l7.drop (k*3)).take 3))∧OwnN h.size 2 G' h' p (c2 (D.map (·.1)))∧D.map (fun x=>(x.1.1,x.2))=L.map (fun x=>(x.1.1,x.2))∧(∀ x∈D,SlB G' x.1.2 x.2)∧Row h' h.size (h7V a0 a1 a2 a3 a4 u p)∧Row h' (h.size+1) (h7V 0 0 0 0 0 Sl.nil Sl.nil)∧G'.k h.size=.one 30∧G'.k (h.size+1)=.one 30,L.length,
   ⟨0,G7,L,rfl,rfl,y7,w7,o7,ok7,op7,rfl,okL7,r7,r27,k17,k27⟩,?_⟩
  rintro _ _ n9 h9 ⟨i,G9,D,rfl,hn9,y9,w9,o9,ok9,op9,hDm,okD,r9,r29,k19,k29⟩
  have hDl:D.length=L.length:=by have:=congrArg List.length hDm;simpa using this
  refine IfB.dec (fun hlt=>?_) (fun hge=>?_)
  ·have hi:i<L.length:=by omega
   have hiD:i<D.length:=by omega
   refine⟨p,r9.get rfl,p,r9.get rfl,ix2 op9.own.toRd i rfl (by simpa using hiD) fun a c0 c1=>?_⟩
   rw[List.getElem_map]at c0 c1
   have hlen:D[i].2.length≤1000000:=hP.2 _ (by rw[← hDm];exact List.mem_map.2 ⟨_,List.getElem_mem hiD,rfl⟩)
   refine⟨D[i].1.2,c1,(cloneB y9.ht (okD _ (List.getElem_mem hiD)) hlen).mono ?_⟩
   rintro _ h10 ⟨v,G10,rfl,y10,sv,w10⟩
   have op10:=op9.to y10
   have y010:=y9.trans y10
   obtain⟨ab,hab,_⟩:=op10.own.rd (i*2) (.int .i64 D[i].1.1) (by rw[c2_get0,List.getElem?_eq_getElem (by simpa using hiD),List.getElem_map];rfl)
   obtain⟨ok11,y11,o11,fr11,sz11⟩:=OwnN.setD (u:=v) y010 op10 hab (k:=i) (by simpa using hiD)
   refine⟨v,rfl,y10.toExt,ab,hab,by omega,by omega,by rw[Int.toNat_natCast];exact ok11,?_⟩
   rw[Int.toNat_natCast]
   have hne:∀ b,G10.k b=.one 30→b≠ab.block:=fun b hb e=>by have:=op10.any ab hab;rw[← e,hb]at this;cases this
   have k110:=y10.kd k19 (by simp)
   have k210:=y10.kd k29 (by simp)
   have o10:=o9.to y10
   refine⟨n9-1,by omega,i+1,G10,D.set i ((D[i].1.1,v),D[i].2),by rw[iAdd64 (by omega)];push_cast;rfl,by omega,y11,w10.trans w9,⟨o10.own.eq fun b hb=>fr11 _ fun e=>hd b ab hb hab e,o10.any⟩,fun k hk=>okE_mono y10.le (ok9 k hk),?_,?_,fun x hx=>?_,(y10.rowK r9 k19 id).eq (fr11 _ (hne _ k110)),(y10.rowK r29 k29 id).eq (fr11 _ (hne _ k210)),k110,k210⟩
   ·rw[List.map_set]
    simpa using o11
   ·rw[List.map_set,← hDm]
    exact set_same (by rw[List.getElem?_map,List.getElem?_eq_getElem hiD];rfl)
   ·rcases List.mem_or_eq_of_mem_set hx with hx | rfl
    ·exact(okD x hx).mono y10.le
    ·exact sv
  ·refine ret7 y9.ht r9 k29 r29 rfl fun h10 b10 y10 _=>?_
   have y010:=b10.new y9 (by omega:h.size≤h.size+1)
   have o10:=o9.to y10
   have op10:=op9.to y10
   obtain⟨GA,leA,htA,slA,eA,wA⟩:=OwnG.arr (a := .reads 0) y010.ht o10.g (fun k hk=>ok9 k (by omega))
   have yA:=y010.give leA htA (s:=u) (fun a ha=>(o10.own.lt ha).1) eA
   have opA:OwnN h.size 2 GA h10 p (c2 (D.map (·.1))):=⟨op10.own,fun a ha=>by rw[eA _ fun b hb e=>hd b a hb ha e.symm];exact op10.any a ha⟩
   obtain⟨GB,leB,htB,slB,eB,wB⟩:=OwnG.puts yA.ht opA.g (fun x hx=>(okD x hx).mono leA)
   have yB:=yA.give leB htB (s:=p) (fun a ha=>(opA.own.lt ha).1) eB
   refine⟨GB,u,p,rfl,yB,wB.trans (wA.trans w9),slA.mono leB,lu,?_⟩
   rw[hDm]at slB
   exact slB
end
structure HiD where
 st:Int
 g:Int
 tm:Int
 fr:Int
 to_:Int
 rs:Sl
 ps:Sl
 P:List PutD
def hiV(x:HiD):List Value:=h7V x.st x.g x.tm x.fr x.to_ x.rs x.ps
def c7(l:List HiD):List Value:=l.flatMap hiV
theorem hiV_len(x:HiD):(hiV x).length=7:=rfl
theorem c7_cons(x:HiD)(r:List HiD):c7 (x::r)=hiV x++c7 r:=rfl
theorem c7_append(a b:List HiD):c7 (a++b)=c7 a++c7 b:=by simp[c7]
theorem c7_length:∀ l:List HiD,(c7 l).length=l.length*7
 | []=>rfl
 | x::r=>by rw[c7_cons,List.length_append,c7_length r,hiV_len];simp only[List.length_cons];omega
theorem c7_get:∀ (l:List HiD) (i j:Nat),j<7→(c7 l)[i*7+j]? =(l[i]?).bind fun x=>(hiV x)[j]?
 | [],i,j,_=>by simp[c7]
 | x::r,0,j,h=>by rw[c7_cons,List.getElem?_append_left (by rw[hiV_len];omega)];simp
 | x::r,i+1,j,h=>by
   rw[c7_cons,List.getElem?_append_right (by rw[hiV_len];omega)]
   rw[show(i+1)*7+j-(hiV x).length=i*7+j by rw[hiV_len];omega,c7_get r i j h]
   rfl
structure HsR(G:Gh)(h:Hp)(s:Sl)(L:List HiD):Prop where
 rd:Rd 7 h s (c7 L)
 stab:∀ a,s.base=some a→s.len≠0→Stab G h a.block
 each:∀ x∈L,SlA G (.reads 0) x.rs∧x.rs.len≤1000000∧SlP G x.ps x.P∧PutsB x.P
theorem HsR.len{G:Gh}{h:Hp}{s:Sl}{L:List HiD}(p:HsR G h s L):s.len=L.length:=by
 have:=p.rd.len
 rw[c7_length]at this
 omega
theorem HsR.ix{G:Gh}{h:Hp}{s:Sl}{L:List HiD}(p:HsR G h s L){i:Int}(k:Nat)(hi:i=k)(hk:k<L.length){K:Addr→Prop}
 (hK:∀ a,hY h (a.add (i.toNat*7))=some (.int .i64 L[k].st)→hY h ((a.add (i.toNat*7)).add 4)=some (.int .i64 L[k].to_)→hY h ((a.add (i.toNat*7)).add 5)=some (.slice L[k].rs.base L[k].rs.len L[k].rs.cap)→hY h ((a.add (i.toNat*7)).add 6)=some (.slice L[k].ps.base L[k].ps.len L[k].ps.cap)→K a):∃ a:Addr,s.base=some a∧0≤i∧i<(s.len:Int)∧K a:=by
 have hl:=p.len
 subst hi
 have g:∀ j,j<7→(c7 L)[k*7+j]? =(hiV L[k])[j]?:=fun j hj=>by rw[c7_get L k j hj,List.getElem?_eq_getElem hk];rfl
 have cell:∀ j v,j<7→(hiV L[k])[j]? = some v →∃ a:Addr,s.base=some a∧hY h ((a.add (((k:Int)).toNat*7)).add j)=some v:=fun j v hj hv=>by
  obtain⟨a,ha,hc⟩:=p.rd.rd (k*7+j) v (by rw[g j hj];exact hv)
  exact⟨a,ha,by rw[Int.toNat_natCast,add_add];exact hc⟩
 obtain⟨a,ha,q0⟩:=cell 0 _ (by omega) rfl
 obtain⟨a1,ha1,q1⟩:=cell 4 _ (by omega) rfl
 obtain⟨a2,ha2,q2⟩:=cell 5 _ (by omega) rfl
 obtain⟨a3,ha3,q3⟩:=cell 6 _ (by omega) rfl
 rw[ha]at ha1 ha2 ha3
 cases ha1;cases ha2;cases ha3
 rw[Addr.add_zero]at q0
 exact⟨a,ha,by omega,by omega,hK a q0 q1 q2 q3⟩
section
variable{G:Gh}{h:Hp}{M N sc:Nat}{X:StD}{cl:List CSl}{bg:List BgD}{na base:Nat}{ev:Int}{db sb:Nat}{all:Sl}{bb:Nat→Nat}
def seeSt(X:StD)(b:BgD):Int:=if b.h=0 then b.st else ((X.D.at_ b.h).state:Int)
def seeP(X:StD)(b:BgD):List PutD:=if b.h=0 then b.P else (X.D.at_ b.h).P
def Sees(X:StD)(bg:List BgD)(L:List HiD):Prop:=∀ (i:Nat) (b:BgD),bg[i]? = some b →∃ x:HiD,L[i]? = some x∧x.st=seeSt X b∧x.P=seeP X b∧x.to_=b.to_
theorem dHist_spec(t:HT G h)(x:SdIn G h M N sc X cl bg bg.length ev db sb all bb)(hN:bg.length≤1000000)(hM:M≤1000000)(htx:∀ (i:Nat) (b:BgD),bg[i]? = some b→b.h≠0 →∃ (j:Nat) (t:TxS),b.h=j+1∧X.D.txs[j]? = some t) :
 HC Tryz.prog 12 #[pv sc] h fun r h'=>∃ (G':Gh) (s:Sl) (L:List HiD),r=.slice s.base s.len s.cap∧To (fun _=>False) G h G' h'∧G'.W=G.W∧HsR G' h' s L∧L.length=bg.length∧Sees X bg L:=by
 apply wc12
 unfold vc12
 refine(dGone_spec x).mono ?_
 rintro _ _ ⟨rfl,hh⟩
 obtain rfl:=hh.symm
 have hall:all.len=bg.length:=by have:=x.all.own.len;simp at this;omega
 refine⟨_,rfl,.no rfl ⟨_,rfl,_,x.row.get (scV_all x.len).1,?_⟩⟩
 refine⟨fun out v n h'=>∃ (j:Nat) (G':Gh) (L:List HiD),v=j∧n+j=bg.length∧To (fun _=>False) G h G' h'∧G'.W=G.W∧OwnN h.size 7 G' h' out (c7 L)∧L.length=j∧(∀ x∈L,SlA G' (.reads 0) x.rs∧x.rs.len≤1000000∧SlP G' x.ps x.P∧PutsB x.P)∧Sees X (bg.take j) L,bg.length,
  ⟨0,G,[],rfl,rfl,.refl t,rfl,OwnN.nil _ _ _ _,rfl,fun x hx=>by simp at hx,fun i b hb=>by simp at hb⟩,?_⟩
 rintro _ out _ n1 h1 ⟨j,G1,L,rfl,hn1,y1,w1,o1,hL,okL,hsee⟩
 have x1:=x.pure y1
 refine IfB.dec (fun hlt=>?_) fun hge=>?_
 ·have hj:j<bg.length:=by omega
  have hbj:bg[j]? = some bg[j]:=List.getElem?_eq_getElem hj
  refine ix1 x1.all.own.rd (by simpa using hall.symm) j rfl (by simpa using hj) fun a _ hce=>⟨_,by simpa [pv] using hce,?_⟩
  have xb:=x1.beg j _ hbj
  obtain⟨g,tm,f,tt,rs,ps,r,ha,hl,hp,hP⟩:=xb.row
  have e3:∀ k,(((⟨bb j,0,none⟩:Addr).add 3).add k)=(⟨bb j,0,none⟩:Addr).add (3+k):=fun k=>add_add _ _ _
  refine⟨_,rfl,bg[j].st,g,tm,f,tt,rs,ps,r.get rfl,by rw[e3];exact r.get rfl,by rw[e3];exact r.get rfl,by rw[e3];exact r.get rfl,by rw[e3];exact r.get rfl,by rw[e3];exact r.get rfl,by rw[e3];exact r.get rfl,(dCopied_spec y1.ht _ _ _ _ _ ha hl hp hP).mono ?_⟩
  rintro _ h2 ⟨G2,rs2,ps2,rfl,y2,w2,ha2,hl2,hp2⟩
  have x2:=x1.pure y2
  have y02:=y1.trans y2
  refine⟨_,_,_,_,_,rs2,ps2,rfl,?_⟩
  intro h3
  obtain⟨G3,y3,w3,k3,r3⟩:=alcLoc y2.ht (h7V 0 0 0 0 0 Sl.nil Sl.nil) 49
  change To _ G2 h2 G3 h3 at y3
  change Row h3 _ _ at r3
  have e2:nw h2=(⟨h2.size,0,none⟩:Addr):=rfl
  rw[e2]
  clear_value h3
  clear e2
  have x3:=x2.pure y3
  have s02:=y02.size
  refine locPut (vs:=h7V bg[j].st g tm f tt rs2 ps2) y3.ht k3 r3 rfl (h7V_ok _ _ _ _ _ _ _) fun h4 b4 y4 r4=>?_
  have x4:=x3.loc y4
  have y04:=b4.new (y02.trans y3) s02
  have o4:OwnN h.size 7 G3 h4 out (c7 L):=((o1.to y2).to y3).to y4
  have W3:G3.W=G.W:=w3.trans (w2.trans w1)
  have ha3:=ha2.mono y3.le
  have hp3:=hp2.mono y3.le
  have okL3:∀ x∈L,SlA G3 (.reads 0) x.rs∧x.rs.len≤1000000∧SlP G3 x.ps x.P∧PutsB x.P:=fun y hy=>by
   obtain⟨q1,q2,q3,q4⟩:=okL y hy
   exact⟨(q1.mono y2.le).mono y3.le,q2,(q3.mono y2.le).mono y3.le,q4⟩
  have fin:∀ {G5:Gh} {h5:Hp} {st g tm f tt:Int} {rs ps:Sl} {P:List PutD},To (fun _=>False) G h G5 h5→G5.W=G.W→SdIn G5 h5 M N sc X cl bg bg.length ev db sb all bb→OwnN h.size 7 G5 h5 out (c7 L)→G5.k h2.size=.one 30→Row h5 h2.size (h7V st g tm f tt rs ps)→SlA G5 (.reads 0) rs→rs.len≤1000000→SlP G5 ps P→PutsB P→(∀ x∈L,SlA G5 (.reads 0) x.rs∧x.rs.len≤1000000∧SlP G5 x.ps x.P∧PutsB x.P)→st=seeSt X bg[j]→P=seeP X bg[j] →
   ∃ hR:Hp,Sub hR h5∧∃ a8:Addr,(some (⟨bb j,0,none⟩:Addr))=some a8∧∃ c36:Int,hY hR (a8.add 1)=some (.int .i64 c36)∧∃ a9:Addr,(some (⟨bb j,0,none⟩:Addr))=some a9∧∃ c37:Int,hY hR (a9.add 2)=some (.int .i64 c37)∧
   StOk h5 ((⟨h2.size,0,none⟩:Addr).add 3)∧Lt (hset h5 ((⟨h2.size,0,none⟩:Addr).add 3) (.int .i64 c36)) fun vh11=>Sub hR vh11∧StOk vh11 ((⟨h2.size,0,none⟩:Addr).add 4)∧Lt (hset vh11 ((⟨h2.size,0,none⟩:Addr).add 4) (.int .i64 c37)) fun vh12=>
   ∃ c38:Int,∃ c39:Int,∃ c40:Int,∃ c41:Int,∃ c42:Int,∃ c43:Sl,∃ c44:Sl,hY vh12 (⟨h2.size,0,none⟩:Addr)=some (.int .i64 c38)∧hY vh12 ((⟨h2.size,0,none⟩:Addr).add 1)=some (.int .i64 c39)∧hY vh12 ((⟨h2.size,0,none⟩:Addr).add 2)=some (.int .i64 c40)∧hY vh12 ((⟨h2.size,0,none⟩:Addr).add 3)=some (.int .i64 c41)∧hY vh12 ((⟨h2.size,0,none⟩:Addr).add 4)=some (.int .i64 c42)∧hY vh12 ((⟨h2.size,0,none⟩:Addr).add 5)=some (.slice c43.base c43.len c43.cap)∧hY vh12 ((⟨h2.size,0,none⟩:Addr).add 6)=some (.slice c44.base c44.len c44.cap)∧
   let vh13:=alc vh12 [.int .i64 c38,.int .i64 c39,.int .i64 c40,.int .i64 c41,.int .i64 c42,.slice c43.base c43.len c43.cap,.slice c44.base c44.len c44.cap] 49;
   AppC 49 7 88 #[.int .i64 (0:Int),.int .i64 (0:Int),.int .i64 (0:Int),.int .i64 (0:Int),.int .i64 (0:Int),.slice Sl.nil.base Sl.nil.len Sl.nil.cap,.slice Sl.nil.base Sl.nil.len Sl.nil.cap] out (Sl.mk (some (nw vh12)) 1 1) vh13 fun s2 vh14=>
   ∃ n2,n2<n1∧(∃ (j':Nat) (G':Gh) (L:List HiD),iAdd .i64 (j:Int) (1:Int)=j'∧n2+j'=bg.length∧To (fun _=>False) G h G' vh14∧G'.W=G.W∧OwnN h.size 7 G' vh14 s2 (c7 L)∧L.length=j'∧(∀ x∈L,SlA G' (.reads 0) x.rs∧x.rs.len≤1000000∧SlP G' x.ps x.P∧PutsB x.P)∧Sees X (bg.take j') L):=by
   intro G5 h5 st g tm f tt rs ps P y5 w5 x5 o5 k5 r5 ha5 hl5 hp5 hP5 ok5 hst hPs
   obtain⟨g',tm',f',tt',rs',ps',rb,_⟩:=(x5.beg j _ hbj).row
   have fb:kf G5 isLoc (bb j)=true:=kf_yes (by rw[(x5.beg j _ hbj).kd];intro h;cases h)
   have rbR:=rb.filt fb
   obtain⟨ok6,b6,y6,r6⟩:=locSet y5.ht k5 r5 (i:=3) (by simp[h7V]) (.int .i64 bg[j].fr)
   obtain⟨ok7,b7,y7,r7⟩:=locSet y6.ht k5 r6 (i:=4) (by simp[h7V]) (.int .i64 bg[j].to_)
   have r7:Row _ h2.size (h7V st g tm bg[j].fr bg[j].to_ rs ps):=r7
   have y07:=b7.new (b6.new y5 s02) s02
   have o7:=(o5.to y6).to y7
   refine⟨filt (kf G5 isLoc) h5,sub_kf _ _ _,_,rfl,_,rbR.get rfl,_,rfl,_,rbR.get rfl,ok6,y6.kf,ok7,r7.get7 ?_⟩
   intro h9
   have hl7:=o7.own.len
   rw[c7_length]at hl7
   refine OwnN.push y07 rfl o7 rfl (h7V_ok _ _ _ _ _ _ _) (by omega) (by omega) fun s2 h10 y10 o10 l10 _ _=>⟨n1-1,by omega,j+1,G5,L ++ [⟨st,g,tm,bg[j].fr,bg[j].to_,rs,ps,P⟩],by rw[iAdd64 (by omega)];push_cast;rfl,by omega,y10,w5,by rw[c7_append];exact o10,by simp[hL],fun y hy=>?_,fun i b hb=>?_⟩
   ·rcases List.mem_append.1 hy with hy | hy
    ·exact ok5 y hy
    ·simp only[List.mem_cons,List.not_mem_nil,or_false]at hy
     subst hy;exact⟨ha5,hl5,hp5,hP5⟩
   ·rw[List.getElem?_take]at hb
    split at hb
    ·rename_i hi
     by_cases e:i<j
     ·obtain⟨y,q1,q2⟩:=hsee i b (by rw[List.getElem?_take,if_pos e];exact hb)
      exact⟨y,by rw[List.getElem?_append_left (by omega)];exact q1,q2⟩
     ·obtain rfl:i=j:=by omega
      rw[hbj]at hb;cases hb
      exact⟨_,by rw[List.getElem?_append_right (by omega),hL,Nat.sub_self];rfl,hst,hPs,rfl⟩
    ·cases hb
  refine⟨_,rfl,_,x4.begH hbj,IfB.dec (fun hpos=>?_) fun hz=>?_⟩
  ·have hnz:bg[j].h≠0:=by omega
   obtain⟨i,tx,hi,htxi⟩:=htx j _ hbj hnz
   refine⟨h4,Sub.refl _,_,rfl,_,x4.row.get rfl,_,rfl,_,x4.begH hbj,?_⟩
   refine(sHistory_spec y4.ht x4.st hM _).mono ?_
   rintro _ h5 ⟨G5,rs5,ps5,st5,g5,tm5,P5,rfl,y5,w5,ha5,hl5,hp5,hP5,_,hx5⟩
   obtain⟨rfl,rfl⟩:=hx5 i tx htxi (by rw[hi])
   have pB:PutsB tx.P:=by
    obtain⟨_,_,_,_,_,_,_,_,si⟩:=x4.st
    exact(si.mgr.plen i tx htxi).2.b (si.mgr.plen i tx htxi).1
   have x5:=x4.pure y5
   have k5:=y5.kd k3 (by simp)
   have r5:=y5.rowK r4 k3 id
   refine⟨_,_,_,_,_,rs5,ps5,rfl,y5.toExt.sub,locPut (vs:=h7V tx.state g5 tm5 0 0 rs5 ps5) y5.ht k5 r5 rfl (h7V_ok _ _ _ _ _ _ _) fun h6 b6 y6 r6=>?_⟩
   exact fin (b6.new (y04.trans y5) s02) (w5.trans W3) (x5.loc y6) ((o4.to y5).to y6) k5 r6 ha5 (by omega) hp5 pB (fun y hy=>by
    obtain⟨q1,q2,q3,q4⟩:=okL3 y hy
    exact⟨q1.mono y5.le,q2,q3.mono y5.le,q4⟩) (by unfold seeSt;rw[if_neg hnz,hi,MgrD.at_get htxi]) (by unfold seeP;rw[if_neg hnz,hi,MgrD.at_get htxi])
  ·have hz:bg[j].h=0:=by omega
   exact fin y04 W3 x4 o4 k3 r4 ha3 (by omega) hp3 hP okL3 (by unfold seeSt;rw[if_pos hz]) (by unfold seeP;rw[if_pos hz])
 ·obtain rfl:j=bg.length:=by omega
  rw[List.take_length]at hsee
  refine⟨G1,out,L,rfl,y1,w1,⟨o1.own.toRd,fun a ha _=>⟨(o1.own.lt ha).2,by rw[o1.any a ha];exact fun h=>h⟩,okL⟩,hL,hsee⟩
end
def iv(n:Nat):Value := .int .i64 (n:Int)
theorem SumN_spec(n:Nat)(hn:n≤1099511627776){h:Hp}{s:Sl}{l:List Nat}(hl:l.length=s.len)(hr:RdC h s.base (l.map iv))(hm:l.length<9223372036854775807)(hx:∀ x∈l,x≤9223372036854775807) :
 HC Tryz.prog 20 #[.int .i64 (n:Int),.slice s.base s.len s.cap] h fun r h'=>r=.int .i64 ((min (n+l.sum) 1099511627776:Nat):Int)∧h'=h:=by
 apply wc20
 unfold vc20
 refine⟨fun a i m h'=>h=h'∧∃ k q:Nat,i=k∧a=q∧m+k=l.length∧q≤1099511627776∧q+(l.drop k).sum=n+l.sum,l.length,⟨rfl,0,n,rfl,rfl,rfl,hn,rfl⟩,?_⟩
 rintro _ _ _ m _ ⟨rfl,k,q,rfl,rfl,hm,hq,hs⟩
 refine IfB.dec (fun hlt=>?_) (fun hge=>?_)
 ·have hk:k<l.length:=by omega
  have hd:(l.drop k).sum=l[k]+(l.drop (k+1)).sum:=by rw[List.drop_eq_getElem_cons hk,List.sum_cons]
  have hxk:=hx l[k] (List.getElem_mem hk)
  refine IfB.dec (fun hh=>by omega) (fun _=>?_)
  have one:∀ {K:Int→Prop},K (l[k]:Int) →∃ a:Addr,s.base=some a∧0≤(k:Int)∧(k:Int)<(s.len:Int)∧∃ c:Int,hY h (a.add ((k:Int).toNat*1))=some (.int .i64 c)∧K c:=fun hK=>
   ix1 hr (by simpa using hl) k rfl (by simpa using hk) fun a _ hc=>⟨_,by simpa [iv] using hc,hK⟩
  refine one ?_
  rw[iSub64 (by omega)]
  refine IfB.dec (fun hh=>⟨by rw[Nat.min_eq_right (by omega)];rfl,rfl⟩) (fun hh=>?_)
  refine one ⟨m-1,by omega,rfl,k+1,q+l[k],?_,?_,by omega,by omega,by omega⟩
  ·rw[iAdd64 (by omega)];push_cast;rfl
  ·rw[iAdd64 (by omega)];push_cast;rfl
 ·obtain rfl:k=l.length:=by omega
  have:(l.drop l.length).sum=0:=by simp
  exact⟨by rw[Nat.min_eq_left (by omega)];congr 2;omega,rfl⟩
theorem SumA_spec(n:Nat)(hn:n≤1099511627776)(l:List Nat)(hm:l.length<9223372036854775807)(hx:∀ x∈l,x≤9223372036854775807)(h:Hp)(t:Nat) :
 HC Tryz.prog 20 #[.int .i64 (n:Int),.slice (some (nw h)) l.length l.length] (alc h (l.map iv) t) fun r h'=>r=.int .i64 ((min (n+l.sum) 1099511627776:Nat):Int)∧Ext h h':=by
 refine(SumN_spec n hn (s:=⟨some (nw h),l.length,l.length⟩) (l:=l) rfl (RdC.alc h _ _) hm hx).mono ?_
 rintro _ _ ⟨rfl,rfl⟩
 exact⟨rfl,alc_ext _ _ _⟩
theorem min20{n:Nat}{l:List Nat}(h:min (n+l.sum) 1099511627776≤20000):n+l.sum≤20000:=by omega
theorem topPuts_spec{B:Nat→Prop}{h:Hp}{s:Sl}{P:List PutD}(p:PutsR B h s P)(hs:P.length≤maxLen)(hd:∀ x∈P,x.2.length≤maxLen) :
 HC Tryz.prog 21 #[.slice s.base s.len s.cap,.int .i64 (20000:Int)] h fun r h'=>Ext h h'∧∃ n:Nat,r=.int .i64 (n:Int)∧n≤1099511627776∧(n≤20000→PutsB P):=by
 apply wc21
 unfold vc21
 have hl:=p.len
 simp only[maxLen]at hs hd
 intro h1
 refine(SumA_spec 0 (by omega) [s.len] (by simp) (by simp;omega) h 3).mono ?_
 rintro _ h2 ⟨rfl,e2⟩
 refine⟨_,rfl,?_⟩
 refine⟨fun n i m h'=>Ext h h'∧∃ k q:Nat,i=k∧n=q∧m+k=P.length∧q≤1099511627776∧(q≤20000→P.length≤20000∧∀ j (hj:j<P.length),j<k→P[j].2.length≤20000),P.length,⟨e2,0,_,rfl,rfl,rfl,Nat.min_le_right _ _,fun h=>⟨by have:=min20 h;simp only[List.sum_cons,List.sum_nil]at this;omega,fun j _ hj=>by omega⟩⟩,?_⟩
 rintro _ _ _ m h3 ⟨e3,k,q,rfl,rfl,hm,hq,hn⟩
 have fin:20000<q∨k=P.length→Ext h h3∧∃ n:Nat,Value.int .i64 (q:Int)=.int .i64 (n:Int)∧n≤1099511627776∧(n≤20000→PutsB P):=fun hh=>⟨e3,q,rfl,hq,fun hle=>⟨by have:=(hn hle).1;omega,fun x hx=>by
  obtain⟨j,hj,rfl⟩:=List.mem_iff_getElem.1 hx
  have:=(hn hle).2 j hj (by omega)
  omega⟩⟩
 refine IfB.dec (fun hlt=>IfB.dec (fun hle=>?_) (fun hgt=>fin (.inl (by omega)))) (fun hge=>fin (.inr (by omega)))
 have hk:k<P.length:=by omega
 refine(p.ext e3).ix k rfl hk fun a d c0 c1 rd _=>⟨d,c1,?_⟩
 have hdl:=rd.lenB
 have hd':=hd P[k] (List.getElem_mem hk)
 intro h4
 refine(SumA_spec q hq [d.len] (by simp) (by simp;omega) h3 3).mono ?_
 rintro _ h5 ⟨rfl,e5⟩
 refine⟨_,rfl,m-1,by omega,e3.trans e5,k+1,_,by rw[iAdd64 (by omega)];push_cast;rfl,rfl,by omega,Nat.min_le_right _ _,fun hle2=>?_⟩
 have hle2:=min20 hle2
 simp only[List.sum_cons,List.sum_nil]at hle2
 have hq2:q≤20000:=by omega
 refine⟨(hn hq2).1,fun j hj hjk=>?_⟩
 by_cases e:j=k
 ·subst e;omega
 ·exact(hn hq2).2 j hj (by omega)
def OpsR0(B:Nat→Prop)(h:Hp)(s:Sl)(O:List OpD):Prop:=
 ∃ L:List (OpD × Sl),O=L.map (·.1)∧Rd 5 h s (c5 L)∧(∀ a,s.base=some a→s.len≠0→B a.block)∧∀ x∈L,PutsR B h x.2 x.1.P
theorem OpsR0.len{B:Nat→Prop}{h:Hp}{s:Sl}{O:List OpD}(p:OpsR0 B h s O):s.len=O.length:=by
 obtain⟨L,rfl,h2,_⟩:=p
 have:=h2.len
 rw[c5_length]at this
 simp;omega
theorem OpsR0.eq{B:Nat→Prop}{h h':Hp}{s:Sl}{O:List OpD}(p:OpsR0 B h s O)(e:∀ b,B b→h'[b]? = h[b]?):OpsR0 B h' s O:=by
 obtain⟨L,h1,h2,h3,h4⟩:=p
 exact⟨L,h1,h2.mv h3 e,h3,fun x hx=>(h4 x hx).eq e⟩
theorem OpsR0.mono{B B':Nat→Prop}{h:Hp}{s:Sl}{O:List OpD}(p:OpsR0 B h s O)(hb:∀ b,B b→B' b):OpsR0 B' h s O:=by
 obtain⟨L,h1,h2,h3,h4⟩:=p
 exact⟨L,h1,h2,fun a ha hn=>hb _ (h3 a ha hn),fun x hx=>(h4 x hx).mono hb⟩
theorem OpsR0.full{B:Nat→Prop}{h:Hp}{s:Sl}{O:List OpD}(p:OpsR0 B h s O)(hb:∀ o∈O,PutsB o.P):OpsR B h s O:=by
 obtain⟨L,rfl,h2,h3,h4⟩:=p
 exact⟨L,rfl,h2,h3,fun x hx=>⟨h4 x hx,hb _ (List.mem_map_of_mem hx)⟩⟩
theorem OpsR0.ix{B:Nat→Prop}{h:Hp}{s:Sl}{O:List OpD}(p:OpsR0 B h s O){i:Int}(k:Nat)(hi:i=k)(hk:k<O.length){K:Addr→Prop}
 (hK:∀ a d,hY h ((a.add (i.toNat*5)).add 4)=some (.slice d.base d.len d.cap)→PutsR B h d O[k].P→K a):∃ a:Addr,s.base=some a∧0≤i∧i<(s.len:Int)∧K a:=by
 have hl:=p.len
 obtain⟨L,rfl,h2,_,h4⟩:=p
 subst hi
 have hkL:k<L.length:=by simpa using hk
 obtain⟨a,ha,hc⟩:=h2.rd (k*5+4) (.slice L[k].2.base L[k].2.len L[k].2.cap) (by rw[c5_get L k 4 (by omega),List.getElem?_eq_getElem hkL];rfl)
 have hm:=h4 _ (List.getElem_mem hkL)
 refine⟨a,ha,by omega,by omega,hK a L[k].2 (by rw[Int.toNat_natCast,add_add];exact hc) ?_⟩
 simpa using hm
theorem IntsR.eq{B:Nat→Prop}{h h':Hp}{s:Sl}{l:List Int}(p:IntsR B h s l)(e:∀ b,B b→h'[b]? = h[b]?):IntsR B h' s l:=⟨p.1.mv p.2 e,p.2⟩
theorem IntsR.mono{B B':Nat→Prop}{h:Hp}{s:Sl}{l:List Int}(p:IntsR B h s l)(hb:∀ b,B b→B' b):IntsR B' h s l:=⟨p.1,fun a ha hn=>hb _ (p.2 a ha hn)⟩
theorem IntsR.len{B:Nat→Prop}{h:Hp}{s:Sl}{l:List Int}(p:IntsR B h s l):s.len=l.length:=by have:=p.1.len;simp at this;omega
structure StepD where
 k:Int
 c:Int
 O:List OpD
 n:Int
 pk:List Int
 tn:List Int
structure StSl where
 ops:Sl
 pk:Sl
 tn:Sl
def stepV(x:StepD × StSl):List Value:=[.int .i64 x.1.k,.int .i64 x.1.c,.slice x.2.ops.base x.2.ops.len x.2.ops.cap,.int .i64 x.1.n,.slice x.2.pk.base x.2.pk.len x.2.pk.cap,.slice x.2.tn.base x.2.tn.len x.2.tn.cap]
def c6(l:List (StepD × StSl)):List Value:=l.flatMap stepV
theorem stepV_len(x:StepD × StSl):(stepV x).length=6:=rfl
theorem c6_cons(x:StepD × StSl)(r:List (StepD × StSl)):c6 (x::r)=stepV x++c6 r:=rfl
theorem c6_length:∀ l:List (StepD × StSl),(c6 l).length=l.length*6
 | []=>rfl
 | x::r=>by rw[c6_cons,List.length_append,c6_length r,stepV_len];simp only[List.length_cons];omega
theorem c6_get:∀ (l:List (StepD × StSl)) (i j:Nat),j<6→(c6 l)[i*6+j]? =(l[i]?).bind fun x=>(stepV x)[j]?
 | [],i,j,_=>by simp[c6]
 | x::r,0,j,h=>by rw[c6_cons,List.getElem?_append_left (by rw[stepV_len];omega)];simp
 | x::r,i+1,j,h=>by
   rw[c6_cons,List.getElem?_append_right (by rw[stepV_len];omega)]
   rw[show(i+1)*6+j-(stepV x).length=i*6+j by rw[stepV_len];omega,c6_get r i j h]
   rfl
def StepsR(B:Nat→Prop)(h:Hp)(s:Sl)(T:List StepD):Prop:=
 ∃ L:List (StepD × StSl),T=L.map (·.1)∧Rd 6 h s (c6 L)∧(∀ a,s.base=some a→s.len≠0→B a.block)∧∀ x∈L,OpsR0 B h x.2.ops x.1.O∧IntsR B h x.2.pk x.1.pk∧IntsR B h x.2.tn x.1.tn
theorem StepsR.eq{B:Nat→Prop}{h h':Hp}{s:Sl}{T:List StepD}(p:StepsR B h s T)(e:∀ b,B b→h'[b]? = h[b]?):StepsR B h' s T:=by
 obtain⟨L,h1,h2,h3,h4⟩:=p
 exact⟨L,h1,h2.mv h3 e,h3,fun x hx=>⟨(h4 x hx).1.eq e,(h4 x hx).2.1.eq e,(h4 x hx).2.2.eq e⟩⟩
theorem StepsR.mono{B B':Nat→Prop}{h:Hp}{s:Sl}{T:List StepD}(p:StepsR B h s T)(hb:∀ b,B b→B' b):StepsR B' h s T:=by
 obtain⟨L,h1,h2,h3,h4⟩:=p
 exact⟨L,h1,h2,fun a ha hn=>hb _ (h3 a ha hn),fun x hx=>⟨(h4 x hx).1.mono hb,(h4 x hx).2.1.mono hb,(h4 x hx).2.2.mono hb⟩⟩
theorem StepsR.to{S:Kd→Prop}{A B:Gh}{a b:Hp}(x:To S A a B b){s:Sl}{T:List StepD}(p:StepsR (Stab A a) a s T):StepsR (Stab B b) b s T:=
 (p.eq fun k hk=>(x.stab hk).1).mono fun k hk=>(x.stab hk).2
theorem StepsR.len{B:Nat→Prop}{h:Hp}{s:Sl}{T:List StepD}(p:StepsR B h s T):s.len=T.length:=by
 obtain⟨L,rfl,h2,_⟩:=p
 have:=h2.len
 rw[c6_length]at this
 simp;omega
theorem StepsR.ix{B:Nat→Prop}{h:Hp}{s:Sl}{T:List StepD}(p:StepsR B h s T){i:Int}(k:Nat)(hi:i=k)(hk:k<T.length){K:Addr→Prop}
 (hK:∀ (a:Addr) (u:StSl),hY h (a.add (i.toNat*6))=some (.int .i64 T[k].k)→hY h ((a.add (i.toNat*6)).add 1)=some (.int .i64 T[k].c)→hY h ((a.add (i.toNat*6)).add 2)=some (.slice u.ops.base u.ops.len u.ops.cap)→hY h ((a.add (i.toNat*6)).add 3)=some (.int .i64 T[k].n)→hY h ((a.add (i.toNat*6)).add 4)=some (.slice u.pk.base u.pk.len u.pk.cap)→hY h ((a.add (i.toNat*6)).add 5)=some (.slice u.tn.base u.tn.len u.tn.cap)→OpsR0 B h u.ops T[k].O→IntsR B h u.pk T[k].pk→IntsR B h u.tn T[k].tn→K a):∃ a:Addr,s.base=some a∧0≤i∧i<(s.len:Int)∧K a:=by
 have hl:=p.len
 obtain⟨L,rfl,h2,_,h4⟩:=p
 subst hi
 have hkL:k<L.length:=by simpa using hk
 have g:∀ j,j<6→(c6 L)[k*6+j]? =(stepV L[k])[j]?:=fun j hj=>by rw[c6_get L k j hj,List.getElem?_eq_getElem hkL];rfl
 have cell:∀ j v,j<6→(stepV L[k])[j]? = some v →∃ a:Addr,s.base=some a∧hY h ((a.add (((k:Int)).toNat*6)).add j)=some v:=fun j v hj hv=>by
  obtain⟨a,ha,hc⟩:=h2.rd (k*6+j) v (by rw[g j hj];exact hv)
  exact⟨a,ha,by rw[Int.toNat_natCast,add_add];exact hc⟩
 obtain⟨a,ha,q0⟩:=cell 0 _ (by omega) rfl
 obtain⟨a1,ha1,q1⟩:=cell 1 _ (by omega) rfl
 obtain⟨a2,ha2,q2⟩:=cell 2 _ (by omega) rfl
 obtain⟨a3,ha3,q3⟩:=cell 3 _ (by omega) rfl
 obtain⟨a4,ha4,q4⟩:=cell 4 _ (by omega) rfl
 obtain⟨a5,ha5,q5⟩:=cell 5 _ (by omega) rfl
 rw[ha]at ha1 ha2 ha3 ha4 ha5
 cases ha1;cases ha2;cases ha3;cases ha4;cases ha5
 rw[Addr.add_zero]at q0
 have hm:=h4 _ (List.getElem_mem hkL)
 refine⟨a,ha,by omega,by omega,hK a L[k].2 ?_ ?_ q2 ?_ q4 q5 ?_ ?_ ?_⟩
 ·simpa using q0
 ·simpa using q1
 ·simpa using q3
 ·simpa using hm.1
 ·simpa using hm.2.1
 ·simpa using hm.2.2
def StepsM(T:List StepD):Prop:=T.length≤maxLen∧∀ x∈T,x.O.length≤maxLen∧x.pk.length≤maxLen∧x.tn.length≤maxLen∧∀ o∈x.O,o.P.length≤maxLen∧∀ q∈o.P,q.2.length≤maxLen
def SmallT(T:List StepD):Prop:=T.length≤150∧∀ x∈T,x.O.length≤20000∧∀ o∈x.O,PutsB o.P
theorem small_spec{h:Hp}{s:Sl}{T:List StepD}(p:StepsR (· < h.size) h s T)(hT:StepsM T):HC Tryz.prog 5 #[.slice s.base s.len s.cap] h fun r h'=>Ext h h'∧∃ c,r=.bool c∧(c=true→SmallT T):=by
 apply wc5
 unfold vc5
 have hl:=p.len
 obtain⟨hm,hx⟩:=hT
 simp only[maxLen]at hm hx
 refine⟨fun n i m h'=>Ext h h'∧∃ k q:Nat,i=k∧n=q∧m+k=T.length∧q≤1099511627776∧∀ j (hj:j<T.length),j<k→T[j].O.length≤20000∧∀ o∈T[j].O,PutsB o.P,T.length,⟨.refl _,0,0,rfl,rfl,rfl,by omega,fun j _ hj=>by omega⟩,?_⟩
 rintro _ _ _ m h1 ⟨e1,k,q,rfl,rfl,hmk,hq,hdone⟩
 refine IfB.dec (fun hlt=>?_) fun hge=>?_
 ·have hk:k<T.length:=by omega
  obtain⟨x1,x2,x3,x4⟩:=hx T[k] (List.getElem_mem hk)
  have p1:StepsR (· < h.size) h1 s T:=p.eq fun b hb=>e1.block b hb
  refine p1.ix k rfl hk fun a u _ _ c2 _ c4 c5' ro rp rt=>⟨u.ops,c2,?_⟩
  refine p1.ix k rfl hk fun a' u' _ _ _ _ c4' _ _ rp' _=>⟨u'.pk,c4',?_⟩
  refine p1.ix k rfl hk fun a'' u'' _ _ _ _ _ c5'' _ _ rt''=>⟨u''.tn,c5'',?_⟩
  have l1:=ro.len
  have l2:=rp'.len
  have l3:=rt''.len
  intro h2
  refine⟨alc_ext _ _ _,(SumA_spec q hq [u.ops.len,u'.pk.len,u''.tn.len,3] (by simp) (by simp;omega) h1 3).mono ?_⟩
  rintro _ h3 ⟨rfl,e3⟩
  refine⟨_,rfl,e3,?_⟩
  refine⟨fun n i m h'=>Ext h h'∧∃ j q:Nat,i=j∧n=q∧m+j=T[k].O.length∧q≤1099511627776∧(q≤20000→T[k].O.length≤20000∧∀ z (hz:z<T[k].O.length),z<j→PutsB (T[k].O[z]).P),T[k].O.length,⟨e1.trans e3,0,_,rfl,rfl,rfl,Nat.min_le_right _ _,fun hle=>⟨by have:=min20 hle;simp only[List.sum_cons,List.sum_nil]at this;omega,fun z _ hz=>by omega⟩⟩,?_⟩
  rintro _ _ _ m4 h4 ⟨e4,j,q4,rfl,rfl,hmj,hq4,hin⟩
  have p4:StepsR (· < h.size) h4 s T:=p.eq fun b hb=>e4.block b hb
  have next:q4≤20000→j=T[k].O.length →∃ n2,n2<m∧(Ext h h4∧∃ k' q:Nat,iAdd .i64 (k:Int) (1:Int)=k'∧(q4:Int)=q∧n2+k'=T.length∧q≤1099511627776∧∀ j (hj:j<T.length),j<k'→T[j].O.length≤20000∧∀ o∈T[j].O,PutsB o.P):=fun hle hj=>by
   refine⟨m-1,by omega,e4,k+1,q4,by rw[iAdd64 (by omega)];push_cast;rfl,rfl,by omega,hq4,fun z hz hzk=>?_⟩
   by_cases e:z=k
   ·subst e
    refine⟨(hin hle).1,fun o ho=>?_⟩
    obtain⟨y,hy,rfl⟩:=List.mem_iff_getElem.1 ho
    exact(hin hle).2 y hy (by omega)
   ·exact hdone z hz (by omega)
  have fin:20000<q4→Ext h h4∧∃ c,Value.bool false=.bool c∧(c=true→SmallT T):=fun _=>⟨e4,false,rfl,fun h=>by cases h⟩
  refine p4.ix k rfl hk fun b v _ _ d2 _ _ _ so _ _=>⟨v.ops,d2,?_⟩
  have l5:=so.len
  refine IfB.dec (fun hjl=>IfB.dec (fun hle=>?_) fun hgt=>IfB.dec (fun _=>fin (by omega)) fun hh=>absurd (by omega) hh) fun hjg=>IfB.dec (fun hgt=>fin (by omega)) fun hle=>next (by omega) (by omega)
  have hj:j<T[k].O.length:=by omega
  clear next fin
  refine p4.ix k rfl hk fun b' v' _ _ d2' _ _ _ so' _ _=>⟨v'.ops,d2',?_⟩
  obtain⟨o1,o2⟩:=x4 _ (List.getElem_mem hj)
  refine so'.ix j rfl hj fun a5 d d4 pd=>⟨d,d4,(topPuts_spec pd (by simp only[maxLen];omega) (by simp only[maxLen];exact o2)).mono ?_⟩
  rintro _ h5 ⟨e5,n5,rfl,hn5,hb5⟩
  refine⟨_,rfl,?_⟩
  intro h6
  refine(SumA_spec q4 hq4 [n5] (by simp) (by simp;omega) h5 3).mono ?_
  rintro _ h7 ⟨rfl,e7⟩
  refine⟨_,rfl,m4-1,by omega,(e4.trans e5).trans e7,j+1,_,by rw[iAdd64 (by omega)];push_cast;rfl,rfl,by omega,Nat.min_le_right _ _,fun hle2=>?_⟩
  have hle2:=min20 hle2
  simp only[List.sum_cons,List.sum_nil]at hle2
  have hq2:q4≤20000:=by omega
  refine⟨(hin hq2).1,fun z hz hzj=>?_⟩
  by_cases e:z=j
  ·subst e;exact hb5 (by omega)
  ·exact(hin hq2).2 z hz (by omega)
 ·refine⟨e1,_,rfl,fun hc=>⟨by have:=of_decide_eq_true hc;omega,fun x hx'=>?_⟩⟩
  obtain⟨j,hj,rfl⟩:=List.mem_iff_getElem.1 hx'
  exact hdone j hj (by omega)
def RunAt(G:Gh)(h:Hp)(M N sc base:Nat):Prop:=
 ∃ (X:StD) (cl:List CSl) (bg:List BgD) (ev:Int) (db sb:Nat) (all:Sl) (bb:Nat→Nat),SdIn G h M N sc X cl bg bg.length ev db sb all bb∧SdOk G.W N X bg base∧Live X.dv
def FlushD(D D':MgrD):Prop:=(D.queue = []∧D'=D) ∨∃ (c:Int) (k:Nat),1≤k∧k≤D.queue.length∧D'=doneD c D k
theorem topBegin_spec{h:Hp}:HC Tryz.prog 7 #[] h fun r h'=>∃ (sc:Nat) (G':Gh) (X:StD) (db sb:Nat),r=.tuple #[pv sc,.bool true]∧To sSt G00 h G' h'∧G'.W=G00.W∧SdIn G' h' 258 193 sc X (List.replicate 8 cl0) [] 0 0 db sb Sl.nil id∧SdOk G'.W 193 X [] 0∧Live X.dv∧X.D=⟨[],[],0,0,0,0,0,false⟩∧X.num=0∧X.pos=0∧X.count=0:=by
 apply wc7
 unfold vc7
 have hl:HC Tryz.prog 27 #[] h fun r h'=>r=.agg #[.int .i64 (8:Int),.int .i64 (96:Int)]∧Ext h h':=by
  apply wc27
  unfold vc27
  intro h1
  have e1:Ext h h1:=alc_ext _ _ _
  have s1:h1.size=h.size+1:=size_alc _ _ _
  refine(Row.alc h [.int .i64 (0:Int),.int .i64 (0:Int)] 69).put (vs:=[.int .i64 (8:Int),.int .i64 (96:Int)]) rfl (by simp[cellOk]) fun h2 r2 s2 o2=>?_
  exact⟨8,96,r2.get0 rfl,r2.get rfl,rfl,by rw[s2];exact e1.size,fun b hb=>by rw[o2 b (by omega),e1.block b hb]⟩
 refine hl.mono ?_
 rintro _ h1 ⟨rfl,e1⟩
 refine⟨8,96,rfl,dNew_spec.mono ?_⟩
 rintro _ h2 ⟨sc,G',X,db,sb,rfl,y,w,x,o,l,hD,hn,hp,hc⟩
 have y':To sSt G00 h G' h2:=⟨y.le,fun b hb=>y.old b (Nat.lt_of_lt_of_le hb e1.size),Nat.le_trans e1.size y.size,fun b hb hn=>by rw[y.fr b (Nat.lt_of_lt_of_le hb e1.size) hn,e1.block b hb],y.ht⟩
 exact⟨_,_,rfl,.yes rfl ⟨sc,G',X,db,sb,rfl,y',w,x,o,l,hD,hn,hp,hc⟩⟩
section
variable{G:Gh}{h:Hp}{M N sc:Nat}{X:StD}{cl:List CSl}{bg:List BgD}{base:Nat}{ev:Int}{db sb:Nat}{all:Sl}{bb:Nat→Nat}
theorem topFlush_spec(t:HT G h)(x:SdIn G h M N sc X cl bg bg.length ev db sb all bb)(o:SdOk G.W N X bg base)(l:Live X.dv)(hN:N+2≤900000)(hM:M+128≤1000000):HC Tryz.prog 18 #[pv sc] h fun r h'=>∃ (G':Gh) (c:Int) (X':StD) (ev':Int),r=.int .i64 c∧To sStep G h G' h'∧SdIn G' h' (M+128) (N+2) sc X' cl bg bg.length ev' db sb all bb∧SdOk G'.W (N+2) X' bg base∧Live X'.dv∧FlushD X.D X'.D:=by
 apply wc18
 unfold vc18
 refine(dFlush_spec t x o (by omega) hM).mono ?_
 rintro _ h1 ⟨G1,c,X1,rfl,y1,x1,_,lv⟩
 obtain⟨o1,l1,f1⟩:=lv l
 have fd:FlushD X.D X1.D:=by
  rcases f1 with ⟨_,rfl,hq⟩ | ⟨k,h1,h2,_,hD,_⟩
  ·exact .inl ⟨hq,rfl⟩
  ·exact .inr ⟨c,k,h1,h2,hD⟩
 refine⟨_,rfl,IfB.eq (fun _=>?_) fun _=>⟨G1,c,X1,_,rfl,y1,x1.moreN (by omega),o1.moreN (by omega),l1,fd⟩⟩
 refine(dCheck_spec y1.ht x1 o1 l1 (by omega) (by omega)).mono ?_
 rintro _ h2 ⟨G2,X2,rfl,y2,x2,o2,l2,hD⟩
 exact⟨_,rfl,G2,c,X2,_,rfl,y1.trans y2,x2,o2,l2,by rw[hD];exact fd⟩
theorem topOne_spec(t:HT G h)(r:RunAt G h M N sc base)(hN:N+2≤900000)(hM:M+128≤1000000)(s:StepD){u:StSl}(ro:OpsR (Stab G h) h u.ops s.O)(hO:s.O.length≤1000000) :
 HC Tryz.prog 8 #[pv sc,.agg #[.int .i64 s.k,.int .i64 s.c,.slice u.ops.base u.ops.len u.ops.cap,.int .i64 s.n,.slice u.pk.base u.pk.len u.pk.cap,.slice u.tn.base u.tn.len u.tn.cap]] h fun r h'=>r=.tuple #[]∧∃ G':Gh,To (fun _=>True) G h G' h'∧RunAt G' h' (M+128) (N+2) sc base:=by
 obtain⟨X,cl,bg,ev,db,sb,all,bb,x,o,l⟩:=r
 apply wc8
 unfold vc8
 intro h1
 have e1:Ext h h1:=alc_ext _ _ _
 have y1:To (fun _=>False) G h G h1:=e1.to t
 have r1:Row h1 h.size [.int .i64 s.k,.int .i64 s.c,.slice u.ops.base u.ops.len u.ops.cap,.int .i64 s.n,.slice u.pk.base u.pk.len u.pk.cap,.slice u.tn.base u.tn.len u.tn.cap]:=Row.alc _ _ _
 have e0:nw h=(⟨h.size,0,none⟩:Addr):=rfl
 rw[e0]
 clear_value h1
 clear e0
 have x1:=x.pure y1
 have ro1:=ro.to y1
 have yT:To (fun _=>True) G h G h1:=y1.mono fun _ h=>h.elim
 refine⟨_,r1.get0 rfl,IfB.eq (fun _=>?_) fun _=>IfB.eq (fun _=>?_) fun _=>IfB.eq (fun _=>?_) fun _=>IfB.eq (fun _=>?_) fun _=>IfB.eq (fun _=>?_) fun _=>IfB.eq (fun _=>?_) fun _=>?_⟩
 ·refine⟨_,r1.get rfl,_,r1.get rfl,(dAdd_spec y1.ht x1 _ ro1 hO).mono ?_⟩
  rintro _ h2 ⟨G2,e,cl2,rfl,y2,w2,x2,_⟩
  exact⟨_,rfl,rfl,G2,yT.trans (y2.mono fun _ _=>trivial),X,cl2,bg,ev,db,sb,all,bb,(x2.moreM y2.ht (by omega)).moreN (by omega),by rw[w2];exact o.moreN (by omega),l⟩
 ·refine⟨_,r1.get rfl,(dStep_spec y1.ht x1 o (by omega) (by omega) _).mono ?_⟩
  rintro _ h2 ⟨G2,X2,cl2,bg2,all2,bb2,ev2,b0,b1,b2,b3,e,sl,rfl,y2,w2,x2,o2,hdv,_⟩
  exact⟨_,_,_,_,sl,_,rfl,rfl,G2,yT.trans (y2.mono fun _ _=>trivial),X2,cl2,bg2,ev2,db,sb,all2,bb2,(x2.moreM y2.ht (by omega)).moreN (by omega),by rw[w2];exact o2.moreN (by omega),by rw[hdv];exact l⟩
 ·refine(topFlush_spec y1.ht x1 o l hN hM).mono ?_
  rintro _ h2 ⟨G2,c,X2,ev2,rfl,y2,x2,o2,l2,_⟩
  exact⟨_,rfl,rfl,G2,yT.trans (y2.mono fun _ _=>trivial),X2,cl,bg,ev2,db,sb,all,bb,x2,o2,l2⟩
 ·refine(dCheck_spec y1.ht x1 o l (by omega) (by omega)).mono ?_
  rintro _ h2 ⟨G2,X2,rfl,y2,x2,o2,l2,_⟩
  exact⟨_,rfl,rfl,G2,yT.trans (y2.mono fun _ _=>trivial),X2,cl,bg,_,db,sb,all,bb,(x2.moreM y2.ht (by omega)).moreN (by omega),o2.moreN (by omega),l2⟩
 ·refine(dClean_spec y1.ht x1 o (by omega)).mono ?_
  rintro _ h2 ⟨G2,n,rfl,y2,x2,o2⟩
  exact⟨_,rfl,rfl,G2,yT.trans (y2.mono fun _ _=>trivial),X,cl,bg,_,db,sb,all,bb,(x2.moreM y2.ht (by omega)).moreN (by omega),o2.moreN (by omega),l⟩
 ·refine⟨_,r1.get rfl,by omega,(dReadOnly_spec y1.ht x1 o _).mono ?_⟩
  rintro _ h2 ⟨G2,X2,rfl,y2,x2,o2,hdv⟩
  exact⟨rfl,rfl,G2,yT.trans (y2.mono fun _ _=>trivial),X2,cl,bg,_,db,sb,all,bb,(x2.moreM y2.ht (by omega)).moreN (by omega),o2.moreN (by omega),by rw[hdv];exact l⟩
 ·exact⟨rfl,G,yT,X,cl,bg,ev,db,sb,all,bb,(x1.moreM y1.ht (by omega)).moreN (by omega),o.moreN (by omega),l⟩
end
end Go.Proofs.YtdpdkpfnfllipaaGreatDoor
