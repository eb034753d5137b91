/- A part of the proof, no condition. -/
import Derived.Test.YtdpdkpfnfllipaaGreatDoorN4
import Derived.Test.YtdpdkpfnfllipaaGreatDoorN5
import Derived.Test.YtdpdkpfnfllipaaGreatDoorN6
set_option linter.unusedVariables false
set_option linter.unusedSimpArgs false
namespace Go.Proofs.YtdpdkpfnfllipaaGreatDoor
theorem Order_spec{B:Nat→Prop}{h:Hp}{s:Sl}{T:List TxD}(t:TxsR B h s T)(hT:T.length≤1000000)(hP:∀ j,(pt T j).length≤1000000) :
 HC Tryz.prog 219 #[.slice s.base s.len s.cap] h fun r h'=>Ext h h'∧∃ b,r=.bool b∧(b=true↔OrderP T):=by
 apply wc219
 unfold vc219
 have hl:=t.len
 refine⟨fun last i m h'=>∃ j:Nat,i=j∧m+j=T.length∧Ext h h'∧last=prevT T j∧∀ k,k<j→prevT T k<tm T k∧tm T k≤1099511627776∧(pt T k).length≠0∧RisesP (pt T k),T.length,⟨0,rfl,rfl,.refl h,rfl,fun k hk=>by omega⟩,?_⟩
 rintro _ _ _ m h1 ⟨j,rfl,hm,e1,rfl,hok⟩
 refine IfB.dec (fun hlt=>?_) (fun hge=>?_)
 ·have hj:j<T.length:=by omega
  refine(t.ext e1).ix j rfl hj fun a d c0 c1 hp=>⟨_,d,c0,c1,?_⟩
  rw[tm_get hj]
  rw[pt_get hj]at hp
  have hpl:=hp.len
  intro h2
  refine loc2 rfl rfl fun h3 e3 r3=>?_
  refine⟨_,r3.get0 rfl,IfB.dec (fun hle=>⟨e1.trans e3,_,rfl,ffIff fun ho=>?_⟩) (fun hle=>⟨_,r3.get0 rfl,IfB.dec (fun hbig=>⟨e1.trans e3,_,rfl,ffIff fun ho=>?_⟩) (fun hbig=>⟨_,r3.get rfl,IfB.eq (fun h0=>⟨e1.trans e3,_,rfl,ffIff fun ho=>?_⟩) (fun h0=>⟨_,r3.get0 rfl,?_⟩)⟩)⟩)⟩
  ·have:=(ho j hj).1;omega
  ·have:=(ho j hj).2.1;omega
  ·have:=(ho j hj).2.2.1;omega
  refine⟨fun i q h'=>h'=h3∧∃ k:Nat,i=k∧q+k=(pt T j).length∧1≤k∧∀ x,0<x→x<k→lb (pt T j) (x-1)<lb (pt T j) x,(pt T j).length-1,⟨rfl,1,rfl,by omega,by omega,fun x h1 h2=>by omega⟩,?_⟩
  rintro _ _ q _ ⟨rfl,k,rfl,hq,hk1,hk⟩
  have hp3:=hp.ext e3
  refine⟨_,r3.get rfl,IfB.dec (fun hlt2=>?_) (fun hge2=>?_)⟩
  ·have hkk:k<(pt T j).length:=by omega
   refine⟨_,r3.get rfl,hp3.ix k rfl hkk fun a2 d2 c2 _ _ _=>⟨_,c2,_,r3.get rfl,?_⟩⟩
   rw[lb_get hkk]
   have hP':=hP j
   refine hp3.ix (k-1) (by rw[iSub64 (by omega)];omega) (by omega) fun a3 d3 c3 _ _ _=>⟨_,c3,?_⟩
   rw[lb_get (show k-1<(pt T j).length by omega)]
   refine IfB.dec (fun hbad=>⟨e1.trans e3,_,rfl,ffIff fun ho=>?_⟩) (fun hgood=>⟨q-1,by omega,rfl,k+1,by rw[iAdd64 (by omega)];push_cast;rfl,by omega,by omega,fun x hx1 hx2=>?_⟩)
   ·have:=(ho j hj).2.2.2 k (by omega) hkk;omega
   ·by_cases e:x=k
    ·subst e;omega
    ·exact hk x hx1 (by omega)
  ·refine⟨m-1,by omega,j+1,by rw[iAdd64 (by omega)];push_cast;rfl,by omega,e1.trans e3,by simp[prevT],fun k' hk'=>?_⟩
   by_cases e:k'=j
   ·subst e;exact⟨by omega,by omega,by omega,fun x hx1 hx2=>hk x hx1 (by omega)⟩
   ·exact hok k' (by omega)
 ·exact⟨e1,_,rfl,⟨fun _ j' hj'=>hok j' (by omega),fun _=>rfl⟩⟩
theorem Blocks_spec{B:Nat→Prop}{h:Hp}{s:Sl}{T:List TxD}(num:Int)(t:TxsR B h s T)(hT:T.length≤1000000)(hb:blocksN T≤4611686018427387904) :
 HC Tryz.prog 220 #[.agg #[.int .i64 num,.slice s.base s.len s.cap]] h fun r h'=>Ext h h'∧r=.int .i64 (blocksN T:Int):=by
 apply wc220
 unfold vc220
 have hl:=t.len
 intro h1
 have e1:Ext h h1:=alc_ext _ _ _
 have r1:Row h1 h.size [.int .i64 num,.slice s.base s.len s.cap]:=Row.alc _ _ _
 refine⟨s,r1.get rfl,?_⟩
 refine⟨fun n i m h'=>∃ j:Nat,i=j∧m+j=T.length∧Ext h h'∧n=(blocksN (T.take j):Int),T.length,⟨0,rfl,rfl,e1,rfl⟩,?_⟩
 rintro _ _ _ m h2 ⟨j,rfl,hm,e2,rfl⟩
 refine IfB.dec (fun hlt=>?_) (fun hge=>?_)
 ·have hj:j<T.length:=by omega
  refine(t.ext e2).ix j rfl hj fun a d c0 c1 hp=>⟨_,d,c0,c1,?_⟩
  rw[pt_get hj]at hp
  have hpl:=hp.len
  intro h3
  refine loc2 rfl rfl fun h4 e4 r4=>⟨_,r4.get rfl,m-1,by omega,j+1,by rw[iAdd64 (by omega)];push_cast;rfl,by omega,e2.trans e4,?_⟩
  have h1:=blocksN_take hj
  have h2:=blocksN_le T (j+1)
  rw[iAdd64 (by omega),h1,hpl];push_cast;rfl
 ·obtain rfl:j=T.length:=by omega
  rw[List.take_length]
  exact⟨e2,rfl⟩
theorem put_ok_spec(p:Int){h:Hp}{s:Sl}{l:List UInt8}(hs:s.len=l.length):HC Tryz.prog 222 #[.agg #[.int .i64 p,.slice s.base s.len s.cap]] h fun r h'=>Ext h h'∧∃ b,r=.bool b∧(b=true↔PutOk (p,l)):=by
 apply wc222
 unfold vc222
 intro h1
 have e1:Ext h h1:=alc_ext _ _ _
 have r1:Row h1 h.size [.int .i64 p,.slice s.base s.len s.cap]:=Row.alc _ _ _
 refine⟨p,r1.get0 rfl,IfB.dec (fun hp=>⟨p,r1.get0 rfl,IfB.dec (fun hp2=>⟨s,r1.get rfl,e1,_,rfl,?_⟩) (fun hp2=>⟨e1,_,rfl,⟨fun h=>(by cases h),fun h=>by have:=h.2.1;omega⟩⟩)⟩) (fun hp=>⟨e1,_,rfl,⟨fun h=>(by cases h),fun h=>by have:=h.1;omega⟩⟩)⟩
 rw[hs,beq_iff_eq]
 exact⟨fun h=>⟨by omega,by omega,by show l.length=40;omega⟩,fun h=>by have:l.length=40:=h.2.2;omega⟩
theorem putBad_spec{B:Nat→Prop}{h:Hp}{s:Sl}{P:List PutD}(t:PutsR B h s P)(hP:P.length≤1000000) :
 HC Tryz.prog 172 #[.slice s.base s.len s.cap,.func (.func 221) #[] #[]] h fun r h'=>Ext h h'∧∃ b,r=.bool b∧(b=false ↔∀ p∈P,PutOk p):=by
 apply wc172
 unfold vc172
 have hl:=t.len
 have ix:HC Tryz.prog 228 #[.slice s.base s.len s.cap,.func (.func 221) #[] #[]] h fun r h'=>Ext h h'∧∃ c:Int,r=.int .i64 c∧(¬ c ≥ 0 ↔∀ p∈P,PutOk p):=by
  apply wc228
  unfold vc228
  refine⟨fun i m h'=>∃ k:Nat,i=k∧m+k=P.length∧Ext h h'∧∀ x (hx:x<P.length),x<k→PutOk P[x],P.length,⟨0,rfl,rfl,.refl h,fun x _ h=>by omega⟩,?_⟩
  rintro _ _ m h1 ⟨k,rfl,hm,e1,hok⟩
  refine IfB.dec (fun hlt=>?_) (fun hge=>?_)
  ·have hk:k<P.length:=by omega
   refine(t.ext e1).ix k rfl hk fun a d c0 c1 rd _=>⟨_,d,c0,c1,?_⟩
   have f:HC Tryz.prog 221 #[.agg #[.int .i64 P[k].1,.slice d.base d.len d.cap]] h1 fun r h'=>Ext h1 h'∧∃ b,r=.bool b∧(b=false↔PutOk P[k]):=by
    apply wc221
    unfold vc221
    intro h2
    have e2:Ext h1 h2:=alc_ext _ _ _
    have r2:Row h2 h1.size [.int .i64 P[k].1,.slice d.base d.len d.cap]:=Row.alc _ _ _
    refine r2.get2s ?_
    refine(put_ok_spec P[k].1 (l:=P[k].2) (by have:=rd.lenB;omega)).mono ?_
    rintro _ h3 ⟨e3,b,rfl,hb⟩
    exact⟨b,rfl,e2.trans e3,_,rfl,by rw[← show(P[k].1,P[k].2)=P[k] from rfl,← hb];cases b <;> simp⟩
   refine f.mono ?_
   rintro _ h2 ⟨e2,b,rfl,hb⟩
   refine⟨b,rfl,IfB.intro (fun hbt=>⟨e1.trans e2,_,rfl,⟨fun h=>by omega,fun hall=>?_⟩⟩) (fun hbf=>⟨m-1,by omega,k+1,by rw[iAdd64 (by omega)];push_cast;rfl,by omega,e1.trans e2,fun x hx hxk=>?_⟩)⟩
   ·have:=hb.2 (hall _ (List.getElem_mem hk));rw[hbt]at this;cases this
   ·by_cases e:x=k
    ·subst e;exact hb.1 hbf
    ·exact hok x hx (by omega)
  ·refine⟨e1,_,rfl,⟨fun _ p hp=>?_,fun _=>by omega⟩⟩
   obtain⟨x,hx,rfl⟩:=List.mem_iff_getElem.1 hp
   exact hok x hx (by omega)
 refine ix.mono ?_
 rintro _ h1 ⟨e1,c,rfl,hc⟩
 exact⟨_,rfl,e1,_,rfl,by rw[← hc];simp⟩
theorem prev_le{T:List TxD}(ho:OrderP T){j:Nat}(hj:j<T.length):0<tm T j:=by
 induction j with
 | zero=>have:=(ho 0 hj).1;simpa [prevT] using this
 | succ j ih=>have:=ih (by omega);have h2:=(ho (j+1) hj).1;simp[prevT]at h2;omega
theorem Check_spec{B:Nat→Prop}{h:Hp}{s:Sl}{T:List TxD}(num:Int)(t:TxsR B h s T)(hP:∀ j,(pt T j).length≤1000000) :
 HC Tryz.prog 167 #[.agg #[.int .i64 num,.slice s.base s.len s.cap]] h fun r h'=>Ext h h'∧∃ c:Int,r=.int .i64 c∧(c=0↔CheckP num T)∧(c=0∨c=1):=by
 apply wc167
 unfold vc167
 have hl:=t.len
 intro h1
 have e1:Ext h h1:=alc_ext _ _ _
 have r1:Row h1 h.size [.int .i64 num,.slice s.base s.len s.cap]:=Row.alc _ _ _
 have no:∀ {h':Hp},Ext h h' →¬ CheckP num T→Ext h h'∧∃ c:Int,Value.int .i64 (1:Int)=.int .i64 c∧(c=0↔CheckP num T)∧(c=0∨c=1):=fun e hn=>⟨e,1,rfl,⟨fun h=>by omega,fun h=>absurd h hn⟩,.inr rfl⟩
 refine⟨num,r1.get0 rfl,IfB.dec (fun hh=>no e1 fun k=>by have:=k.num;omega) (fun hn1=>⟨num,r1.get0 rfl,IfB.dec (fun hh=>no e1 fun k=>by have:=k.num;omega) (fun hn2=>⟨s,r1.get rfl,IfB.eq (fun hh=>no e1 fun k=>by have:=k.len;omega) (fun hl1=>⟨s,r1.get rfl,IfB.dec (fun hh=>no e1 fun k=>by have:=k.len;omega) (fun hl2=>⟨s,r1.get rfl,?_⟩)⟩)⟩)⟩)⟩
 refine(Order_spec (t.ext e1) (by omega) hP).mono ?_
 rintro _ h2 ⟨e2,b,rfl,hb⟩
 refine⟨b,rfl,IfB.not (IfB.intro (fun hbt=>?_) (fun hbf=>no (e1.trans e2) fun k=>by have:=hb.2 k.order;rw[hbf]at this;cases this))⟩
 have ho:=hb.1 hbt
 have e02:=e1.trans e2
 refine(r1.ext e2).get2s ?_
 have hbn:blocksN T≤4611686018427387904:=by
  have:∀ (l:List TxD),(∀ x∈l,x.2.length≤1000000)→(l.map (·.2.length)).sum≤l.length*1000000:=by
   intro l
   induction l with
   | nil=>intro _;simp
   | cons x r ih=>
     intro hx
     have h1:=hx x (by simp)
     have h2:=ih fun y hy=>hx y (by simp[hy])
     simp only[List.map_cons,List.sum_cons,List.length_cons];omega
  have h1:=this T fun x hx=>by
   obtain⟨j,hj,rfl⟩:=List.mem_iff_getElem.1 hx
   have:=hP j
   rw[pt_get hj];exact this
  unfold blocksN;omega
 refine(Blocks_spec num (t.ext e02) (by omega) hbn).mono ?_
 rintro _ h3 ⟨e3,rfl⟩
 have e03:=e02.trans e3
 refine⟨_,rfl,IfB.dec (fun hh=>no e03 fun k=>by have:=k.blocks;omega) (fun hblk=>⟨s,(r1.ext (e2.trans e3)).get rfl,?_⟩)⟩
 refine⟨fun i m h'=>∃ j:Nat,i=j∧m+j=T.length∧Ext h1 h'∧∀ x,x<j→(0<x→tm T x-tm T (x-1)≤65535)∧(pt T x).length≤16∧∀ p∈pt T x,PutOk p,T.length,⟨0,rfl,rfl,e2.trans e3,fun x hx=>by omega⟩,?_⟩
 rintro _ _ m h4 ⟨j,rfl,hm,e4,hok⟩
 have e04:=e1.trans e4
 refine IfB.dec (fun hlt=>?_) (fun hge=>?_)
 ·have hj:j<T.length:=by omega
  refine(t.ext e04).ix j rfl hj fun a d c0 c1 hp=>⟨_,d,c0,c1,?_⟩
  rw[tm_get hj]
  rw[pt_get hj]at hp
  have hpl:=hp.len
  intro h5
  refine loc2 rfl rfl fun h6 e6 r6=>?_
  have e06:=e04.trans e6
  have rest:(0<j→tm T j-tm T (j-1)≤65535) →∃ c18:Sl,hY h6 ((nw h4).add 1)=some (.slice c18.base c18.len c18.cap)∧
   IfB (decide ((c18.len:Int) > (16:Int))) (Ext h h6∧∃ c:Int,Value.int .i64 (1:Int)=.int .i64 c∧(c=0↔CheckP num T)∧(c=0∨c=1))
   (∃ c19:Sl,hY h6 ((nw h4).add 1)=some (.slice c19.base c19.len c19.cap)∧
    HC Tryz.prog 172 #[.slice c19.base c19.len c19.cap,.func (.func 221) #[] #[]] h6 fun r3 vh7=>
    ∃ c20:Bool,r3=.bool c20∧
    Ext h6 vh7∧
    IfB c20 (Ext h vh7∧∃ c:Int,Value.int .i64 (1:Int)=.int .i64 c∧(c=0↔CheckP num T)∧(c=0∨c=1))
    (∃ n2,n2<m∧∃ j_1:Nat,iAdd .i64 (j:Int) 1=(j_1:Int)∧n2+j_1=T.length∧Ext h1 vh7∧∀ x,x<j_1→(0<x→tm T x-tm T (x-1)≤65535)∧(pt T x).length≤16∧∀ p∈pt T x,PutOk p)):=by
   intro hstep
   refine⟨d,r6.get rfl,IfB.dec (fun hh=>no e06 fun k=>by have:=(k.each j hj).2.1;omega) (fun h16=>⟨d,r6.get rfl,?_⟩)⟩
   refine(putBad_spec (hp.ext e6) (by omega)).mono ?_
   rintro _ h7 ⟨e7,b,rfl,hb⟩
   refine⟨b,rfl,e7,IfB.intro (fun hbt=>no (e06.trans e7) fun k=>by have:=hb.2 (k.each j hj).2.2;rw[hbt]at this;cases this) (fun hbf=>⟨m-1,by omega,j+1,by rw[iAdd64 (by omega)];push_cast;rfl,by omega,(e4.trans e6).trans e7,fun x hx=>?_⟩)⟩
   by_cases e:x=j
   ·subst e;exact⟨hstep,by omega,hb.1 hbf⟩
   ·exact hok x (by omega)
  refine IfB.dec (fun hpos=>?_) (fun hzero=>rest fun h=>by omega)
  refine⟨_,r6.get0 rfl,s,(r1.ext (e4.trans e6)).get rfl,(t.ext e06).ix (j-1) (by rw[iSub64 (by omega)];omega) (by omega) fun a2 d2 c2 _ _=>⟨_,c2,?_⟩⟩
  rw[tm_get (show j-1<T.length by omega)]
  have g1:=prev_le ho hj
  have g2:=prev_le ho (show j-1<T.length by omega)
  have g3:=(ho j hj).2.1
  have g4:=(ho (j-1) (by omega)).2.1
  rw[iSub64 (by omega)]
  exact IfB.dec (fun hh=>no e06 fun k=>by have:=(k.each j hj).1 (by omega);omega) (fun hstep=>rest fun _=>by omega)
 ·exact⟨e04,0,rfl,⟨fun _=>⟨by omega,by omega,ho,by omega,fun x hx=>hok x (by omega)⟩,fun _=>rfl⟩,.inl rfl⟩
def LabR(F:Nat→Bool)(t:Sl)(rows:List (Sl × List UInt8)):Prop:=(∀ a,t.base=some a→F a.block=true)∧∀ p∈rows,∀ a,p.1.base=some a→F a.block=true
structure RB(lo:Nat)(F:Nat→Bool)(h:Hp)(out:Sl)(rows:List (Sl × List UInt8))(body:Sl)(bs:List UInt8):Prop where
 o:OwnRows lo h out rows
 lab:LabR F out rows
 b:Own lo 1 h body (bs.map bv)
 labb:∀ a,body.base=some a→F a.block=false
theorem RB.ext{lo:Nat}{F:Nat→Bool}{h h':Hp}{out:Sl}{rows:List (Sl × List UInt8)}{body:Sl}{bs:List UInt8}(x:RB lo F h out rows body bs)(e:Ext h h'):RB lo F h' out rows body bs:=⟨x.o.ext e,x.lab,x.b.ext e,x.labb⟩
theorem RB.relab{lo:Nat}{F F':Nat→Bool}{h:Hp}{out:Sl}{rows:List (Sl × List UInt8)}{body:Sl}{bs:List UInt8}(x:RB lo F h out rows body bs)(hf:∀ b,b<h.size→F' b=F b):RB lo F' h out rows body bs:=
 ⟨x.o,⟨fun a ha=>by rw[hf _ (x.o.own.lt ha).2];exact x.lab.1 a ha,fun p hp a ha=>by rw[hf _ (x.o.base p hp a ha).2.1];exact x.lab.2 p hp a ha⟩,x.b,fun a ha=>by rw[hf _ (x.b.lt ha).2];exact x.labb a ha⟩
theorem RB.pushRow{lo e ty by_:Nat}{zc:Array Value}{F:Nat→Bool}{h h1:Hp}{out u:Sl}{rows:List (Sl × List UInt8)}{body:Sl}{bs l:List UInt8}{K:Sl→Hp→Prop}(hz:zc.size=1)(x:RB lo F h out rows body bs)(hlo:lo≤h.size)(e1:Ext h h1)(ou:Own h.size 1 h1 u (l.map bv))
 (hb:(rows.length+1)*by_≤140737488355328) (hby:1≤by_)
 (hK:∀ r h' F',RB lo F' h' r (rows ++ [(u,l)]) body bs→(∀ b,b<h.size→F' b=F b)→(∀ b,b<h.size→F b=false→h'[b]? = h[b]?)→Keep lo h h'→r.len=rows.length+1→K r h'):AppC e 1 by_ zc out (Sl.mk (some (nw h1)) 1 1) (alc h1 [slV u] ty) K:=by
 refine OwnRows.push hz x.o hlo e1 ou hb (fun r h' o' l' k' x' b'=>?_) hby
 have fr:∀ b,b<h.size→F b=false→h'[b]? = h[b]?:=fun b hb hF=>x' b hb fun a ha e=>by rw[e,x.lab.1 a ha]at hF;cases hF
 have hs:=e1.size
 refine hK r h' (fun b=>if b<h.size then F b else true) ⟨o',⟨fun a ha=>?_,fun p hp a ha=>?_⟩,x.b.eq fun a ha=>fr _ (x.b.lt ha).2 (x.labb a ha),fun a ha=>?_⟩ (fun b hb=>if_pos hb) fr k' l'
 ·rcases b' a ha with h | h
  ·show(if a.block<_ then _ else _)=true
   rw[if_pos (x.o.own.lt h).2];exact x.lab.1 a h
  ·show(if a.block<_ then _ else _)=true
   rw[if_neg (by omega)]
 ·show(if a.block<_ then _ else _)=true
  rcases List.mem_append.1 hp with hp | hp
  ·rw[if_pos (x.o.base p hp a ha).2.1];exact x.lab.2 p hp a ha
  ·simp only[List.mem_cons,List.not_mem_nil,or_false]at hp
   subst hp
   rw[if_neg (by have:=(ou.lt ha).1;omega)]
 ·show(if a.block<_ then _ else _)=false
  rw[if_pos (x.b.lt ha).2];exact x.labb a ha
theorem RB.pushBytes{lo e:Nat}{F:Nat→Bool}{h h1:Hp}{out y:Sl}{rows:List (Sl × List UInt8)}{body:Sl}{bs nb:List UInt8}{K:Sl→Hp→Prop}(x:RB lo F h out rows body bs)(hlo:lo≤h.size)(e1:Ext h h1)(ry:Rd 1 h1 y (nb.map bv))
 (hb:bs.length+nb.length≤140737488355328)
 (hK:∀ r h' F',RB lo F' h' out rows r (bs++nb)→(∀ b,b<h.size→F' b=F b)→Keep lo h h'→r.len=bs.length+nb.length→K r h'):AppC e 1 1 #[.int .u8 (0:Int)] body y h1 K:=by
 have lb:=x.b.toRd.lenB
 have ly:=ry.lenB
 have hs:=e1.size
 refine AppC_own5 (news:=nb.map bv) rfl (x.b.ext e1) (by omega) (by simpa using ly) ry.rd (cellOk_bv nb) (by omega) (by omega) fun r h' o' l' k' x' b'=>?_
 have fr:∀ b,b<h.size→F b=true→h'[b]? = h[b]?:=fun b hb hF=>by
  rw[x' b (by omega) fun a ha e=>(by rw[e,x.labb a ha]at hF;cases hF),e1.block b hb]
 have hs':=k'.size
 rw[← List.map_append]at o'
 refine hK r h' (fun b=>if b<h.size then F b else false) ⟨⟨x.o.own.eq fun a ha=>fr _ (x.o.own.lt ha).2 (x.lab.1 a ha),fun p hp=>(x.o.each p hp).eq fun a ha=>fr _ (x.o.base p hp a ha).2.1 (x.lab.2 p hp a ha),fun p hp a ha=>⟨(x.o.base p hp a ha).1,by have:=(x.o.base p hp a ha).2.1;omega,(x.o.base p hp a ha).2.2⟩⟩,⟨fun a ha=>?_,fun p hp a ha=>?_⟩,o',fun a ha=>?_⟩ (fun b hb=>if_pos hb) ⟨by omega,fun b hb=>by rw[k'.block b hb,e1.block b (by omega)]⟩ (by omega)
 ·show(if a.block<_ then _ else _)=true
  rw[if_pos (x.o.own.lt ha).2];exact x.lab.1 a ha
 ·show(if a.block<_ then _ else _)=true
  rw[if_pos (x.o.base p hp a ha).2.1];exact x.lab.2 p hp a ha
 ·show(if a.block<_ then _ else _)=false
  rcases b' a ha with h | h
  ·rw[if_pos (x.b.lt h).2];exact x.labb a h
  ·rw[if_neg (by omega)]
def cpoly:BitVec 32:=0x82f63b78#32
def cstep(r:BitVec 32):BitVec 32:=(r >>> 1) ^^^ (if r.getLsbD 0 then cpoly else 0#32)
def cpow:Nat→BitVec 32→BitVec 32
 | 0,r=>r
 | n+1,r=>cpow n (cstep r)
def cbyte(r:BitVec 32)(c:UInt8):BitVec 32:=cpow 8 (r ^^^ c.toBitVec.setWidth 32)
def creg(r:BitVec 32)(l:List UInt8):BitVec 32:=l.foldl cbyte r
def cones:BitVec 32:=0xffffffff#32
def crcV(l:List UInt8):BitVec 32 := ~~~ creg cones l
def crcN(l:List UInt8):Nat:=(crcV l).toNat
theorem crcN_lt(l:List UInt8):crcN l<2 ^ 32:=(crcV l).isLt
theorem bxlc{w:Nat}(a b c:BitVec w):a ^^^ (b ^^^ c)=b ^^^ (a ^^^ c):=by rw[← BitVec.xor_assoc,BitVec.xor_comm a b,BitVec.xor_assoc]
theorem bxx{w:Nat}(a b:BitVec w):a ^^^ (a ^^^ b)=b:=by rw[← BitVec.xor_assoc];simp
theorem cstep_xor(a b:BitVec 32):cstep (a ^^^ b)=cstep a ^^^ cstep b:=by
 unfold cstep
 rw[BitVec.ushiftRight_xor_distrib,BitVec.getLsbD_xor]
 cases a.getLsbD 0 <;> cases b.getLsbD 0 <;> simp[BitVec.xor_assoc,BitVec.xor_comm,bxlc,bxx]
theorem cpow_xor:∀ (n:Nat) (a b:BitVec 32),cpow n (a ^^^ b)=cpow n a ^^^ cpow n b
 | 0,_,_=>rfl
 | n+1,a,b=>by simp only[cpow,cstep_xor,cpow_xor n]
theorem cpow_add:∀ (n m:Nat) (r:BitVec 32),cpow (n+m) r=cpow m (cpow n r)
 | 0,m,r=>by simp[cpow]
 | n+1,m,r=>by rw[show n+1+m=(n+m)+1 by omega];simp only[cpow];exact cpow_add n m _
theorem cpow_succ(n:Nat)(r:BitVec 32):cpow (n+1) r=cstep (cpow n r):=cpow_add n 1 r
def xorL(a b:List UInt8):List UInt8:=List.zipWith (· ^^^ ·) a b
theorem cbyte_xor(r s:BitVec 32)(c d:UInt8):cbyte (r ^^^ s) (c ^^^ d)=cbyte r c ^^^ cbyte s d:=by
 unfold cbyte
 rw[← cpow_xor]
 congr 1
 rw[UInt8.toBitVec_xor,BitVec.setWidth_xor]
 simp[BitVec.xor_assoc,BitVec.xor_comm,bxlc,bxx]
theorem creg_xor:∀ (a b:List UInt8) (r s:BitVec 32),a.length=b.length→creg (r ^^^ s) (xorL a b)=creg r a ^^^ creg s b
 | [],[],_,_,_=>rfl
 | x::a,y::b,r,s,h=>by
   simp only[creg,xorL,List.zipWith_cons_cons,List.foldl_cons]
   rw[cbyte_xor]
   exact creg_xor a b _ _ (by simpa using h)
theorem creg_append(r:BitVec 32)(a b:List UInt8):creg r (a++b)=creg (creg r a) b:=by simp[creg]
theorem xorL_self_diff(a d:List UInt8)(h:d.length=a.length):crcV (xorL a d)=crcV a ^^^ creg 0#32 d:=by
 unfold crcV
 have:creg cones (xorL a d)=creg cones a ^^^ creg 0#32 d:=by
  rw[← creg_xor _ _ _ _ h.symm];simp
 rw[this]
 apply BitVec.eq_of_getLsbD_eq
 intro i hi
 simp only[BitVec.getLsbD_not,BitVec.getLsbD_xor,hi,decide_true,Bool.true_and]
 cases (creg cones a).getLsbD i <;> cases (creg 0#32 d).getLsbD i <;> rfl
def nstep(r:Nat):Nat:=(r / 2) ^^^ (if r % 2=1 then 2197175160 else 0)
theorem nstep_eq(r:BitVec 32):(cstep r).toNat=nstep r.toNat:=by
 unfold cstep nstep
 rw[BitVec.toNat_xor,BitVec.toNat_ushiftRight,Nat.shiftRight_eq_div_pow]
 have:r.getLsbD 0=decide (r.toNat % 2=1):=by
  rw[BitVec.getLsbD,Nat.testBit_zero]
 rw[this]
 by_cases h:r.toNat % 2=1
 ·simp[h,cpoly]
 ·simp[h]
theorem crc_nat(n:Nat):iXor .u32 (iShr .u32 (n:Int) (1:Int)) (iAnd .u32 (2197175160:Int) (iNeg .u32 (iAnd .u32 (n:Int) (1:Int))))=((nstep n:Nat):Int)∨2 ^ 32≤n:=by
 rcases Nat.lt_or_ge n (2 ^ 32) with hn | hn
 ·left
  have e1:(1:Int)=((1:Nat):Int):=rfl
  have ep:(2197175160:Int)=((2197175160:Nat):Int):=rfl
  have es:iShr .u32 (n:Int) (1:Int)=((n / 2:Nat):Int):=iShr_nat (k := .u32) (b:=1) (by simp[IntKind.bits])
  have ea:iAnd .u32 (n:Int) (1:Int)=((n % 2:Nat):Int):=by
   rw[e1,iAnd_nat u32s (by simpa [IntKind.bits] using hn) (by simp[IntKind.bits]),Nat.and_one_is_mod]
  rw[es,ea]
  have hm:n % 2=0∨n % 2=1:=by omega
  unfold nstep
  rcases hm with h | h
  ·rw[h]
   have:iAnd .u32 (2197175160:Int) (iNeg .u32 ((0:Nat):Int))=((0:Nat):Int):=by decide
   rw[this,iXor_nat u32s (by simp only[IntKind.bits];omega) (by simp[IntKind.bits])]
   simp
  ·rw[h]
   have:iAnd .u32 (2197175160:Int) (iNeg .u32 ((1:Nat):Int))=((2197175160:Nat):Int):=by decide
   rw[this,iXor_nat u32s (by simp only[IntKind.bits];omega) (by simp[IntKind.bits])]
   simp
 ·exact .inr hn
theorem crc_bv(r:BitVec 32):iXor .u32 (iShr .u32 (r.toNat:Int) (1:Int)) (iAnd .u32 (2197175160:Int) (iNeg .u32 (iAnd .u32 (r.toNat:Int) (1:Int))))=((cstep r).toNat:Int):=by
 rcases crc_nat r.toNat with h | h
 ·rw[h,nstep_eq]
 ·have:=r.isLt;omega
theorem not_bv(r:BitVec 32):iNot .u32 (r.toNat:Int)=((~~~ r).toNat:Int):=by
 unfold iNot
 have e:(if IntKind.u32.signed then (-1:Int) else IntKind.u32.max)=((4294967295:Nat):Int):=by decide
 rw[e,iXor_nat u32s (by simp[IntKind.bits]) (by simpa [IntKind.bits] using r.isLt)]
 rw[BitVec.toNat_not]
 have h:4294967295 ^^^ r.toNat=(BitVec.allOnes 32 ^^^ r).toNat:=by rw[BitVec.toNat_xor];rfl
 rw[h,BitVec.allOnes_xor,BitVec.toNat_not]
theorem xor_byte(r:BitVec 32)(c:UInt8):iXor .u32 (r.toNat:Int) (iConv .u32 (c.toNat:Int))=((r ^^^ c.toBitVec.setWidth 32).toNat:Int):=by
 have hc:c.toNat<256:=c.toBitVec.isLt
 rw[iConv_nat u32s,Nat.mod_eq_of_lt (by simp only[IntKind.bits];omega),iXor_nat u32s (by simpa [IntKind.bits] using r.isLt) (by simp only[IntKind.bits];omega)]
 rw[BitVec.toNat_xor,BitVec.toNat_setWidth]
 congr 2
 show c.toNat=c.toBitVec.toNat % 2 ^ 32
 rw[Nat.mod_eq_of_lt (by have:=c.toBitVec.isLt;omega)];rfl
theorem creg_snoc(r:BitVec 32)(l:List UInt8)(k:Nat)(hk:k<l.length):creg r (l.take (k+1))=cpow 8 (creg r (l.take k) ^^^ l[k].toBitVec.setWidth 32):=by
 rw[List.take_succ_eq_append_getElem hk,creg_append];rfl
theorem crcAdd_spec{h:Hp}{a:Addr}{t:BitVec 32}{s:Sl}{l:List UInt8}(hc:hY h a=some (.int .u32 (t.toNat:Int)))(hf:hfroz h a=false)(hl:l.length=s.len)(hr:RdC h s.base (l.map bv))(hmax:l.length<9223372036854775807) :
 HC Tryz.prog 269 #[.pointer (some a),.slice s.base s.len s.cap] h fun r h'=>r=.pointer (some a)∧h'=hset h a (.int .u32 ((~~~ creg (~~~ t) l).toNat:Int)):=by
 apply wc269
 unfold vc269
 refine IfB.no rfl ⟨a,rfl,_,hc,?_⟩
 refine⟨fun r i m h'=>h=h'∧∃ k:Nat,i=k∧m+k=l.length∧r=((creg (~~~ t) (l.take k)).toNat:Int),l.length,⟨rfl,0,rfl,rfl,not_bv t⟩,?_⟩
 rintro _ _ _ m _ ⟨rfl,k,rfl,hm,rfl⟩
 refine IfB.dec (fun hlt=>?_) (fun hge=>?_)
 ·have hk:k<l.length:=by omega
  refine ixB hr hl k rfl hk ?_
  rw[xor_byte]
  refine⟨fun r i m h'=>h=h'∧∃ j:Nat,i=j∧m+j=8∧r=((cpow j (creg (~~~ t) (l.take k) ^^^ l[k].toBitVec.setWidth 32)).toNat:Int),8,⟨rfl,0,rfl,rfl,rfl⟩,?_⟩
  rintro _ _ _ m' _ ⟨rfl,j,rfl,hj,rfl⟩
  refine IfB.dec (fun h8=>?_) (fun h8=>?_)
  ·refine⟨by omega,m'-1,by omega,rfl,j+1,?_,by omega,?_⟩
   ·rw[iAdd64 (by omega)];push_cast;rfl
   ·rw[crc_bv,cpow_succ]
  ·obtain rfl:j=8:=by omega
   refine⟨m-1,by omega,rfl,k+1,?_,by omega,?_⟩
   ·rw[iAdd64 (by omega)];push_cast;rfl
   ·rw[creg_snoc _ _ _ hk]
 ·obtain rfl:k=l.length:=by omega
  refine⟨a,rfl,⟨by rw[hc];rfl,hf⟩,rfl,?_⟩
  rw[List.take_length,not_bv]
theorem crcValue_spec{h:Hp}{a:Addr}{n:Int}(hc:hY h a=some (.int .u32 n)):HC Tryz.prog 270 #[.pointer (some a)] h fun r h'=>r=.int .u32 n∧h'=h:=by
 apply wc270
 unfold vc270
 exact IfB.no rfl ⟨a,rfl,_,hc,rfl,rfl⟩
theorem crcNew_spec(h:Hp):HC Tryz.prog 268 #[] h fun r h'=>∃ t,r=.pointer (some (nw h))∧h'=alc h [.int .u32 (0:Int)] t:=by
 apply wc268
 unfold vc268
 exact⟨_,rfl,rfl⟩
theorem alc_cell(h:Hp)(v:Value)(t:Nat):hY (alc h [v] t) (nw h)=some v:=by unfold nw;rw[hcell_blk (alc_new h [v] t)];rfl
theorem alc_froz(h:Hp)(l:List Value)(t:Nat):hfroz (alc h l t) (nw h)=false:=by unfold nw;exact hfroz_blk (alc_new h l t) _
theorem hset_cell{h:Hp}{b o:Nat}{c:Array Value}{e:Nat}{f:Nat × Nat}(hb:h[b]? = some (.cells c e f))(ho:o<c.size)(v:Value):hY (hset h ⟨b,o,none⟩ v) ⟨b,o,none⟩=some v:=by
 rw[hcell_blk (hset_blk hb o v)];simp[ho]
theorem crcOf_spec{h:Hp}{s:Sl}{l:List UInt8}(hl:l.length=s.len)(hr:RdC h s.base (l.map bv))(hmax:l.length<9223372036854775807) :
 HC Tryz.prog 225 #[.slice s.base s.len s.cap] h fun r h'=>r=.int .u32 (crcN l:Int)∧Ext h h':=by
 apply wc225
 unfold vc225
 refine(crcNew_spec h).mono ?_
 rintro _ _ ⟨t,rfl,rfl⟩
 refine⟨_,rfl,?_⟩
 refine(crcAdd_spec (t:=0#32) (alc_cell _ _ _) (alc_froz _ _ _) hl (hr.ext (alc_ext _ _ _)) hmax).mono ?_
 rintro _ _ ⟨rfl,rfl⟩
 refine⟨_,rfl,?_⟩
 refine(crcValue_spec (n:=((~~~ creg (~~~ 0#32) l).toNat:Int)) (hset_cell (alc_new _ _ _) (by simp) _)).mono ?_
 rintro _ _ ⟨rfl,rfl⟩
 refine⟨_,rfl,rfl,Keep.ext (((alc_ext _ _ _).toKeep).hset _ (Nat.le_refl _))⟩
theorem alc_get(h:Hp)(c:List Value)(t:Nat){i:Nat}{v:Value}(hv:c[i]? = some v):hY (alc h c t) ((nw h).add i)=some v:=by
 obtain⟨a,ha,hc⟩:=RdC.alc h c t i v hv
 cases ha;exact hc
theorem alc_get0(h:Hp)(c:List Value)(t:Nat){v:Value}(hv:c[0]? = some v):hY (alc h c t) (nw h)=some v:=by
 have:=alc_get h c t hv;rwa[nw_add]at this
theorem within_spec(n lo hi:Int)(h:Hp):HC Tryz.prog 223 #[.int .i64 n,.int .i64 lo,.int .i64 hi] h fun r h'=>r=.bool (decide (lo≤n∧n≤hi))∧h'=h:=by
 apply wc223
 unfold vc223
 refine IfB.dec (fun h1=>⟨by simp[h1],rfl⟩) (fun h1=>⟨by simp[h1],rfl⟩)
def covL(pre:List UInt8):List UInt8:=pre++List.replicate (60-pre.length) 0
def encOf(pre:List UInt8):List UInt8:=covL pre++leB 4 (crcN (covL pre))
theorem covL_length{pre:List UInt8}(h:pre.length≤60):(covL pre).length=60:=by simp[covL];omega
theorem encOf_length{pre:List UInt8}(h:pre.length≤60):(encOf pre).length=64:=by unfold encOf;rw[List.length_append,covL_length h,leB_length]
theorem Enc_tail{h0 h4 h8:Hp}{a b c d e:Sl}{la lb lc ld le:List UInt8}(e04:Ext h0 h4)(e48:Ext h4 h8)(ra:Rd 1 h8 a (la.map bv))(rb:Rd 1 h8 b (lb.map bv))(rc:Rd 1 h8 c (lc.map bv))(rd:Rd 1 h8 d (ld.map bv))(re:Rd 1 h8 e (le.map bv))
 (hn:(la++lb++lc++ld++le).length≤60) {R:Value→Hp→Prop}
 (hR:∀ t h',Own h0.size 1 h' t ((encOf (la++lb++lc++ld++le)).map bv)→t.len=64→Ext h0 h'→R (.tuple #[.slice t.base t.len t.cap,.int .i64 (0:Int)]) h') :
 let vh9:=alc h8 [.slice a.base a.len a.cap,.slice b.base b.len b.cap,.slice c.base c.len c.cap,.slice d.base d.len d.cap,.slice e.base e.len e.cap] 44;
  Ext h4 vh9∧
  HC Tryz.prog 224 #[.slice (Sl.mk (some (nw h8)) 5 5).base (Sl.mk (some (nw h8)) 5 5).len (Sl.mk (some (nw h8)) 5 5).cap] vh9 fun r7 vh10=>
  ∃ c18:Sl,r7=.slice c18.base c18.len c18.cap∧
  Ext h4 vh10∧
  AppZ 5 1 1 #[.int .u8 (0:Int)] c18 (iSub .i64 (60:Int) (c18.len:Int)) vh10 fun s vh11=>
  HC Tryz.prog 225 #[.slice s.base s.len s.cap] vh11 fun r8 vh12=>
  ∃ c19:Int,r8=.int .u32 c19∧
  HC Tryz.prog 162 #[.int .u32 c19] vh12 fun r9 vh13=>
  ∃ c20:Sl,r9=.slice c20.base c20.len c20.cap∧
  AppC 5 1 1 #[.int .u8 (0:Int)] s c20 vh13 fun s1 vh14=>
  R (.tuple #[.slice s1.base s1.len s1.cap,.int .i64 (0:Int)]) vh14:=by
 intro h9
 have e89:Ext h8 h9:=alc_ext _ _ _
 have e49:=e48.trans e89
 refine⟨e49,?_⟩
 have hcat:catS [(a,la),(b,lb),(c,lc),(d,ld),(e,le)]=la++lb++lc++ld++le:=by simp[catS]
 refine(slConcat_spec (s:=Sl.mk (some (nw h8)) 5 5) (rows:=[(a,la),(b,lb),(c,lc),(d,ld),(e,le)]) rfl (RdC.alc h8 _ _) ?_ (by simp) (by rw[hcat];omega)).mono ?_
 ·intro p hp
  simp only[List.mem_cons,List.not_mem_nil,or_false]at hp
  rcases hp with rfl | rfl | rfl | rfl | rfl
  ·exact ra.ext e89
  ·exact rb.ext e89
  ·exact rc.ext e89
  ·exact rd.ext e89
  ·exact re.ext e89
 rintro _ h10 ⟨s,rfl,os,ls,e10⟩
 rw[hcat]at os ls
 have e410:=e49.trans e10
 have e010:=e04.trans e410
 refine⟨_,rfl,e410,?_⟩
 have os':Own h0.size 1 h10 s ((la++lb++lc++ld++le).map bv):=os.weak (e04.trans e49).size
 generalize la++lb++lc++ld++le=pre at *
 refine AppZ_own (m:=60-pre.length) (by rw[iSub64 (by omega)];omega) os' e010.size rfl (by omega) (by omega) fun t h11 o11 l11 k11 _=>?_
 have eq11:pre.map bv++List.replicate (60-pre.length) (.int .u8 (0:Int))=(covL pre).map bv:=by
  unfold covL;rw[List.map_append,List.map_replicate];rfl
 rw[eq11]at o11
 have e011:Ext h0 h11:=(e010.toKeep.trans k11).ext
 have hcl:=covL_length hn
 refine(crcOf_spec o11.toRd.lenB o11.rd (by omega)).mono ?_
 rintro _ h12 ⟨rfl,e12⟩
 refine⟨_,rfl,?_⟩
 refine(Put32_spec (crcN (covL pre)) (crcN_lt _) h12).mono ?_
 rintro _ h13 ⟨u,rfl,ou,lu,e13⟩
 refine⟨_,rfl,?_⟩
 rw[leB_length]at lu
 have e013:=(e011.trans e12).trans e13
 refine AppC_own (news:=(leB 4 (crcN (covL pre))).map bv) rfl ((o11.ext e12).ext e13) e013.size (by simp[leB_length,lu]) ou.rd (cellOk_bv _) (by omega) (by omega) fun r h14 o14 l14 k14 _=>?_
 rw[← List.map_append]at o14
 exact hR r h14 o14 (by omega) (e013.toKeep.trans k14).ext
def okB(k e s l:Int):Prop:=(1≤k∧k≤4)∧(0≤e∧e≤4294967295)∧(0≤s∧s≤1099511627776)∧(0≤l∧l≤1048576)
def preL(k e s l:Nat)(bs:List UInt8):List UInt8:=[UInt8.ofNat k,UInt8.ofNat bs.length]++leB 4 e++leB 8 s++leB 4 l++bs
theorem preL_length(k e s l:Nat)(bs:List UInt8):(preL k e s l bs).length=18+bs.length:=by simp[preL,leB_length];omega
def EncR(h:Hp)(k e s l:Int)(bs:List UInt8)(r:Value)(h':Hp):Prop:=
 Ext h h'∧(¬ okB k e s l∧r=.tuple #[.slice none 0 0,.int .i64 1]∨okB k e s l∧40<bs.length∧r=.tuple #[.slice none 0 0,.int .i64 3] ∨
  okB k e s l∧bs.length≤40∧∃ t:Sl,r=.tuple #[.slice t.base t.len t.cap,.int .i64 0]∧Own h.size 1 h' t ((encOf (preL k.toNat e.toNat s.toNat l.toNat bs)).map bv)∧t.len=64)
theorem two_new(h:Hp)(k n:Nat):Rd 1 (alc h [.int .u8 (iConv .u8 (k:Int)),.int .u8 (iConv .u8 (n:Int))] 5) (Sl.mk (some (nw h)) 2 2) ([UInt8.ofNat k,UInt8.ofNat n].map bv):=by
 refine⟨rfl,Nat.le_refl _,?_⟩
 rw[bv_conv,bv_conv]
 exact RdC.alc h _ _
theorem Encode_spec(k e s l:Int){h:Hp}{b:Sl}{bs:List UInt8}(hb:Rd 1 h b (bs.map bv)) :
 HC Tryz.prog 168 #[.agg #[.int .i64 k,.int .i64 e,.int .i64 s,.int .i64 l,.slice b.base b.len b.cap]] h (EncR h k e s l bs):=by
 apply wc168
 unfold vc168
 intro h1
 have e1:Ext h h1:=alc_ext _ _ _
 have lb:=hb.lenB
 refine⟨_,alc_get0 h _ _ rfl,?_⟩
 refine(within_spec _ _ _ _).mono ?_
 rintro _ _ ⟨rfl,rfl⟩
 refine⟨_,rfl,IfB.not (IfB.dec (fun hk=>?_) (fun hk=>⟨e1,.inl ⟨fun ok=>hk ok.1,rfl⟩⟩))⟩
 refine⟨_,alc_get h _ _ (i:=1) rfl,?_⟩
 refine(within_spec _ _ _ _).mono ?_
 rintro _ _ ⟨rfl,rfl⟩
 refine⟨_,rfl,IfB.not (IfB.dec (fun he=>?_) (fun he=>⟨e1,.inl ⟨fun ok=>he ok.2.1,rfl⟩⟩))⟩
 refine⟨_,alc_get h _ _ (i:=2) rfl,?_⟩
 refine(within_spec _ _ _ _).mono ?_
 rintro _ _ ⟨rfl,rfl⟩
 refine⟨_,rfl,IfB.not (IfB.dec (fun hs=>?_) (fun hs=>⟨e1,.inl ⟨fun ok=>hs ok.2.2.1,rfl⟩⟩))⟩
 refine⟨_,alc_get h _ _ (i:=3) rfl,?_⟩
 refine(within_spec _ _ _ _).mono ?_
 rintro _ _ ⟨rfl,rfl⟩
 refine⟨_,rfl,IfB.not (IfB.dec (fun hl=>?_) (fun hl=>⟨e1,.inl ⟨fun ok=>hl ok.2.2.2,rfl⟩⟩))⟩
 have ok:okB k e s l:=⟨hk,he,hs,hl⟩
 have c4:hY h1 ((nw h).add 4)=some (.slice b.base b.len b.cap):=alc_get h _ _ (i:=4) rfl
 refine⟨b,c4,IfB.dec (fun h40=>⟨e1,.inr (.inl ⟨ok,by omega,rfl⟩)⟩) (fun h40=>?_)⟩
 refine⟨_,alc_get0 h _ _ rfl,b,c4,_,alc_get h _ _ (i:=1) rfl,_,alc_get h _ _ (i:=2) rfl,_,alc_get h _ _ (i:=3) rfl,b,c4,?_⟩
 obtain⟨k,rfl⟩:∃ n:Nat,k=n:=⟨k.toNat,by omega⟩
 obtain⟨e,rfl⟩:∃ n:Nat,e=n:=⟨e.toNat,by omega⟩
 obtain⟨s,rfl⟩:∃ n:Nat,s=n:=⟨s.toNat,by omega⟩
 obtain⟨l,rfl⟩:∃ n:Nat,l=n:=⟨l.toNat,by omega⟩
 have ce:iConv .u32 (e:Int)=(e:Int):=by rw[iConv_nat u32s,Nat.mod_eq_of_lt (by simp only[IntKind.bits];omega)]
 have cs:iConv .u64 (s:Int)=(s:Int):=by rw[iConv_nat u64s,Nat.mod_eq_of_lt (by simp only[IntKind.bits];omega)]
 have cl:iConv .u32 (l:Int)=(l:Int):=by rw[iConv_nat u32s,Nat.mod_eq_of_lt (by simp only[IntKind.bits];omega)]
 rw[ce,cs,cl]
 have hpre:=preL_length k e s l bs
 have hn:([UInt8.ofNat k,UInt8.ofNat b.len]++leB 4 e++leB 8 s++leB 4 l++bs).length≤60:=by simp[leB_length];omega
 have fin:∀ (t:Sl) (h':Hp),Own h.size 1 h' t ((encOf ([UInt8.ofNat k,UInt8.ofNat b.len]++leB 4 e++leB 8 s++leB 4 l++bs)).map bv)→t.len=64→Ext h h'→EncR h (k:Int) (e:Int) (s:Int) (l:Int) bs (.tuple #[.slice t.base t.len t.cap,.int .i64 (0:Int)]) h':=fun t h' o lt ex=>
  ⟨ex,.inr (.inr ⟨ok,by omega,t,rfl,by rw[← lb]at o;exact o,lt⟩)⟩
 have hb1:=hb.ext e1
 refine⟨?_,?_⟩
 ·intro h5
  have e5:Ext h1 h5:=alc_ext _ _ _
  refine⟨e5,(Put32_spec e (by omega) h5).mono ?_⟩
  rintro _ h6 ⟨x,rfl,ox,lx,e6⟩
  refine⟨_,rfl,e5.trans e6,(Put64_spec s (by omega) h6).mono ?_⟩
  rintro _ h7 ⟨y,rfl,oy,ly,e7⟩
  refine⟨_,rfl,(e5.trans e6).trans e7,(Put32_spec l (by omega) h7).mono ?_⟩
  rintro _ h8 ⟨z,rfl,oz,lz,e8⟩
  refine⟨_,rfl,((e5.trans e6).trans e7).trans e8,?_⟩
  exact Enc_tail e1 (((e5.trans e6).trans e7).trans e8) ((two_new h1 k b.len).ext ((e6.trans e7).trans e8)) (ox.ext (e7.trans e8)).toRd (oy.ext e8).toRd oz.toRd (hb1.ext (((e5.trans e6).trans e7).trans e8)) hn fin
 ·refine(Put32_spec e (by omega) h1).mono ?_
  rintro _ h6 ⟨x,rfl,ox,lx,e6⟩
  refine⟨_,rfl,e6,?_,?_⟩
  ·intro h5
   have e5:Ext h6 h5:=alc_ext _ _ _
   refine⟨e6.trans e5,(Put64_spec s (by omega) h5).mono ?_⟩
   rintro _ h7 ⟨y,rfl,oy,ly,e7⟩
   refine⟨_,rfl,(e6.trans e5).trans e7,(Put32_spec l (by omega) h7).mono ?_⟩
   rintro _ h8 ⟨z,rfl,oz,lz,e8⟩
   refine⟨_,rfl,((e6.trans e5).trans e7).trans e8,?_⟩
   exact Enc_tail e1 (((e6.trans e5).trans e7).trans e8) ((two_new h6 k b.len).ext (e7.trans e8)) (ox.ext ((e5.trans e7).trans e8)).toRd (oy.ext e8).toRd oz.toRd (hb1.ext (((e6.trans e5).trans e7).trans e8)) hn fin
  ·refine(Put64_spec s (by omega) h6).mono ?_
   rintro _ h7 ⟨y,rfl,oy,ly,e7⟩
   refine⟨_,rfl,e6.trans e7,?_,?_⟩
   ·intro h5
    have e5:Ext h7 h5:=alc_ext _ _ _
    refine⟨(e6.trans e7).trans e5,(Put32_spec l (by omega) h5).mono ?_⟩
    rintro _ h8 ⟨z,rfl,oz,lz,e8⟩
    refine⟨_,rfl,((e6.trans e7).trans e5).trans e8,?_⟩
    exact Enc_tail e1 (((e6.trans e7).trans e5).trans e8) ((two_new h7 k b.len).ext e8) (ox.ext ((e7.trans e5).trans e8)).toRd (oy.ext (e5.trans e8)).toRd oz.toRd (hb1.ext (((e6.trans e7).trans e5).trans e8)) hn fin
   ·refine(Put32_spec l (by omega) h7).mono ?_
    rintro _ h8 ⟨z,rfl,oz,lz,e8⟩
    refine⟨_,rfl,(e6.trans e7).trans e8,?_⟩
    intro h5
    have e5:Ext h8 h5:=alc_ext _ _ _
    refine⟨((e6.trans e7).trans e8).trans e5,?_⟩
    exact Enc_tail e1 (((e6.trans e7).trans e8).trans e5) (two_new h8 k b.len) (ox.ext ((e7.trans e8).trans e5)).toRd (oy.ext (e8.trans e5)).toRd (oz.ext e5).toRd (hb1.ext (((e6.trans e7).trans e8).trans e5)) hn fin
theorem alc_row(h:Hp)(c:List Value)(t:Nat):Row (alc h c t) h.size c:=Row.alc h c t
def blkV(k e s l:Int)(t:Sl):List Value:=[.int .i64 k,.int .i64 e,.int .i64 s,.int .i64 l,.slice t.base t.len t.cap]
theorem blkV_ok(k e s l:Int)(t:Sl):∀ v∈blkV k e s l t,cellOk v=true:=by
 intro v hv
 simp only[blkV,List.mem_cons,List.not_mem_nil,or_false]at hv
 rcases hv with rfl | rfl | rfl | rfl | rfl <;> rfl
theorem Row.get5{h:Hp}{b:Nat}{k e s l:Int}{t:Sl}(x:Row h b (blkV k e s l t)){K:Int→Int→Int→Int→Sl→Prop}(hK:K k e s l t) :
 ∃ c4:Int,∃ c5:Int,∃ c6:Int,∃ c7:Int,∃ c8:Sl,hY h ⟨b,0,none⟩=some (.int .i64 c4)∧hY h ((⟨b,0,none⟩:Addr).add 1)=some (.int .i64 c5)∧hY h ((⟨b,0,none⟩:Addr).add 2)=some (.int .i64 c6)∧hY h ((⟨b,0,none⟩:Addr).add 3)=some (.int .i64 c7)∧hY h ((⟨b,0,none⟩:Addr).add 4)=some (.slice c8.base c8.len c8.cap)∧K c4 c5 c6 c7 c8:=
 ⟨k,e,s,l,t,x.get0 rfl,x.get rfl,x.get rfl,x.get rfl,x.get rfl,hK⟩
theorem out5{h:Hp}{b:Nat}{old:List Value}(x:Row h b old)(ho:old.length=5)(k e s l:Int)(t:Sl){K:Int→Int→Int→Int→Sl→Hp→Prop}(hK:∀ h',Only b h h'→h'.size=h.size→Row h' b (blkV k e s l t)→K k e s l t h') :
 stCells ⟨b,0,none⟩ 0 [.int .i64 k,.int .i64 e,.int .i64 s,.int .i64 l,.slice t.base t.len t.cap] h fun h'=>
 ∃ c4:Int,∃ c5:Int,∃ c6:Int,∃ c7:Int,∃ c8:Sl,hY h' ⟨b,0,none⟩=some (.int .i64 c4)∧hY h' ((⟨b,0,none⟩:Addr).add 1)=some (.int .i64 c5)∧hY h' ((⟨b,0,none⟩:Addr).add 2)=some (.int .i64 c6)∧hY h' ((⟨b,0,none⟩:Addr).add 3)=some (.int .i64 c7)∧hY h' ((⟨b,0,none⟩:Addr).add 4)=some (.slice c8.base c8.len c8.cap)∧K c4 c5 c6 c7 c8 h':=
 x.put (vs:=blkV k e s l t) (by simp[blkV,ho]) (blkV_ok k e s l t) fun h' r' s' o'=>r'.get5 (K:=fun a b c d e=>K a b c d e h') (hK h' ⟨by omega,fun b hb hne=>o' b hne⟩ s' r')
theorem put5{h:Hp}{k e s l:Int}{t:Sl}{c0 c1 c2 c3 c4:Value}{ty:Nat}{K:Hp→Prop}(hK:∀ h',Ext h h'→Row h' h.size (blkV k e s l t)→K h') :
 stCells (nw h) 0 [.int .i64 k,.int .i64 e,.int .i64 s,.int .i64 l,.slice t.base t.len t.cap] (alc h [c0,c1,c2,c3,c4] ty) K:=
 (alc_row h [c0,c1,c2,c3,c4] ty).put (vs:=blkV k e s l t) rfl (blkV_ok k e s l t) fun h' r' s' o'=>hK h' ⟨by rw[s',size_alc];omega,fun b hb=>by rw[o' b (by omega),alc_old _ _ _ hb]⟩ r'
def putB(epoch num:Nat)(p:PutD):List UInt8:=encOf (preL 1 epoch num p.1.toNat p.2)
def allPuts(T:List TxD):List PutD:=T.flatMap (·.2)
def lastT(T:List TxD)(j:Nat):Int:=if j=0 then tm T 0 else tm T (j-1)
def stepN(T:List TxD)(j:Nat):Nat:=(tm T j-lastT T j).toNat
def head9(T:List TxD):List UInt8:=leB 8 (tm T 0).toNat ++ [UInt8.ofNat T.length]
def stepsB(T:List TxD)(j:Nat):List UInt8:=(List.range j).flatMap fun k=>leB 2 (stepN T k)
def cntsB(T:List TxD)(j:Nat):List UInt8:=(List.range j).map fun k=>UInt8.ofNat (pt T k).length
def bodyB(T:List TxD):List UInt8:=head9 T++stepsB T T.length++cntsB T T.length
def encB(num epoch:Nat)(T:List TxD):List (List UInt8):=(allPuts T).map (putB epoch num) ++ [encOf (preL 2 epoch num (allPuts T).length (bodyB T))]
theorem allPuts_len(T:List TxD):(allPuts T).length+1=blocksN T:=by
 unfold allPuts blocksN
 rw[List.length_flatMap];omega
theorem allPuts_take{T:List TxD}{j:Nat}(h:j<T.length):allPuts (T.take (j+1))=allPuts (T.take j)++pt T j:=by
 unfold allPuts
 rw[List.take_succ_eq_append_getElem h,List.flatMap_append,← pt_get h]
 simp
theorem stepsB_len(T:List TxD)(j:Nat):(stepsB T j).length=2*j:=by
 induction j with
 | zero=>rfl
 | succ j ih=>unfold stepsB at *;rw[List.range_succ,List.flatMap_append,List.length_append,ih];simp[leB_length];omega
theorem stepsB_succ(T:List TxD)(j:Nat):stepsB T (j+1)=stepsB T j++leB 2 (stepN T j):=by unfold stepsB;rw[List.range_succ,List.flatMap_append];simp
theorem cntsB_succ(T:List TxD)(j:Nat):cntsB T (j+1)=cntsB T j ++ [UInt8.ofNat (pt T j).length]:=by unfold cntsB;rw[List.range_succ,List.map_append];rfl
theorem cntsB_len(T:List TxD)(j:Nat):(cntsB T j).length=j:=by simp[cntsB]
theorem head9_len(T:List TxD):(head9 T).length=9:=by simp[head9,leB_length]
theorem bodyB_len(T:List TxD):(bodyB T).length=9+3*T.length:=by simp only[bodyB,List.length_append,head9_len,stepsB_len,cntsB_len];omega
theorem encB_len(num epoch:Nat)(T:List TxD):(encB num epoch T).length=blocksN T:=by rw[← allPuts_len];simp[encB]
theorem lastT_step{num:Int}{T:List TxD}(c:CheckP num T){j:Nat}(hj:j<T.length):0≤tm T j-lastT T j∧tm T j-lastT T j≤65535:=by
 unfold lastT
 by_cases e:j=0
 ·subst e;simp
 ·rw[if_neg e]
  have h1:=(c.order j hj).1
  have h2:=(c.each j hj).1 (by omega)
  simp[prevT,e]at h1
  omega
theorem leB2(v:Nat):leB 2 v = [UInt8.ofNat v,UInt8.ofNat (v / 256)]:=by
 show [byteAt v 0,byteAt v 1]=_
 unfold byteAt;simp
theorem EncodeOk_spec{k e s l:Int}{h:Hp}{b:Sl}{bs:List UInt8}(hb:Rd 1 h b (bs.map bv))(ok:okB k e s l)(hl:bs.length≤40) :
 HC Tryz.prog 168 #[.agg #[.int .i64 k,.int .i64 e,.int .i64 s,.int .i64 l,.slice b.base b.len b.cap]] h fun r h'=>Ext h h'∧∃ t:Sl,r=.tuple #[.slice t.base t.len t.cap,.int .i64 0]∧Own h.size 1 h' t ((encOf (preL k.toNat e.toNat s.toNat l.toNat bs)).map bv):=by
 refine(Encode_spec k e s l hb).mono ?_
 rintro _ h' ⟨e1,⟨hn,_⟩ | ⟨_,hl',_⟩ | ⟨_,_,t,rfl,ot,lt⟩⟩
 ·exact absurd ok hn
 ·omega
 ·exact⟨e1,t,rfl,ot⟩
def EncBR(h:Hp)(num epoch:Int)(T:List TxD)(r:Value)(h':Hp):Prop:=
 Ext h h'∧(¬ (CheckP num T∧0≤epoch∧epoch≤4294967295)∧r=.tuple #[.slice none 0 0,.int .i64 1]∨(CheckP num T∧0≤epoch∧epoch≤4294967295)∧∃ t rows,r=.tuple #[.slice t.base t.len t.cap,.int .i64 0]∧OwnRows h.size h' t rows∧rows.map (·.2)=encB num.toNat epoch.toNat T)
theorem BEncode_spec{h:Hp}{s:Sl}{T:List TxD}(num epoch:Int)(t:TxsR (· < h.size) h s T)(hP:∀ j,(pt T j).length≤1000000) :
 HC Tryz.prog 111 #[.agg #[.int .i64 num,.slice s.base s.len s.cap],.int .i64 epoch] h (EncBR h num epoch T):=by
 apply wc111
 unfold vc111
 have hl:=t.len
 intro h1
 have e1:Ext h h1:=alc_ext _ _ _
 have r1:Row h1 h.size [.int .i64 num,.slice s.base s.len s.cap]:=Row.alc _ _ _
 have s1:h1.size=h.size+1:=size_alc _ _ _
 refine r1.get2s ?_
 refine(Check_spec num (t.ext e1) hP).mono ?_
 rintro _ h2 ⟨e2,c,rfl,hc,hc01⟩
 have e02:=e1.trans e2
 refine⟨_,rfl,IfB.ne (fun hne=>⟨e02,.inl ⟨fun k=>hne (hc.2 k.1),rfl⟩⟩) (fun h0=>IfB.dec (fun hneg=>⟨e02,.inl ⟨fun k=>by omega,rfl⟩⟩) (fun hneg=>IfB.dec (fun hbig=>⟨e02,.inl ⟨fun k=>by omega,rfl⟩⟩) (fun hbig=>?_)))⟩
 have ck:=hc.1 h0
 have hT1:=ck.len
 have hnum:=ck.num
 obtain⟨num,rfl⟩:∃ k:Nat,num=k:=⟨num.toNat,by omega⟩
 obtain⟨epoch,rfl⟩:∃ k:Nat,epoch=k:=⟨epoch.toNat,by omega⟩
 have r2:=r1.ext e2
 have ht0:0<tm T 0:=prev_le ck.order (by omega)
 have ht0':=(ck.order 0 (by omega)).2.1
 refine⟨s,r2.get rfl,?_⟩
 refine(t.ext e02).ix 0 rfl (by omega) fun a d c0 _ _=>⟨_,c0,?_⟩
 rw[tm_get (show 0<T.length by omega)]
 have cv:iConv .u64 (tm T 0)=(((tm T 0).toNat:Nat):Int):=by
  obtain⟨v,hv⟩:∃ v:Nat,tm T 0=v:=⟨(tm T 0).toNat,by omega⟩
  rw[hv,iConv_nat u64s,Nat.mod_eq_of_lt (by simp only[IntKind.bits];omega),Int.toNat_natCast]
 rw[cv]
 have hv64:(tm T 0).toNat<2 ^ 64:=by omega
 have s2:=e2.size
 refine⟨fun body h'=>Ext h2 h'∧Own h2.size 1 h' body ((head9 T).map bv),?_,?_⟩
 ·refine⟨s,r2.get rfl,?_,?_⟩
  ·refine(Put64_spec _ hv64 h2).mono ?_
   rintro _ h3 ⟨u,rfl,ou,lu,e3⟩
   refine⟨u,rfl,e3,?_⟩
   intro h4
   have e4:Ext h3 h4:=alc_ext _ _ _
   rw[leB_length]at lu
   refine⟨e3.trans e4,?_⟩
   have hb:Value.int .u8 (iConv .u8 (s.len:Int))=bv (UInt8.ofNat T.length):=by rw[hl,bv_conv]
   refine AppC_new (lo:=h2.size) (l:=(leB 8 (tm T 0).toNat).map bv) (news:=[.int .u8 (iConv .u8 (s.len:Int))]) (n:=1) rfl ou e3.size rfl (by simp[cellOk]) (by omega) (by omega) fun r h5 o5 l5 k5 _=>?_
   rw[hb]at o5
   exact⟨(e3.toKeep.trans k5).ext,by simpa [head9] using o5⟩
  ·intro h3
   have e3:Ext h2 h3:=alc_ext _ _ _
   refine⟨e3,?_⟩
   refine(Put64_spec _ hv64 h3).mono ?_
   rintro _ h4 ⟨u,rfl,ou,lu,e4⟩
   refine⟨u,rfl,e3.trans e4,?_⟩
   rw[leB_length]at lu
   have s3:=e3.size
   have rx:RdC h4 (some (nw h2)) ([UInt8.ofNat T.length].map bv):=by
    have:RdC h3 (some (nw h2)) [.int .u8 (iConv .u8 (s.len:Int))]:=RdC.alc h2 _ _
    rw[hl,bv_conv]at this
    exact this.ext e4
   refine AppC_own (news:=[UInt8.ofNat T.length].map bv) rfl ou e4.size rfl rx (cellOk_bv _) (by simp only;omega) (by simp only;omega) fun r h5 o5 l5 k5 _=>?_
   refine⟨((e3.trans e4).toKeep.trans (k5.le s3)).ext,?_⟩
   have:=o5.weak s3
   simpa [head9] using this
 rintro _ body h3 ⟨e3,o3⟩
 have e03:=e02.trans e3
 have s3:=e3.size
 have hrow:∀ {h':Hp},Keep h2.size h2 h'→Row h' h.size [.int .i64 (num:Int),.slice s.base s.len s.cap]:=fun k=>r2.eq (k.block _ (by omega))
 have e3k:Keep h2.size h2 h3:=e3.toKeep
 refine⟨s,(hrow e3k).get rfl,?_⟩
 have hall:=allPuts_len T
 have hblk:=ck.blocks
 refine⟨fun out body last i m h'=>∃ (j:Nat) (F:Nat→Bool) (rows:List (Sl × List UInt8)),i=j∧m+j=T.length∧Ext h2 h'∧last=lastT T j∧RB h2.size F h' out rows body (head9 T++stepsB T j)∧rows.map (·.2)=(allPuts (T.take j)).map (putB epoch num),T.length,
  ⟨0,fun _=>false,[],rfl,rfl,e3,rfl,⟨OwnRows.nil _ _,⟨fun a ha=>(by cases ha),fun p hp=>by simp at hp⟩,by simpa [stepsB] using o3,fun _ _=>rfl⟩,rfl⟩,?_⟩
 rintro _ out body4 _ _ m h4 ⟨j,F,rows,rfl,hm,e4,rfl,x4,q4⟩
 have s4:=e4.size
 refine IfB.dec (fun hlt=>?_) (fun hge=>?_)
 ·have hj:j<T.length:=by omega
  refine(t.ext (e02.trans e4)).ix j rfl hj fun a d c0 c1 hp=>⟨_,d,c0,c1,?_⟩
  rw[tm_get hj]
  rw[pt_get hj]at hp
  have hpl:=hp.len
  intro h5
  refine loc2 rfl rfl fun h6 e6 r6=>⟨d,r6.get rfl,?_⟩
  have s6:=e6.size
  have hjle:(allPuts (T.take (j+1))).length≤(allPuts T).length:=by
   have h1:=allPuts_len (T.take (j+1));have h2:=blocksN_le T (j+1);omega
  rw[allPuts_take hj,List.length_append]at hjle
  have hrl:rows.length=(allPuts (T.take j)).length:=by have:=congrArg List.length q4;simpa using this
  have x6:RB h2.size (fun b=>if b<h4.size then F b else false) h6 out rows body4 (head9 T++stepsB T j):=(x4.relab (fun b hb=>if_pos hb)).ext e6
  have hstep:=lastT_step ck hj
  refine⟨fun out i q h'=>∃ (k:Nat) (F':Nat→Bool) (rows':List (Sl × List UInt8)),i=k∧q+k=(pt T j).length∧Ext h2 h'∧RB h2.size F' h' out rows' body4 (head9 T++stepsB T j)∧rows'.map (·.2)=(allPuts (T.take j)++(pt T j).take k).map (putB epoch num)∧Row h' h4.size [.int .i64 (tm T j),.slice d.base d.len d.cap]∧F' h4.size=false,(pt T j).length,
   ⟨0,_,rows,rfl,rfl,e4.trans e6,x6,by simpa using q4,r6,if_neg (by omega)⟩,?_⟩
  rintro _ out7 _ q h7 ⟨k,F7,rows7,rfl,hq,e7,x7,q7,r7,f7⟩
  have s7:=e7.size
  have hr7:rows7.length=(allPuts (T.take j)).length+min k (pt T j).length:=by have:=congrArg List.length q7;simp at this;omega
  refine IfB.dec (fun hlt2=>?_) (fun hge2=>?_)
  ·have hk:k<(pt T j).length:=by omega
   have hp7:PutsR (· < h.size) h7 d (pt T j):=hp.eq fun b hb=>by rw[e7.block b (by omega),e4.block b (by omega)]
   refine hp7.ix k rfl hk fun a2 d2 c2 c3 rd _=>⟨_,d2,c2,c3,?_⟩
   have hpo:PutOk (pt T j)[k]:=(ck.each j hj).2.2 _ (List.getElem_mem hk)
   obtain⟨hp1,hp2,hp3⟩:=hpo
   intro h8
   refine loc2 rfl rfl fun h9 e9 r9=>?_
   have s9:=e9.size
   have e29:=e7.trans e9
   refine⟨_,(hrow e29.toKeep).get0 rfl,_,r9.get0 rfl,d2,r9.get rfl,?_⟩
   refine(EncodeOk_spec (rd.ext e9) (k:=1) (e:=(epoch:Int)) (s:=(num:Int)) ⟨by omega,by omega,by omega,by omega⟩ (by omega)).mono ?_
   rintro _ h10 ⟨e10,u,rfl,ou⟩
   refine⟨u,_,rfl,?_⟩
   intro h11
   have ou':Own h7.size 1 h10 u ((putB epoch num (pt T j)[k]).map bv):=ou.weak s9
   refine x7.pushRow rfl s7 (e9.trans e10) ou' (by omega) (by omega) fun r h12 F12 x12 f12 fr12 k12 l12=>?_
   have hlt7:h4.size<h7.size:=r7.lt
   refine⟨q-1,by omega,k+1,F12,_,by rw[iAdd64 (by omega)];push_cast;rfl,by omega,(e7.toKeep.trans k12).ext,x12,?_,r7.eq (fr12 _ hlt7 f7),by rw[f12 _ hlt7];exact f7⟩
   rw[List.map_append,q7,List.take_succ_eq_append_getElem hk,← List.append_assoc,List.map_append (l₁:=allPuts (T.take j)++(pt T j).take k)];rfl
  ·have hk:k=(pt T j).length:=by omega
   subst hk
   rw[List.take_length]at q7
   refine⟨_,r7.get0 rfl,_,r7.get0 rfl,by omega,?_⟩
   intro h8
   obtain⟨v,hv⟩:∃ v:Nat,tm T j-lastT T j=v:=⟨(tm T j-lastT T j).toNat,by omega⟩
   have hsv:stepN T j=v:=by unfold stepN;omega
   have g1:0<tm T j:=prev_le ck.order hj
   have g2:=(ck.order j hj).2.1
   have g3:iSub .i64 (tm T j) (lastT T j)=(v:Int):=by rw[iSub64 (by omega)];exact hv
   have ry:Rd 1 h8 (Sl.mk (some (nw h7)) 2 2) ((leB 2 (stepN T j)).map bv):=by
    refine⟨by simp[leB_length],Nat.le_refl _,?_⟩
    have:RdC h8 (some (nw h7)) [.int .u8 (iConv .u8 (iSub .i64 (tm T j) (lastT T j))),.int .u8 (iConv .u8 (iShr .i64 (iSub .i64 (tm T j) (lastT T j)) (8:Int)))]:=RdC.alc h7 _ _
    rw[g3,show iShr .i64 (v:Int) (8:Int)=((v / 2 ^ 8:Nat):Int) from iShr_nat (k := .i64) (b:=8) (by simp[IntKind.bits]),bv_conv,bv_conv]at this
    rw[leB2,hsv]
    exact this
   have hbl:(head9 T++stepsB T j).length=9+2*j:=by rw[List.length_append,head9_len,stepsB_len]
   refine x7.pushBytes s7 (alc_ext _ _ _) ry (by rw[hbl,leB_length];omega) fun r h9 F9 x9 f9 k9 l9=>?_
   refine⟨m-1,by omega,j+1,F9,rows7,by rw[iAdd64 (by omega)];push_cast;rfl,by omega,(e7.toKeep.trans k9).ext,by simp[lastT],?_,by rw[q7,allPuts_take hj]⟩
   rw[stepsB_succ,← List.append_assoc];exact x9
 ·obtain rfl:j=T.length:=by omega
  rw[List.take_length]at q4
  have hrl:rows.length=(allPuts T).length:=by have:=congrArg List.length q4;simpa using this
  refine⟨s,(hrow e4.toKeep).get rfl,?_⟩
  refine⟨fun body i q h'=>∃ (k:Nat) (F':Nat→Bool),i=k∧q+k=T.length∧Ext h2 h'∧RB h2.size F' h' out rows body (head9 T++stepsB T T.length++cntsB T k),T.length,⟨0,F,rfl,rfl,e4,by simpa [cntsB] using x4⟩,?_⟩
  rintro _ body5 _ q h5 ⟨k,F5,rfl,hq,e5,x5⟩
  have s5:=e5.size
  have hbl:(head9 T++stepsB T T.length++cntsB T k).length=9+2*T.length+k:=by rw[List.length_append,List.length_append,head9_len,stepsB_len,cntsB_len]
  refine IfB.dec (fun hlt2=>?_) (fun hge2=>?_)
  ·have hk:k<T.length:=by omega
   refine(t.ext (e02.trans e5)).ix k rfl hk fun a d c0 c1 hp=>⟨_,d,c0,c1,?_⟩
   rw[pt_get hk]at hp
   have hpl:=hp.len
   intro h6
   refine loc2 rfl rfl fun h7 e7 r7=>⟨d,r7.get rfl,?_⟩
   intro h8
   have ry:Rd 1 h8 (Sl.mk (some (nw h7)) 1 1) ([UInt8.ofNat (pt T k).length].map bv):=by
    refine⟨rfl,Nat.le_refl _,?_⟩
    have:RdC h8 (some (nw h7)) [.int .u8 (iConv .u8 (d.len:Int))]:=RdC.alc h7 _ _
    rw[hpl,bv_conv]at this
    exact this
   refine x5.pushBytes s5 (e7.trans (alc_ext _ _ _)) ry (by rw[hbl];simp;omega) fun r h9 F9 x9 f9 k9 l9=>?_
   refine⟨q-1,by omega,k+1,F9,by rw[iAdd64 (by omega)];push_cast;rfl,by omega,(e5.toKeep.trans k9).ext,?_⟩
   rw[cntsB_succ,← List.append_assoc];exact x9
  ·obtain rfl:k=T.length:=by omega
   have hbody:head9 T++stepsB T T.length++cntsB T T.length=bodyB T:=rfl
   rw[hbody]at x5 hbl
   have hol:=x5.o.len
   refine⟨_,(hrow e5.toKeep).get0 rfl,?_⟩
   refine(EncodeOk_spec x5.b.toRd (k:=2) (e:=(epoch:Int)) (s:=(num:Int)) (l:=(out.len:Int)) ⟨by omega,by omega,by omega,by omega⟩ (by omega)).mono ?_
   rintro _ h6 ⟨e6,u,rfl,ou⟩
   refine⟨u,_,rfl,?_⟩
   intro h7
   refine x5.pushRow rfl s5 e6 ou (by omega) (by omega) fun r h8 F8 x8 f8 fr8 k8 l8=>?_
   refine⟨(e02.trans (e5.toKeep.trans k8).ext),.inr ⟨⟨ck,by omega,by omega⟩,r,_,rfl,x8.o.weak (by omega),?_⟩⟩
   rw[List.map_append,q4]
   simp only[Int.toNat_natCast,List.map_cons,List.map_nil,encB]
   rw[hol,hrl];rfl
theorem hset_same{h:Hp}{a:Addr}{v:Value}(hc:hY h a=some v):hset h a v=h:=by
 have hlt:=hcell_lt hc
 unfold hY World.cell? at hc
 unfold hset World.setCell
 simp only[hw]at hc ⊢
 rw[Array.getElem?_eq_getElem hlt]at hc
 apply Array.ext
 ·simp
 ·intro i h1 h2
  rw[Array.getElem_modify]
  split
  ·rename_i e
   subst e
   cases ho:h[a.block] with
   | cells c t f=>
     rw[ho]at hc
     simp only at hc ⊢
     by_cases hsp:a.spot.isSome=true
     ·rw[if_pos hsp]
     ·rw[if_neg hsp]at hc ⊢
      have:c.setIfInBounds a.off v=c:=by
       apply Array.ext_getElem?
       intro k
       by_cases e:a.off=k
       ·subst e
        rw[hc]
        have hk:a.off<c.size:=(Array.getElem?_eq_some_iff.1 hc).1
        simp[hk]
       ·rw[Array.getElem?_setIfInBounds_ne e]
      rw[this]
   | _=>rfl
  ·rfl
theorem Row.same{h:Hp}{b:Nat}{l:List Value}(x:Row h b l)(hok:∀ v∈l,cellOk v=true){K:Hp→Prop}(hK:K h):stCells ⟨b,0,none⟩ 0 l h K:=by
 have go:∀ (vs:List Value) (i:Nat),(∀ k v,vs[k]? = some v→l[i+k]? = some v)→(∀ v∈vs,cellOk v=true)→stCells ⟨b,0,none⟩ i vs h K:=by
  intro vs
  induction vs with
  | nil=>intro i _ _;exact hK
  | cons v r ih=>
    intro i hv ho
    have h0:=hv 0 v rfl
    simp only[Nat.add_zero]at h0
    have hi:i<l.length:=(List.getElem?_eq_some_iff.1 h0).1
    unfold stCells
    rw[ho v (by simp)]
    refine⟨(x.set hi v).1,?_⟩
    rw[hset_same (x.get h0)]
    exact ih (i+1) (fun k u hu=>by have:=hv (k+1) u (by simpa using hu);rw[show i+1+k=i+(k+1) by omega];exact this) fun u hu=>ho u (by simp[hu])
 exact go l 0 (fun k v hv=>by simpa using hv) hok
structure OwnPuts(lo:Nat)(h:Hp)(t:Sl)(L:List ((Int × Sl) × List UInt8)):Prop where
 own:Own lo 2 h t (c2 (L.map (·.1)))
 each:∀ x∈L,Rd 1 h x.1.2 (x.2.map bv)
 base:∀ x∈L,∀ a,x.1.2.base=some a→lo≤a.block∧a.block<h.size∧∀ a',t.base=some a'→a.block≠a'.block
def plP(L:List ((Int × Sl) × List UInt8)):List PutD:=L.map fun x=>(x.1.1,x.2)
theorem OwnPuts.nil(lo:Nat)(h:Hp):OwnPuts lo h Sl.nil []:=⟨Own.nil _ _ _,fun p hp=>by simp at hp,fun p hp=>by simp at hp⟩
theorem OwnPuts.len{lo:Nat}{h:Hp}{t:Sl}{L:List ((Int × Sl) × List UInt8)}(o:OwnPuts lo h t L):t.len=L.length:=by
 have:=o.own.len;rw[c2_length]at this;simp at this;omega
theorem OwnPuts.eq{lo:Nat}{h h':Hp}{t:Sl}{L:List ((Int × Sl) × List UInt8)}(o:OwnPuts lo h t L)(hs:h.size≤h'.size)(e:∀ b,lo≤b→b<h.size→h'[b]? = h[b]?):OwnPuts lo h' t L:=
 ⟨o.own.eq fun a ha=>e _ (o.own.lt ha).1 (o.own.lt ha).2,fun p hp=>(o.each p hp).eq fun a ha=>e _ (o.base p hp a ha).1 (o.base p hp a ha).2.1,
  fun p hp a ha=>⟨(o.base p hp a ha).1,Nat.lt_of_lt_of_le (o.base p hp a ha).2.1 hs,(o.base p hp a ha).2.2⟩⟩
theorem OwnPuts.ext{lo:Nat}{h h':Hp}{t:Sl}{L:List ((Int × Sl) × List UInt8)}(o:OwnPuts lo h t L)(e:Ext h h'):OwnPuts lo h' t L:=o.eq e.size fun b _ hb=>e.block b hb
theorem OwnPuts.puts{lo:Nat}{h:Hp}{t:Sl}{L:List ((Int × Sl) × List UInt8)}(o:OwnPuts lo h t L):PutsR (fun b=>lo≤b∧b<h.size) h t (plP L):=
 ⟨L,rfl,o.own.toRd,fun a ha _=>o.own.lt ha,fun x hx=>⟨o.each x hx,fun a ha _=>⟨(o.base x hx a ha).1,(o.base x hx a ha).2.1⟩⟩⟩
theorem OwnPuts.push{lo e ty:Nat}{h:Hp}{t u:Sl}{L:List ((Int × Sl) × List UInt8)}{n:Int}{l:List UInt8}{zc:Array Value}{K:Sl→Hp→Prop}(hz:zc.size=2)(o:OwnPuts lo h t L)(hlo:lo≤h.size)(ru:Rd 1 h u (l.map bv))
 (bu:∀ a,u.base=some a→lo≤a.block∧a.block<h.size∧∀ a',t.base=some a'→a.block≠a'.block) (hb:L.length≤1000000000)
 (hK:∀ r h',OwnPuts lo h' r (L ++ [((n,u),l)])→r.len=L.length+1→Keep lo h h'→(∀ b,b<h.size→(∀ a,t.base=some a→b≠a.block)→h'[b]? = h[b]?)→(∀ a,r.base=some a→t.base=some a∨h.size≤a.block)→K r h') :
 AppC e 2 32 zc t (Sl.mk (some (nw h)) 1 1) (alc h [.int .i64 n,.slice u.base u.len u.cap] ty) K:=by
 have hlen:=o.len
 refine AppC_own5 (news:=[.int .i64 n,slV u]) (l:=c2 (L.map (·.1))) hz (o.own.ext (alc_ext h _ ty)) (by rw[size_alc];omega) rfl (RdC.alc h _ ty) (fun v hv=>by simp at hv;rcases hv with rfl | rfl <;> rfl) (by rw[hlen];simp only;omega) (by rw[hlen];simp only;omega) fun r h' o' l' k' x' b'=>?_
 have s2:(alc h [.int .i64 n,.slice u.base u.len u.cap] ty).size=h.size+1:=size_alc _ _ _
 have same:∀ b,b<h.size→(∀ a,t.base=some a→b≠a.block)→h'[b]? = h[b]?:=fun b hb hne=>by rw[x' b (by omega) hne,alc_old _ _ _ hb]
 have kp:Keep lo h h':=⟨by have:=k'.size;omega,fun b hb=>by rw[k'.block b hb,alc_old _ _ _ (by omega)]⟩
 have hsz:=kp.size
 have hrb:∀ a',r.base=some a'→t.base=some a'∨h.size≤a'.block:=fun a' ha'=>by
  rcases b' a' ha' with h | h
  ·exact .inl h
  ·exact .inr (by omega)
 refine hK r h' ⟨?_,fun p hp=>?_,fun p hp a ha=>?_⟩ (by rw[l',hlen]) kp same hrb
 ·rw[List.map_append,c2_append];exact o'
 ·rcases List.mem_append.1 hp with hp | hp
  ·exact(o.each p hp).eq fun a ha=>same _ (o.base p hp a ha).2.1 (o.base p hp a ha).2.2
  ·simp only[List.mem_cons,List.not_mem_nil,or_false]at hp
   subst hp
   exact ru.eq fun a ha=>same _ (bu a ha).2.1 (bu a ha).2.2
 ·have q:lo≤a.block∧a.block<h.size∧∀ a',t.base=some a'→a.block≠a'.block:=by
   rcases List.mem_append.1 hp with hp | hp
   ·exact o.base p hp a ha
   ·simp only[List.mem_cons,List.not_mem_nil,or_false]at hp
    subst hp;exact bu a ha
  refine⟨q.1,by omega,fun a' ha'=>?_⟩
  rcases hrb a' ha' with h | h
  ·exact q.2.2 a' h
  ·omega
structure OwnTxs(lo:Nat)(B:Nat→Prop)(h:Hp)(t:Sl)(L:List ((Int × Sl) × List PutD)):Prop where
 own:Own lo 2 h t (c2 (L.map (·.1)))
 each:∀ x∈L,PutsR B h x.1.2 x.2
 apart:∀ a,t.base=some a →¬ B a.block
def plT(L:List ((Int × Sl) × List PutD)):List TxD:=L.map fun x=>(x.1.1,x.2)
theorem OwnTxs.nil(lo:Nat)(B:Nat→Prop)(h:Hp):OwnTxs lo B h Sl.nil []:=⟨Own.nil _ _ _,fun p hp=>by simp at hp,fun a ha=>(by cases ha)⟩
theorem OwnTxs.len{lo:Nat}{B:Nat→Prop}{h:Hp}{t:Sl}{L:List ((Int × Sl) × List PutD)}(o:OwnTxs lo B h t L):t.len=L.length:=by
 have:=o.own.len;rw[c2_length]at this;simp at this;omega
theorem OwnTxs.txs{lo:Nat}{B:Nat→Prop}{h:Hp}{t:Sl}{L:List ((Int × Sl) × List PutD)}(o:OwnTxs lo B h t L){B':Nat→Prop}(hb:∀ b,B b→B' b)(ht:∀ b,lo≤b→b<h.size→B' b):TxsR B' h t (plT L):=
 ⟨L,rfl,o.own.toRd,fun a ha _=>ht _ (o.own.lt ha).1 (o.own.lt ha).2,fun x hx=>(o.each x hx).mono hb⟩
theorem OwnTxs.push{lo e ty:Nat}{B:Nat→Prop}{h:Hp}{t u:Sl}{L:List ((Int × Sl) × List PutD)}{n:Int}{P:List PutD}{zc:Array Value}{K:Sl→Hp→Prop}(hz:zc.size=2)(o:OwnTxs lo B h t L)(hB:∀ b,B b→b<h.size)(hlo:lo≤h.size)(pu:PutsR B h u P)
 (hb:L.length≤1000000000)
 (hK:∀ r h',OwnTxs lo B h' r (L ++ [((n,u),P)])→r.len=L.length+1→Keep lo h h'→(∀ b,b<h.size→(∀ a,t.base=some a→b≠a.block)→h'[b]? = h[b]?)→(∀ a,r.base=some a→t.base=some a∨h.size≤a.block)→K r h') :
 AppC e 2 32 zc t (Sl.mk (some (nw h)) 1 1) (alc h [.int .i64 n,.slice u.base u.len u.cap] ty) K:=by
 have hlen:=o.len
 refine AppC_own5 (news:=[.int .i64 n,slV u]) (l:=c2 (L.map (·.1))) hz (o.own.ext (alc_ext h _ ty)) (by rw[size_alc];omega) rfl (RdC.alc h _ ty) (fun v hv=>by simp at hv;rcases hv with rfl | rfl <;> rfl) (by rw[hlen];simp only;omega) (by rw[hlen];simp only;omega) fun r h' o' l' k' x' b'=>?_
 have s2:(alc h [.int .i64 n,.slice u.base u.len u.cap] ty).size=h.size+1:=size_alc _ _ _
 have same:∀ b,b<h.size→(∀ a,t.base=some a→b≠a.block)→h'[b]? = h[b]?:=fun b hb hne=>by rw[x' b (by omega) hne,alc_old _ _ _ hb]
 have kp:Keep lo h h':=⟨by have:=k'.size;omega,fun b hb=>by rw[k'.block b hb,alc_old _ _ _ (by omega)]⟩
 have hrb:∀ a',r.base=some a'→t.base=some a'∨h.size≤a'.block:=fun a' ha'=>by
  rcases b' a' ha' with h | h
  ·exact .inl h
  ·exact .inr (by omega)
 have eqB:∀ b,B b→h'[b]? = h[b]?:=fun b hb=>same b (hB b hb) fun a ha e=>o.apart a ha (e ▸ hb)
 refine hK r h' ⟨?_,fun p hp=>?_,fun a ha hba=>?_⟩ (by rw[l',hlen]) kp same hrb
 ·rw[List.map_append,c2_append];exact o'
 ·rcases List.mem_append.1 hp with hp | hp
  ·exact(o.each p hp).eq eqB
  ·simp only[List.mem_cons,List.not_mem_nil,or_false]at hp
   subst hp
   exact pu.eq eqB
 ·rcases hrb a ha with h | h
  ·exact o.apart a h hba
  ·have:=hB _ hba;omega
theorem or_add{a b k:Nat}(h:a<2 ^ k):a ||| b*2 ^ k=a+b*2 ^ k:=by
 have:=Nat.two_pow_add_eq_or_of_lt h b
 rw[Nat.mul_comm b,Nat.or_comm,← this,Nat.add_comm]
def leN:List UInt8→Nat
 | []=>0
 | c::r=>c.toNat+256*leN r
theorem leN_lt:∀ l:List UInt8,leN l<2 ^ (8*l.length)
 | []=>by simp[leN]
 | c::r=>by
   have:=leN_lt r
   have hc:c.toNat<256:=c.toBitVec.isLt
   simp only[leN,List.length_cons]
   rw[show 8*(r.length+1)=8+8*r.length by omega,Nat.pow_add]
   have:2 ^ 8=256:=rfl
   omega
theorem leN_append:∀ (a b:List UInt8),leN (a++b)=leN a+2 ^ (8*a.length)*leN b
 | [],b=>by simp[leN]
 | c::r,b=>by
   simp only[List.cons_append,leN,leN_append r b,List.length_cons]
   rw[show 8*(r.length+1)=8+8*r.length by omega,Nat.pow_add]
   have:2 ^ 8=256:=rfl
   rw[this,Nat.mul_add,Nat.mul_assoc];omega
theorem leN_snoc(l:List UInt8)(k:Nat)(hk:k<l.length):leN (l.take (k+1))=leN (l.take k)+l[k].toNat*2 ^ (8*k):=by
 rw[List.take_succ_eq_append_getElem hk,leN_append]
 simp only[leN,List.length_take,Nat.min_eq_left (Nat.le_of_lt hk)]
 rw[Nat.mul_comm];simp
theorem leB_succ(n v:Nat):leB (n+1) v=leB n v ++ [byteAt v n]:=by simp[leB,List.range_succ]
theorem leN_leB:∀ (n v:Nat),leN (leB n v)=v % 2 ^ (8*n)
 | 0,v=>by simp[leB,leN,Nat.mod_one]
 | n+1,v=>by
   rw[leB_succ,leN_append,leN_leB n v,leB_length]
   simp only[leN,byteAt,UInt8.toNat_ofNat']
   rw[show 8*(n+1)=8*n+8 by omega,Nat.pow_add,Nat.mod_mul]
   simp
theorem leB_leN_mod(n v:Nat)(h:v<2 ^ (8*n)):leN (leB n v)=v:=by rw[leN_leB,Nat.mod_eq_of_lt h]
end Go.Proofs.YtdpdkpfnfllipaaGreatDoor
