/- A part of the proof, no condition. -/
import Derived.Shelf.LaysM
import Derived.Shelf.Small.Wraps
import Derived.Shelf.Strconv.Itoa3
import Derived.Shelf.Strings.Count
import Derived.Shelf.Strings.Cut
import Derived.Shelf.Strings.OnBuilder
import Derived.Shelf.Strings.Split
import Derived.Test.YtdpdkpfnfllipaaGreatDoorN5
import Derived.Test.YtdpdkpfnfllipaaGreatDoorN7
import Derived.Test.YtdpdkpfnfllipaaGreatDoorN13
import Derived.Test.YtdpdkpfnfllipaaGreatDoorN14
import Derived.Test.YtdpdkpfnfllipaaGreatDoorN21
set_option linter.unusedVariables false
set_option linter.unusedSimpArgs false
namespace Go.Proofs.YtdpdkpfnfllipaaGreatDoor
def iv(n:Nat):Value := .int .i64 (n:Int)
theorem SumN_spec(n:Nat)(hn:n≤1099511627776){h:Hp}{s:Sl}{l:List Nat}(hl:l.length=s.len)(hr:RdC h s.base (l.map iv))(hm:l.length<9223372036854775807)(hx:∀ x∈l,x≤9223372036854775807) :
 HC Tryz.prog 20 #[.int .i64 (n:Int),.slice s.base s.len s.cap] h fun r h'=>r=.int .i64 ((min (n+l.sum) 1099511627776:Nat):Int)∧h'=h:=by
 apply wc20
 unfold vc20
 refine⟨fun a i m h'=>h=h'∧∃ k q:Nat,i=k∧a=q∧m+k=l.length∧q≤1099511627776∧q+(l.drop k).sum=n+l.sum,l.length,⟨rfl,0,n,rfl,rfl,rfl,hn,rfl⟩,?_⟩
 rintro _ _ _ m _ ⟨rfl,k,q,rfl,rfl,hm,hq,hs⟩
 refine IfB.dec (fun hlt=>?_) (fun hge=>?_)
 ·have hk:k<l.length:=by omega
  have hd:(l.drop k).sum=l[k]+(l.drop (k+1)).sum:=by rw[List.drop_eq_getElem_cons hk,List.sum_cons]
  have hxk:=hx l[k] (List.getElem_mem hk)
  refine IfB.dec (fun hh=>by omega) (fun _=>?_)
  have one:∀ {K:Int→Prop},K (l[k]:Int) →∃ a:Addr,s.base=some a∧0≤(k:Int)∧(k:Int)<(s.len:Int)∧∃ c:Int,hY h (a.add ((k:Int).toNat*1))=some (.int .i64 c)∧K c:=fun hK=>
   ix1 hr (by simpa using hl) k rfl (by simpa using hk) fun a _ hc=>⟨_,by simpa [iv] using hc,hK⟩
  refine one ?_
  rw[iSub64 (by omega)]
  refine IfB.dec (fun hh=>⟨by rw[Nat.min_eq_right (by omega)];rfl,rfl⟩) (fun hh=>?_)
  refine one ⟨m-1,by omega,rfl,k+1,q+l[k],?_,?_,by omega,by omega,by omega⟩
  ·rw[iAdd64 (by omega)];push_cast;rfl
  ·rw[iAdd64 (by omega)];push_cast;rfl
 ·obtain rfl:k=l.length:=by omega
  have:(l.drop l.length).sum=0:=by simp
  exact⟨by rw[Nat.min_eq_left (by omega)];congr 2;omega,rfl⟩
theorem SumA_spec(n:Nat)(hn:n≤1099511627776)(l:List Nat)(hm:l.length<9223372036854775807)(hx:∀ x∈l,x≤9223372036854775807)(h:Hp)(t:Nat) :
 HC Tryz.prog 20 #[.int .i64 (n:Int),.slice (some (nw h)) l.length l.length] (alc h (l.map iv) t) fun r h'=>r=.int .i64 ((min (n+l.sum) 1099511627776:Nat):Int)∧Ext h h':=by
 refine(SumN_spec n hn (s:=⟨some (nw h),l.length,l.length⟩) (l:=l) rfl (RdC.alc h _ _) hm hx).mono ?_
 rintro _ _ ⟨rfl,rfl⟩
 exact⟨rfl,alc_ext _ _ _⟩
theorem min20{n:Nat}{l:List Nat}(h:min (n+l.sum) 1099511627776≤20000):n+l.sum≤20000:=by omega
theorem topPuts_spec{B:Nat→Prop}{h:Hp}{s:Sl}{P:List PutD}(p:PutsR B h s P)(hs:P.length≤maxLen)(hd:∀ x∈P,x.2.length≤maxLen) :
 HC Tryz.prog 21 #[.slice s.base s.len s.cap,.int .i64 (20000:Int)] h fun r h'=>Ext h h'∧∃ n:Nat,r=.int .i64 (n:Int)∧n≤1099511627776∧(n≤20000→PutsB P):=by
 apply wc21
 unfold vc21
 have hl:=p.len
 simp only[maxLen]at hs hd
 intro h1
 refine(SumA_spec 0 (by omega) [s.len] (by simp) (by simp;omega) h 3).mono ?_
 rintro _ h2 ⟨rfl,e2⟩
 refine⟨_,rfl,?_⟩
 refine⟨fun n i m h'=>Ext h h'∧∃ k q:Nat,i=k∧n=q∧m+k=P.length∧q≤1099511627776∧(q≤20000→P.length≤20000∧∀ j (hj:j<P.length),j<k→P[j].2.length≤20000),P.length,⟨e2,0,_,rfl,rfl,rfl,Nat.min_le_right _ _,fun h=>⟨by have:=min20 h;simp only[List.sum_cons,List.sum_nil]at this;omega,fun j _ hj=>by omega⟩⟩,?_⟩
 rintro _ _ _ m h3 ⟨e3,k,q,rfl,rfl,hm,hq,hn⟩
 have fin:20000<q∨k=P.length→Ext h h3∧∃ n:Nat,Value.int .i64 (q:Int)=.int .i64 (n:Int)∧n≤1099511627776∧(n≤20000→PutsB P):=fun hh=>⟨e3,q,rfl,hq,fun hle=>⟨by have:=(hn hle).1;omega,fun x hx=>by
  obtain⟨j,hj,rfl⟩:=List.mem_iff_getElem.1 hx
  have:=(hn hle).2 j hj (by omega)
  omega⟩⟩
 refine IfB.dec (fun hlt=>IfB.dec (fun hle=>?_) (fun hgt=>fin (.inl (by omega)))) (fun hge=>fin (.inr (by omega)))
 have hk:k<P.length:=by omega
 refine(p.ext e3).ix k rfl hk fun a d c0 c1 rd _=>⟨d,c1,?_⟩
 have hdl:=rd.lenB
 have hd':=hd P[k] (List.getElem_mem hk)
 intro h4
 refine(SumA_spec q hq [d.len] (by simp) (by simp;omega) h3 3).mono ?_
 rintro _ h5 ⟨rfl,e5⟩
 refine⟨_,rfl,m-1,by omega,e3.trans e5,k+1,_,by rw[iAdd64 (by omega)];push_cast;rfl,rfl,by omega,Nat.min_le_right _ _,fun hle2=>?_⟩
 have hle2:=min20 hle2
 simp only[List.sum_cons,List.sum_nil]at hle2
 have hq2:q≤20000:=by omega
 refine⟨(hn hq2).1,fun j hj hjk=>?_⟩
 by_cases e:j=k
 ·subst e;omega
 ·exact(hn hq2).2 j hj (by omega)
def OpsR0(B:Nat→Prop)(h:Hp)(s:Sl)(O:List OpD):Prop:=
 ∃ L:List (OpD × Sl),O=L.map (·.1)∧Rd 5 h s (c5 L)∧(∀ a,s.base=some a→s.len≠0→B a.block)∧∀ x∈L,PutsR B h x.2 x.1.P
theorem OpsR0.len{B:Nat→Prop}{h:Hp}{s:Sl}{O:List OpD}(p:OpsR0 B h s O):s.len=O.length:=by
 obtain⟨L,rfl,h2,_⟩:=p
 have:=h2.len
 rw[c5_length]at this
 simp;omega
theorem OpsR0.eq{B:Nat→Prop}{h h':Hp}{s:Sl}{O:List OpD}(p:OpsR0 B h s O)(e:∀ b,B b→h'[b]? = h[b]?):OpsR0 B h' s O:=by
 obtain⟨L,h1,h2,h3,h4⟩:=p
 exact⟨L,h1,h2.mv h3 e,h3,fun x hx=>(h4 x hx).eq e⟩
theorem OpsR0.mono{B B':Nat→Prop}{h:Hp}{s:Sl}{O:List OpD}(p:OpsR0 B h s O)(hb:∀ b,B b→B' b):OpsR0 B' h s O:=by
 obtain⟨L,h1,h2,h3,h4⟩:=p
 exact⟨L,h1,h2,fun a ha hn=>hb _ (h3 a ha hn),fun x hx=>(h4 x hx).mono hb⟩
theorem OpsR0.full{B:Nat→Prop}{h:Hp}{s:Sl}{O:List OpD}(p:OpsR0 B h s O)(hb:∀ o∈O,PutsB o.P):OpsR B h s O:=by
 obtain⟨L,rfl,h2,h3,h4⟩:=p
 exact⟨L,rfl,h2,h3,fun x hx=>⟨h4 x hx,hb _ (List.mem_map_of_mem hx)⟩⟩
theorem OpsR0.ix{B:Nat→Prop}{h:Hp}{s:Sl}{O:List OpD}(p:OpsR0 B h s O){i:Int}(k:Nat)(hi:i=k)(hk:k<O.length){K:Addr→Prop}
 (hK:∀ a d,hY h ((a.add (i.toNat*5)).add 4)=some (.slice d.base d.len d.cap)→PutsR B h d O[k].P→K a):∃ a:Addr,s.base=some a∧0≤i∧i<(s.len:Int)∧K a:=by
 have hl:=p.len
 obtain⟨L,rfl,h2,_,h4⟩:=p
 subst hi
 have hkL:k<L.length:=by simpa using hk
 obtain⟨a,ha,hc⟩:=h2.rd (k*5+4) (.slice L[k].2.base L[k].2.len L[k].2.cap) (by rw[c5_get L k 4 (by omega),List.getElem?_eq_getElem hkL];rfl)
 have hm:=h4 _ (List.getElem_mem hkL)
 refine⟨a,ha,by omega,by omega,hK a L[k].2 (by rw[Int.toNat_natCast,add_add];exact hc) ?_⟩
 simpa using hm
theorem IntsR.eq{B:Nat→Prop}{h h':Hp}{s:Sl}{l:List Int}(p:IntsR B h s l)(e:∀ b,B b→h'[b]? = h[b]?):IntsR B h' s l:=⟨p.1.mv p.2 e,p.2⟩
theorem IntsR.mono{B B':Nat→Prop}{h:Hp}{s:Sl}{l:List Int}(p:IntsR B h s l)(hb:∀ b,B b→B' b):IntsR B' h s l:=⟨p.1,fun a ha hn=>hb _ (p.2 a ha hn)⟩
theorem IntsR.len{B:Nat→Prop}{h:Hp}{s:Sl}{l:List Int}(p:IntsR B h s l):s.len=l.length:=by have:=p.1.len;simp at this;omega
structure StepD where
 k:Int
 c:Int
 O:List OpD
 n:Int
 pk:List Int
 tn:List Int
structure StSl where
 ops:Sl
 pk:Sl
 tn:Sl
def stepV(x:StepD × StSl):List Value:=[.int .i64 x.1.k,.int .i64 x.1.c,.slice x.2.ops.base x.2.ops.len x.2.ops.cap,.int .i64 x.1.n,.slice x.2.pk.base x.2.pk.len x.2.pk.cap,.slice x.2.tn.base x.2.tn.len x.2.tn.cap]
def c6(l:List (StepD × StSl)):List Value:=l.flatMap stepV
theorem stepV_len(x:StepD × StSl):(stepV x).length=6:=rfl
theorem c6_cons(x:StepD × StSl)(r:List (StepD × StSl)):c6 (x::r)=stepV x++c6 r:=rfl
theorem c6_length:∀ l:List (StepD × StSl),(c6 l).length=l.length*6
 | []=>rfl
 | x::r=>by rw[c6_cons,List.length_append,c6_length r,stepV_len];simp only[List.length_cons];omega
theorem c6_get:∀ (l:List (StepD × StSl)) (i j:Nat),j<6→(c6 l)[i*6+j]? =(l[i]?).bind fun x=>(stepV x)[j]?
 | [],i,j,_=>by simp[c6]
 | x::r,0,j,h=>by rw[c6_cons,List.getElem?_append_left (by rw[stepV_len];omega)];simp
 | x::r,i+1,j,h=>by
   rw[c6_cons,List.getElem?_append_right (by rw[stepV_len];omega)]
   rw[show(i+1)*6+j-(stepV x).length=i*6+j by rw[stepV_len];omega,c6_get r i j h]
   rfl
def StepsR(B:Nat→Prop)(h:Hp)(s:Sl)(T:List StepD):Prop:=
 ∃ L:List (StepD × StSl),T=L.map (·.1)∧Rd 6 h s (c6 L)∧(∀ a,s.base=some a→s.len≠0→B a.block)∧∀ x∈L,OpsR0 B h x.2.ops x.1.O∧IntsR B h x.2.pk x.1.pk∧IntsR B h x.2.tn x.1.tn
theorem StepsR.eq{B:Nat→Prop}{h h':Hp}{s:Sl}{T:List StepD}(p:StepsR B h s T)(e:∀ b,B b→h'[b]? = h[b]?):StepsR B h' s T:=by
 obtain⟨L,h1,h2,h3,h4⟩:=p
 exact⟨L,h1,h2.mv h3 e,h3,fun x hx=>⟨(h4 x hx).1.eq e,(h4 x hx).2.1.eq e,(h4 x hx).2.2.eq e⟩⟩
theorem StepsR.mono{B B':Nat→Prop}{h:Hp}{s:Sl}{T:List StepD}(p:StepsR B h s T)(hb:∀ b,B b→B' b):StepsR B' h s T:=by
 obtain⟨L,h1,h2,h3,h4⟩:=p
 exact⟨L,h1,h2,fun a ha hn=>hb _ (h3 a ha hn),fun x hx=>⟨(h4 x hx).1.mono hb,(h4 x hx).2.1.mono hb,(h4 x hx).2.2.mono hb⟩⟩
theorem StepsR.to{S:Kd→Prop}{A B:Gh}{a b:Hp}(x:To S A a B b){s:Sl}{T:List StepD}(p:StepsR (Stab A a) a s T):StepsR (Stab B b) b s T:=
 (p.eq fun k hk=>(x.stab hk).1).mono fun k hk=>(x.stab hk).2
theorem StepsR.len{B:Nat→Prop}{h:Hp}{s:Sl}{T:List StepD}(p:StepsR B h s T):s.len=T.length:=by
 obtain⟨L,rfl,h2,_⟩:=p
 have:=h2.len
 rw[c6_length]at this
 simp;omega
theorem StepsR.ix{B:Nat→Prop}{h:Hp}{s:Sl}{T:List StepD}(p:StepsR B h s T){i:Int}(k:Nat)(hi:i=k)(hk:k<T.length){K:Addr→Prop}
 (hK:∀ (a:Addr) (u:StSl),hY h (a.add (i.toNat*6))=some (.int .i64 T[k].k)→hY h ((a.add (i.toNat*6)).add 1)=some (.int .i64 T[k].c)→hY h ((a.add (i.toNat*6)).add 2)=some (.slice u.ops.base u.ops.len u.ops.cap)→hY h ((a.add (i.toNat*6)).add 3)=some (.int .i64 T[k].n)→hY h ((a.add (i.toNat*6)).add 4)=some (.slice u.pk.base u.pk.len u.pk.cap)→hY h ((a.add (i.toNat*6)).add 5)=some (.slice u.tn.base u.tn.len u.tn.cap)→OpsR0 B h u.ops T[k].O→IntsR B h u.pk T[k].pk→IntsR B h u.tn T[k].tn→K a):∃ a:Addr,s.base=some a∧0≤i∧i<(s.len:Int)∧K a:=by
 have hl:=p.len
 obtain⟨L,rfl,h2,_,h4⟩:=p
 subst hi
 have hkL:k<L.length:=by simpa using hk
 have g:∀ j,j<6→(c6 L)[k*6+j]? =(stepV L[k])[j]?:=fun j hj=>by rw[c6_get L k j hj,List.getElem?_eq_getElem hkL];rfl
 have cell:∀ j v,j<6→(stepV L[k])[j]? = some v →∃ a:Addr,s.base=some a∧hY h ((a.add (((k:Int)).toNat*6)).add j)=some v:=fun j v hj hv=>by
  obtain⟨a,ha,hc⟩:=h2.rd (k*6+j) v (by rw[g j hj];exact hv)
  exact⟨a,ha,by rw[Int.toNat_natCast,add_add];exact hc⟩
 obtain⟨a,ha,q0⟩:=cell 0 _ (by omega) rfl
 obtain⟨a1,ha1,q1⟩:=cell 1 _ (by omega) rfl
 obtain⟨a2,ha2,q2⟩:=cell 2 _ (by omega) rfl
 obtain⟨a3,ha3,q3⟩:=cell 3 _ (by omega) rfl
 obtain⟨a4,ha4,q4⟩:=cell 4 _ (by omega) rfl
 obtain⟨a5,ha5,q5⟩:=cell 5 _ (by omega) rfl
 rw[ha]at ha1 ha2 ha3 ha4 ha5
 cases ha1;cases ha2;cases ha3;cases ha4;cases ha5
 rw[Addr.add_zero]at q0
 have hm:=h4 _ (List.getElem_mem hkL)
 refine⟨a,ha,by omega,by omega,hK a L[k].2 ?_ ?_ q2 ?_ q4 q5 ?_ ?_ ?_⟩
 ·simpa using q0
 ·simpa using q1
 ·simpa using q3
 ·simpa using hm.1
 ·simpa using hm.2.1
 ·simpa using hm.2.2
def StepsM(T:List StepD):Prop:=T.length≤maxLen∧∀ x∈T,x.O.length≤maxLen∧x.pk.length≤maxLen∧x.tn.length≤maxLen∧∀ o∈x.O,o.P.length≤maxLen∧∀ q∈o.P,q.2.length≤maxLen
def SmallT(T:List StepD):Prop:=T.length≤150∧∀ x∈T,x.O.length≤20000∧∀ o∈x.O,PutsB o.P
theorem small_spec{h:Hp}{s:Sl}{T:List StepD}(p:StepsR (· < h.size) h s T)(hT:StepsM T):HC Tryz.prog 5 #[.slice s.base s.len s.cap] h fun r h'=>Ext h h'∧∃ c,r=.bool c∧(c=true→SmallT T):=by
 apply wc5
 unfold vc5
 have hl:=p.len
 obtain⟨hm,hx⟩:=hT
 simp only[maxLen]at hm hx
 refine⟨fun n i m h'=>Ext h h'∧∃ k q:Nat,i=k∧n=q∧m+k=T.length∧q≤1099511627776∧∀ j (hj:j<T.length),j<k→T[j].O.length≤20000∧∀ o∈T[j].O,PutsB o.P,T.length,⟨.refl _,0,0,rfl,rfl,rfl,by omega,fun j _ hj=>by omega⟩,?_⟩
 rintro _ _ _ m h1 ⟨e1,k,q,rfl,rfl,hmk,hq,hdone⟩
 refine IfB.dec (fun hlt=>?_) fun hge=>?_
 ·have hk:k<T.length:=by omega
  obtain⟨x1,x2,x3,x4⟩:=hx T[k] (List.getElem_mem hk)
  have p1:StepsR (· < h.size) h1 s T:=p.eq fun b hb=>e1.block b hb
  refine p1.ix k rfl hk fun a u _ _ c2 _ c4 c5' ro rp rt=>⟨u.ops,c2,?_⟩
  refine p1.ix k rfl hk fun a' u' _ _ _ _ c4' _ _ rp' _=>⟨u'.pk,c4',?_⟩
  refine p1.ix k rfl hk fun a'' u'' _ _ _ _ _ c5'' _ _ rt''=>⟨u''.tn,c5'',?_⟩
  have l1:=ro.len
  have l2:=rp'.len
  have l3:=rt''.len
  intro h2
  refine⟨alc_ext _ _ _,(SumA_spec q hq [u.ops.len,u'.pk.len,u''.tn.len,3] (by simp) (by simp;omega) h1 3).mono ?_⟩
  rintro _ h3 ⟨rfl,e3⟩
  refine⟨_,rfl,e3,?_⟩
  refine⟨fun n i m h'=>Ext h h'∧∃ j q:Nat,i=j∧n=q∧m+j=T[k].O.length∧q≤1099511627776∧(q≤20000→T[k].O.length≤20000∧∀ z (hz:z<T[k].O.length),z<j→PutsB (T[k].O[z]).P),T[k].O.length,⟨e1.trans e3,0,_,rfl,rfl,rfl,Nat.min_le_right _ _,fun hle=>⟨by have:=min20 hle;simp only[List.sum_cons,List.sum_nil]at this;omega,fun z _ hz=>by omega⟩⟩,?_⟩
  rintro _ _ _ m4 h4 ⟨e4,j,q4,rfl,rfl,hmj,hq4,hin⟩
  have p4:StepsR (· < h.size) h4 s T:=p.eq fun b hb=>e4.block b hb
  have next:q4≤20000→j=T[k].O.length →∃ n2,n2<m∧(Ext h h4∧∃ k' q:Nat,iAdd .i64 (k:Int) (1:Int)=k'∧(q4:Int)=q∧n2+k'=T.length∧q≤1099511627776∧∀ j (hj:j<T.length),j<k'→T[j].O.length≤20000∧∀ o∈T[j].O,PutsB o.P):=fun hle hj=>by
   refine⟨m-1,by omega,e4,k+1,q4,by rw[iAdd64 (by omega)];push_cast;rfl,rfl,by omega,hq4,fun z hz hzk=>?_⟩
   by_cases e:z=k
   ·subst e
    refine⟨(hin hle).1,fun o ho=>?_⟩
    obtain⟨y,hy,rfl⟩:=List.mem_iff_getElem.1 ho
    exact(hin hle).2 y hy (by omega)
   ·exact hdone z hz (by omega)
  have fin:20000<q4→Ext h h4∧∃ c,Value.bool false=.bool c∧(c=true→SmallT T):=fun _=>⟨e4,false,rfl,fun h=>by cases h⟩
  refine p4.ix k rfl hk fun b v _ _ d2 _ _ _ so _ _=>⟨v.ops,d2,?_⟩
  have l5:=so.len
  refine IfB.dec (fun hjl=>IfB.dec (fun hle=>?_) fun hgt=>IfB.dec (fun _=>fin (by omega)) fun hh=>absurd (by omega) hh) fun hjg=>IfB.dec (fun hgt=>fin (by omega)) fun hle=>next (by omega) (by omega)
  have hj:j<T[k].O.length:=by omega
  clear next fin
  refine p4.ix k rfl hk fun b' v' _ _ d2' _ _ _ so' _ _=>⟨v'.ops,d2',?_⟩
  obtain⟨o1,o2⟩:=x4 _ (List.getElem_mem hj)
  refine so'.ix j rfl hj fun a5 d d4 pd=>⟨d,d4,(topPuts_spec pd (by simp only[maxLen];omega) (by simp only[maxLen];exact o2)).mono ?_⟩
  rintro _ h5 ⟨e5,n5,rfl,hn5,hb5⟩
  refine⟨_,rfl,?_⟩
  intro h6
  refine(SumA_spec q4 hq4 [n5] (by simp) (by simp;omega) h5 3).mono ?_
  rintro _ h7 ⟨rfl,e7⟩
  refine⟨_,rfl,m4-1,by omega,(e4.trans e5).trans e7,j+1,_,by rw[iAdd64 (by omega)];push_cast;rfl,rfl,by omega,Nat.min_le_right _ _,fun hle2=>?_⟩
  have hle2:=min20 hle2
  simp only[List.sum_cons,List.sum_nil]at hle2
  have hq2:q4≤20000:=by omega
  refine⟨(hin hq2).1,fun z hz hzj=>?_⟩
  by_cases e:z=j
  ·subst e;exact hb5 (by omega)
  ·exact(hin hq2).2 z hz (by omega)
 ·refine⟨e1,_,rfl,fun hc=>⟨by have:=of_decide_eq_true hc;omega,fun x hx'=>?_⟩⟩
  obtain⟨j,hj,rfl⟩:=List.mem_iff_getElem.1 hx'
  exact hdone j hj (by omega)
def RunAt(G:Gh)(h:Hp)(M N sc base:Nat):Prop:=
 ∃ (X:StD) (cl:List CSl) (bg:List BgD) (ev:Int) (db sb:Nat) (all:Sl) (bb:Nat→Nat),SdIn G h M N sc X cl bg bg.length ev db sb all bb∧SdOk G.W N X bg base∧Live X.dv
def FlushD(D D':MgrD):Prop:=(D.queue = []∧D'=D) ∨∃ (c:Int) (k:Nat),1≤k∧k≤D.queue.length∧D'=doneD c D k
theorem topBegin_spec{h:Hp}:HC Tryz.prog 7 #[] h fun r h'=>∃ (sc:Nat) (G':Gh) (X:StD) (db sb:Nat),r=.tuple #[pv sc,.bool true]∧To sSt G00 h G' h'∧G'.W=G00.W∧SdIn G' h' 258 193 sc X (List.replicate 8 cl0) [] 0 0 db sb Sl.nil id∧SdOk G'.W 193 X [] 0∧Live X.dv∧X.D=⟨[],[],0,0,0,0,0,false⟩∧X.num=0∧X.pos=0∧X.count=0:=by
 apply wc7
 unfold vc7
 have hl:HC Tryz.prog 27 #[] h fun r h'=>r=.agg #[.int .i64 (8:Int),.int .i64 (96:Int)]∧Ext h h':=by
  apply wc27
  unfold vc27
  intro h1
  have e1:Ext h h1:=alc_ext _ _ _
  have s1:h1.size=h.size+1:=size_alc _ _ _
  refine(Row.alc h [.int .i64 (0:Int),.int .i64 (0:Int)] 69).put (vs:=[.int .i64 (8:Int),.int .i64 (96:Int)]) rfl (by simp[cellOk]) fun h2 r2 s2 o2=>?_
  exact⟨8,96,r2.get0 rfl,r2.get rfl,rfl,by rw[s2];exact e1.size,fun b hb=>by rw[o2 b (by omega),e1.block b hb]⟩
 refine hl.mono ?_
 rintro _ h1 ⟨rfl,e1⟩
 refine⟨8,96,rfl,dNew_spec.mono ?_⟩
 rintro _ h2 ⟨sc,G',X,db,sb,rfl,y,w,x,o,l,hD,hn,hp,hc⟩
 have y':To sSt G00 h G' h2:=⟨y.le,fun b hb=>y.old b (Nat.lt_of_lt_of_le hb e1.size),Nat.le_trans e1.size y.size,fun b hb hn=>by rw[y.fr b (Nat.lt_of_lt_of_le hb e1.size) hn,e1.block b hb],y.ht⟩
 exact⟨_,_,rfl,.yes rfl ⟨sc,G',X,db,sb,rfl,y',w,x,o,l,hD,hn,hp,hc⟩⟩
section
variable{G:Gh}{h:Hp}{M N sc:Nat}{X:StD}{cl:List CSl}{bg:List BgD}{base:Nat}{ev:Int}{db sb:Nat}{all:Sl}{bb:Nat→Nat}
theorem topFlush_spec(t:HT G h)(x:SdIn G h M N sc X cl bg bg.length ev db sb all bb)(o:SdOk G.W N X bg base)(l:Live X.dv)(hN:N+2≤900000)(hM:M+128≤1000000):HC Tryz.prog 18 #[pv sc] h fun r h'=>∃ (G':Gh) (c:Int) (X':StD) (ev':Int),r=.int .i64 c∧To sStep G h G' h'∧SdIn G' h' (M+128) (N+2) sc X' cl bg bg.length ev' db sb all bb∧SdOk G'.W (N+2) X' bg base∧Live X'.dv∧FlushD X.D X'.D:=by
 apply wc18
 unfold vc18
 refine(dFlush_spec t x o (by omega) hM).mono ?_
 rintro _ h1 ⟨G1,c,X1,rfl,y1,x1,_,lv⟩
 obtain⟨o1,l1,f1⟩:=lv l
 have fd:FlushD X.D X1.D:=by
  rcases f1 with ⟨_,rfl,hq⟩ | ⟨k,h1,h2,_,hD,_⟩
  ·exact .inl ⟨hq,rfl⟩
  ·exact .inr ⟨c,k,h1,h2,hD⟩
 refine⟨_,rfl,IfB.eq (fun _=>?_) fun _=>⟨G1,c,X1,_,rfl,y1,x1.moreN (by omega),o1.moreN (by omega),l1,fd⟩⟩
 refine(dCheck_spec y1.ht x1 o1 l1 (by omega) (by omega)).mono ?_
 rintro _ h2 ⟨G2,X2,rfl,y2,x2,o2,l2,hD⟩
 exact⟨_,rfl,G2,c,X2,_,rfl,y1.trans y2,x2,o2,l2,by rw[hD];exact fd⟩
theorem topOne_spec(t:HT G h)(r:RunAt G h M N sc base)(hN:N+2≤900000)(hM:M+128≤1000000)(s:StepD){u:StSl}(ro:OpsR (Stab G h) h u.ops s.O)(hO:s.O.length≤1000000) :
 HC Tryz.prog 8 #[pv sc,.agg #[.int .i64 s.k,.int .i64 s.c,.slice u.ops.base u.ops.len u.ops.cap,.int .i64 s.n,.slice u.pk.base u.pk.len u.pk.cap,.slice u.tn.base u.tn.len u.tn.cap]] h fun r h'=>r=.tuple #[]∧∃ G':Gh,To (fun _=>True) G h G' h'∧RunAt G' h' (M+128) (N+2) sc base:=by
 obtain⟨X,cl,bg,ev,db,sb,all,bb,x,o,l⟩:=r
 apply wc8
 unfold vc8
 intro h1
 have e1:Ext h h1:=alc_ext _ _ _
 have y1:To (fun _=>False) G h G h1:=e1.to t
 have r1:Row h1 h.size [.int .i64 s.k,.int .i64 s.c,.slice u.ops.base u.ops.len u.ops.cap,.int .i64 s.n,.slice u.pk.base u.pk.len u.pk.cap,.slice u.tn.base u.tn.len u.tn.cap]:=Row.alc _ _ _
 have e0:nw h=(⟨h.size,0,none⟩:Addr):=rfl
 rw[e0]
 clear_value h1
 clear e0
 have x1:=x.pure y1
 have ro1:=ro.to y1
 have yT:To (fun _=>True) G h G h1:=y1.mono fun _ h=>h.elim
 refine⟨_,r1.get0 rfl,IfB.eq (fun _=>?_) fun _=>IfB.eq (fun _=>?_) fun _=>IfB.eq (fun _=>?_) fun _=>IfB.eq (fun _=>?_) fun _=>IfB.eq (fun _=>?_) fun _=>IfB.eq (fun _=>?_) fun _=>?_⟩
 ·refine⟨_,r1.get rfl,_,r1.get rfl,(dAdd_spec y1.ht x1 _ ro1 hO).mono ?_⟩
  rintro _ h2 ⟨G2,e,cl2,rfl,y2,w2,x2,_⟩
  exact⟨_,rfl,rfl,G2,yT.trans (y2.mono fun _ _=>trivial),X,cl2,bg,ev,db,sb,all,bb,(x2.moreM y2.ht (by omega)).moreN (by omega),by rw[w2];exact o.moreN (by omega),l⟩
 ·refine⟨_,r1.get rfl,(dStep_spec y1.ht x1 o (by omega) (by omega) _).mono ?_⟩
  rintro _ h2 ⟨G2,X2,cl2,bg2,all2,bb2,ev2,b0,b1,b2,b3,e,sl,rfl,y2,w2,x2,o2,hdv,_⟩
  exact⟨_,_,_,_,sl,_,rfl,rfl,G2,yT.trans (y2.mono fun _ _=>trivial),X2,cl2,bg2,ev2,db,sb,all2,bb2,(x2.moreM y2.ht (by omega)).moreN (by omega),by rw[w2];exact o2.moreN (by omega),by rw[hdv];exact l⟩
 ·refine(topFlush_spec y1.ht x1 o l hN hM).mono ?_
  rintro _ h2 ⟨G2,c,X2,ev2,rfl,y2,x2,o2,l2,_⟩
  exact⟨_,rfl,rfl,G2,yT.trans (y2.mono fun _ _=>trivial),X2,cl,bg,ev2,db,sb,all,bb,x2,o2,l2⟩
 ·refine(dCheck_spec y1.ht x1 o l (by omega) (by omega)).mono ?_
  rintro _ h2 ⟨G2,X2,rfl,y2,x2,o2,l2,_⟩
  exact⟨_,rfl,rfl,G2,yT.trans (y2.mono fun _ _=>trivial),X2,cl,bg,_,db,sb,all,bb,(x2.moreM y2.ht (by omega)).moreN (by omega),o2.moreN (by omega),l2⟩
 ·refine(dClean_spec y1.ht x1 o (by omega)).mono ?_
  rintro _ h2 ⟨G2,n,rfl,y2,x2,o2⟩
  exact⟨_,rfl,rfl,G2,yT.trans (y2.mono fun _ _=>trivial),X,cl,bg,_,db,sb,all,bb,(x2.moreM y2.ht (by omega)).moreN (by omega),o2.moreN (by omega),l⟩
 ·refine⟨_,r1.get rfl,by omega,(dReadOnly_spec y1.ht x1 o _).mono ?_⟩
  rintro _ h2 ⟨G2,X2,rfl,y2,x2,o2,hdv⟩
  exact⟨rfl,rfl,G2,yT.trans (y2.mono fun _ _=>trivial),X2,cl,bg,_,db,sb,all,bb,(x2.moreM y2.ht (by omega)).moreN (by omega),o2.moreN (by omega),by rw[hdv];exact l⟩
 ·exact⟨rfl,G,yT,X,cl,bg,ev,db,sb,all,bb,(x1.moreM y1.ht (by omega)).moreN (by omega),o.moreN (by omega),l⟩
end
theorem ext00{S:Kd→Prop}{h h':Hp}{G':Gh}(y:To S G00 h G' h'):Ext h h':=⟨y.size,fun b hb=>y.fr b hb fun q=>q.1⟩
theorem StepsR.ghost{h:Hp}{s:Sl}{T:List StepD}(p:StepsR (· < h.size) h s T):StepsR (Stab G00 h) h s T:=p.mono fun b hb=>⟨hb,id⟩
theorem StepsR.ops{B:Nat→Prop}{h:Hp}{s:Sl}{T:List StepD}(sm:SmallT T){k:Nat}(hk:k<T.length){u:Sl}(p:OpsR0 B h u T[k].O):OpsR B h u T[k].O∧T[k].O.length≤1000000:=by
 obtain⟨q1,q2⟩:=sm.2 _ (List.getElem_mem hk)
 exact⟨p.full q2,by omega⟩
theorem Bytes_spec{h:Hp}{s t:Sl}{a b:List UInt8}(ha:Rd 1 h s (a.map bv))(hb:Rd 1 h t (b.map bv))(hmax:a.length<9223372036854775807) :
 HC Tryz.prog 16 #[.slice s.base s.len s.cap,.slice t.base t.len t.cap] h fun r h'=>r=.bool (decide (a=b))∧h'=h:=by
 apply wc16
 unfold vc16
 have la:=ha.lenB
 have lb:=hb.lenB
 refine IfB.ne (fun hne=>⟨?_,rfl⟩) (fun heq=>?_)
 ·rw[decide_eq_false];rintro rfl;omega
 refine⟨fun i m h'=>h=h'∧∃ k:Nat,i=k∧m+k=a.length∧a.take k=b.take k,a.length,⟨rfl,0,rfl,rfl,rfl⟩,?_⟩
 rintro _ _ m _ ⟨rfl,k,rfl,hm,ht⟩
 refine IfB.dec (fun hlt=>?_) (fun hge=>?_)
 ·refine ixB ha.rd la k rfl (by omega) ?_
  refine ixB hb.rd lb k rfl (by omega) ?_
  refine IfB.ne (fun hne=>⟨?_,rfl⟩) (fun he=>?_)
  ·rw[decide_eq_false];rintro rfl;exact hne rfl
  ·refine⟨m-1,by omega,rfl,k+1,?_,by omega,?_⟩
   ·rw[iAdd64 (by omega)];push_cast;rfl
   ·rw[List.take_succ_eq_append_getElem (by omega),List.take_succ_eq_append_getElem (by omega),ht]
    congr 2
    exact UInt8.toNat_inj.1 (by omega)
 ·refine⟨?_,rfl⟩
  rw[List.take_of_length_le (by omega),List.take_of_length_le (by omega)]at ht
  rw[decide_eq_true ht]
def Wrote(L:List HiD)(a:Int)(l:List UInt8):Prop:=∃ x∈L,(x.st=3∨x.st=2)∧(a,l)∈x.P
section
variable{G:Gh}{h:Hp}
theorem wrote_spec(t:HT G h){s:Sl}{L:List HiD}(r:HsR G h s L)(hL:L.length≤1000000)(a:Int){d:Sl}{l:List UInt8}(sl:SlB G d l)(hl:l.length≤1000000) :
 HC Tryz.prog 15 #[.slice s.base s.len s.cap,.int .i64 a,.slice d.base d.len d.cap] h fun r h'=>h'=h∧∃ c,r=.bool c∧(Wrote L a l→c=true):=by
 apply wc15
 unfold vc15
 have hls:=r.len
 have rdd:=sl.rd t
 refine⟨fun i n h'=>h=h'∧∃ k:Nat,i=k∧n+k=L.length∧∀ j (hj:j<L.length),j<k →¬ ((L[j].st=3∨L[j].st=2)∧(a,l)∈L[j].P),L.length,⟨rfl,0,rfl,rfl,fun j _ hj=>by omega⟩,?_⟩
 rintro _ _ n1 _ ⟨rfl,k,rfl,hn1,hno⟩
 refine IfB.dec (fun hlt=>?_) fun hge=>?_
 ·have hk:k<L.length:=by omega
  obtain⟨_,_,hps,hPB⟩:=r.each _ (List.getElem_mem hk)
  have pr:=hps.puts t
  have next:¬ ((L[k].st=3∨L[k].st=2)∧(a,l)∈L[k].P) →∃ n2,n2<n1∧(h=h∧∃ k':Nat,iAdd .i64 (k:Int) (1:Int)=k'∧n2+k'=L.length∧∀ j (hj:j<L.length),j<k' →¬ ((L[j].st=3∨L[j].st=2)∧(a,l)∈L[j].P)):=fun hh=>by
   refine⟨n1-1,by omega,rfl,k+1,by rw[iAdd64 (by omega)];push_cast;rfl,by omega,fun j hj hjk=>?_⟩
   by_cases e:j=k
   ·subst e;exact hh
   ·exact hno j hj (by omega)
  have hpl:=pr.len
  have hPl:=hPB.1
  have inner:∃ (vI1:Int→Nat→Hp→Prop) (n3:Nat),vI1 (0:Int) n3 h∧
   ∀ _junk:Nat→Value,∀ q:Int,∀ (n4:Nat) (vh2:Hp),vI1 q n4 vh2 →
   ∃ a2:Addr,s.base=some a2∧0≤(k:Int)∧(k:Int)<(s.len:Int)∧
   ∃ c2:Sl,hY vh2 ((a2.add ((k:Int).toNat*7)).add 6)=some (.slice c2.base c2.len c2.cap)∧
   IfB (decide (q<(c2.len:Int))) (∃ a3:Addr,s.base=some a3∧0≤(k:Int)∧(k:Int)<(s.len:Int)∧
    ∃ c3:Sl,hY vh2 ((a3.add ((k:Int).toNat*7)).add 6)=some (.slice c3.base c3.len c3.cap)∧
    ∃ a4:Addr,c3.base=some a4∧0≤q∧q<(c3.len:Int)∧
    ∃ c4:Int,hY vh2 (a4.add ((q).toNat*2))=some (.int .i64 c4)∧
    IfB (c4 == a) (∃ a5:Addr,s.base=some a5∧0≤(k:Int)∧(k:Int)<(s.len:Int)∧
     ∃ c5:Sl,hY vh2 ((a5.add ((k:Int).toNat*7)).add 6)=some (.slice c5.base c5.len c5.cap)∧
     ∃ a6:Addr,c5.base=some a6∧0≤q∧q<(c5.len:Int)∧
     ∃ c6:Sl,hY vh2 ((a6.add ((q).toNat*2)).add 1)=some (.slice c6.base c6.len c6.cap)∧
     HC Tryz.prog 16 #[.slice c6.base c6.len c6.cap,.slice d.base d.len d.cap] vh2 fun r vh3=>
     ∃ c7:Bool,r=.bool c7∧
     IfB c7 (vh3=h∧∃ c,Value.bool true=.bool c∧(Wrote L a l→c=true))
     (∃ n5,n5<n4∧vI1 (iAdd .i64 q (1:Int)) n5 vh3))
    (∃ n5,n5<n4∧vI1 (iAdd .i64 q (1:Int)) n5 vh2))
   (∃ n2,n2<n1∧(h=vh2∧∃ k':Nat,iAdd .i64 (k:Int) (1:Int)=k'∧n2+k'=L.length∧∀ j (hj:j<L.length),j<k' →¬ ((L[j].st=3∨L[j].st=2)∧(a,l)∈L[j].P))):=by
   refine⟨fun i n h'=>h=h'∧∃ q:Nat,i=q∧n+q=L[k].P.length∧∀ j (hj:j<L[k].P.length),j<q→L[k].P[j]≠(a,l),L[k].P.length,⟨rfl,0,rfl,rfl,fun j _ hj=>by omega⟩,?_⟩
   rintro _ _ n4 _ ⟨rfl,q,rfl,hn4,hnq⟩
   refine r.ix k rfl hk fun a2 _ _ _ g6=>⟨_,g6,?_⟩
   refine IfB.dec (fun hql=>?_) fun hqg=>?_
   ·have hq:q<L[k].P.length:=by omega
    have nextq:L[k].P[q]≠(a,l) →∃ n5,n5<n4∧(h=h∧∃ q':Nat,iAdd .i64 (q:Int) (1:Int)=q'∧n5+q'=L[k].P.length∧∀ j (hj:j<L[k].P.length),j<q'→L[k].P[j]≠(a,l)):=fun hh=>by
     refine⟨n4-1,by omega,rfl,q+1,by rw[iAdd64 (by omega)];push_cast;rfl,by omega,fun j hj hjq=>?_⟩
     by_cases e:j=q
     ·subst e;exact hh
     ·exact hnq j hj (by omega)
    refine r.ix k rfl hk fun a3 _ _ _ g6=>⟨_,g6,?_⟩
    refine pr.ix q rfl hq fun a4 dd c0 _ _ _=>⟨_,c0,IfB.eq (fun e=>?_) fun e=>nextq fun h=>e (by rw[h])⟩
    refine r.ix k rfl hk fun a5 _ _ _ g6=>⟨_,g6,?_⟩
    refine pr.ix q rfl hq fun a6 dd _ c1 rd _=>⟨dd,c1,?_⟩
    have hlen:=hPB.2 _ (List.getElem_mem hq)
    refine(Bytes_spec rd rdd (by omega)).mono ?_
    rintro _ _ ⟨rfl,hh⟩
    obtain rfl:=hh.symm
    refine⟨_,rfl,IfB.dec (fun _=>⟨rfl,true,rfl,fun _=>rfl⟩) fun hne=>nextq fun h=>hne (by rw[h])⟩
   ·obtain rfl:q=L[k].P.length:=by omega
    refine next fun hh=>?_
    obtain⟨j,hj,e⟩:=List.mem_iff_getElem.1 hh.2
    exact hnq j hj hj e
  refine r.ix k rfl hk fun a1 g0 _ _ _=>⟨_,g0,IfB.ne (fun hne3=>?_) fun _=>inner⟩
  refine r.ix k rfl hk fun a1 g0 _ _ _=>⟨_,g0,IfB.ne (fun hne2=>next fun hh=>?_) fun _=>inner⟩
  rcases hh.1 with h3 | h2
  ·exact hne3 h3
  ·exact hne2 h2
 ·obtain rfl:k=L.length:=by omega
  refine⟨rfl,false,rfl,fun⟨x,hx,hh⟩=>?_⟩
  obtain⟨j,hj,rfl⟩:=List.mem_iff_getElem.1 hx
  exact absurd hh (hno j hj hj)
theorem link_see{W:Int→List UInt8→Prop}{N base:Nat}{X:StD}{bg:List BgD}{L:List HiD}(o:SdOk W N X bg base)(hs:Sees X bg L){a:Int}{l:List UInt8}(hw:W a l):Wrote L a l:=by
 rcases o.link a l hw with ⟨i,b,h1,h2,h3,h4⟩ | ⟨j,t,h1,h2,h3⟩
 ·obtain⟨x,q1,q2,q3,_⟩:=hs i b h1
  have h0:=o.hs i b h1
  rw[if_pos h2]at h0
  unfold seeSt at q2
  unfold seeP at q3
  rw[if_pos h0]at q2 q3
  exact⟨x,List.mem_of_getElem? q1,by rw[q2];exact h3.symm,by rw[q3];exact h4⟩
 ·have hj:=(List.getElem?_eq_some_iff.1 h1).1
  have hl:=o.len
  have hb:bg[base+j]? = some (bg[base+j]'(by omega)):=List.getElem?_eq_getElem _
  obtain⟨x,q1,q2,q3,_⟩:=hs _ _ hb
  have h0:=o.hs _ _ hb
  rw[if_neg (by omega)]at h0
  have h0:(bg[base+j]'(by omega)).h=j+1:=by omega
  unfold seeSt at q2
  unfold seeP at q3
  rw[if_neg (by omega),h0,MgrD.at_get h1]at q2 q3
  exact⟨x,List.mem_of_getElem? q1,.inl (by rw[q2,h2];rfl),by rw[q3];exact h3⟩
end
theorem rem60(c:Int):iRem c 60<9223372036854775808:=by
 unfold iRem
 have:=Int.tmod_lt_of_pos c (b:=60) (by omega)
 omega
theorem TopNever_law{V:Hp→Prop}(hV:∀ h h',V h→Ext h h'→V h')(aw:∀ h,V h→HC Tryz.prog 6 #[] h fun r h'=>r=.bool true∧Ext h h'){h:Hp}(v:V h){s:Sl}{T:List StepD}(p:StepsR (· < h.size) h s T)(hT:StepsM T) :
 HC Tryz.prog 3 #[.slice s.base s.len s.cap] h fun r h'=>r=.bool true∧Ext h h':=by
 apply wc3
 unfold vc3
 refine(small_spec p hT).mono ?_
 rintro _ h1 ⟨e1,c,rfl,hc⟩
 refine⟨_,rfl,IfB.not (IfB.intro (fun hct=>?_) fun hcf=>?_)⟩
 rotate_left
 ·refine(aw h1 (hV _ _ v e1)).mono ?_
  rintro _ h2 ⟨rfl,e2⟩
  exact⟨_,rfl,rfl,e1.trans e2⟩
 have sm:=hc hct
 have p1:StepsR (· < h1.size) h1 s T:=(p.eq fun b hb=>e1.block b hb).mono fun b hb=>Nat.lt_of_lt_of_le hb e1.size
 refine topBegin_spec.mono ?_
 rintro _ h2 ⟨sc,G2,X2,db2,sb2,rfl,y2,w2,x2,o2,l2,_⟩
 refine⟨_,_,rfl,.no rfl ?_⟩
 have hl:=p.len
 have hs:=sm.1
 have y2':To (fun _=>True) G00 h1 G2 h2:=y2.mono fun _ _=>trivial
 refine⟨fun cr i n h'=>∃ (k q base:Nat) (G':Gh),i=k∧cr=q∧q≤8∧n+k=T.length∧To (fun _=>True) G00 h1 G' h'∧RunAt G' h' (258+128*k) (193+2*k) sc base,T.length,⟨0,0,0,G2,rfl,rfl,by omega,rfl,y2',X2,_,[],0,db2,sb2,_,_,x2,o2,l2⟩,?_⟩
 rintro _ _ _ n3 h3 ⟨k,q,base,G3,rfl,rfl,hq8,hn3,y3,r3⟩
 refine IfB.dec (fun hlt=>?_) fun hge=>?_
 ·have hk:k<T.length:=by omega
  have p3:=p1.ghost.to y3
  refine p3.ix k rfl hk fun a u c0 _ _ _ _ _ _ _ _=>⟨_,c0,IfB.ne (fun _=>?_) fun _=>?_⟩
  ·refine p3.ix k rfl hk fun a u c0 c1 c2 c3 c4 c5 ro rp rt=>⟨_,_,_,_,_,_,c0,c1,c2,c3,c4,c5,?_⟩
   obtain⟨ro',lo⟩:=StepsR.ops (s:=s) (h:=h3) sm hk ro
   refine(topOne_spec y3.ht r3 (by omega) (by omega) T[k] (u:=u) ro' lo).mono ?_
   rintro _ h4 ⟨rfl,G4,y4,r4⟩
   exact⟨rfl,n3-1,by omega,k+1,q,base,G4,by rw[iAdd64 (by omega)];push_cast;rfl,rfl,hq8,by omega,y3.trans y4,by rw[show 258+128*(k+1)=258+128*k+128 by omega,show 193+2*(k+1)=193+2*k+2 by omega];exact r4⟩
  rw[iAdd64 (by omega)]
  refine IfB.dec (fun _=>?_) fun hq9=>?_
  ·refine(aw h3 (hV _ _ v (e1.trans (ext00 y3)))).mono ?_
   rintro _ h4 ⟨rfl,e4⟩
   exact⟨_,rfl,rfl,e1.trans ((ext00 y3).trans e4)⟩
  obtain⟨X3,cl3,bg3,ev3,db3,sb3,all3,bb3,x3,o3,l3⟩:=r3
  have crash:∀ {G4:Gh} {h4:Hp} {M N:Nat} {X4:StD} {ev4:Int},To (fun _=>True) G00 h1 G4 h4→M≤900000→192≤N→N+1≤193+2*(k+1)→SdIn G4 h4 M N sc X4 cl3 bg3 bg3.length ev4 db3 sb3 all3 bb3→WkOk G4.W N X4 bg3 base →∃ hR:Hp,Sub hR h4∧∃ a4:Addr,s.base=some a4∧0≤(k:Int)∧(k:Int)<(s.len:Int)∧
   ∃ c15:Sl,hY hR ((a4.add ((k:Int).toNat*6)).add 4)=some (.slice c15.base c15.len c15.cap)∧
   ∃ a5:Addr,s.base=some a5∧0≤(k:Int)∧(k:Int)<(s.len:Int)∧
   ∃ c16:Sl,hY hR ((a5.add ((k:Int).toNat*6)).add 5)=some (.slice c16.base c16.len c16.cap)∧
   HC Tryz.prog 11 #[pv sc,.slice c15.base c15.len c15.cap,.slice c16.base c16.len c16.cap] h4 fun r7 vh8=>
   ∃ c17:Int,r7=.int .i64 c17∧
   Sub hR vh8∧
   IfB (c17 !=(0:Int)) (Value.bool false=.bool true∧Ext h vh8)
   (∃ n2,n2<n3∧∃ (k' q' base:Nat) (G':Gh),iAdd .i64 (k:Int) (1:Int)=k'∧(q:Int)+1=q'∧q'≤8∧n2+k'=T.length∧To (fun _=>True) G00 h1 G' vh8∧RunAt G' vh8 (258+128*k') (193+2*k') sc base):=by
   intro G4 h4 M N X4 ev4 y4 hM hN hN2 x4 o4
   have p4:=p1.ghost.to y4
   have pR:StepsR (Stab G4 h4) (filt (kf G4 sCr) h4) s T:=p4.eq fun b hb=>filt_at (kf_stab hb.2)
   have back:∀ b,Stab G4 h4 b→h4[b]? =(filt (kf G4 sCr) h4)[b]?:=fun b hb=>(filt_at (kf_stab hb.2)).symm
   refine⟨filt (kf G4 sCr) h4,sub_kf _ _ _,?_⟩
   refine pR.ix k rfl hk fun a u _ _ _ _ c4 _ _ rp _=>⟨u.pk,c4,?_⟩
   refine pR.ix k rfl hk fun a' u' _ _ _ _ _ c5 _ _ rt=>⟨u'.tn,c5,?_⟩
   refine(dCrash_spec y4.ht x4 o4 hN (by omega) (by omega) (rp.eq back) (rt.eq back)).mono ?_
   rintro _ h5 ⟨G5,X5,cl5,db5,sb5,rfl,y5,w5,x5,o5,l5⟩
   refine⟨_,rfl,y5.kf,.no rfl ⟨n3-1,by omega,k+1,q+1,_,G5,by rw[iAdd64 (by omega)];push_cast;rfl,by push_cast;rfl,by omega,by omega,y4.trans (y5.mono fun _ _=>trivial),X5,cl5,_,_,db5,sb5,all3,bb3,(x5.moreM y5.ht (by omega)).moreN hN2,o5.moreN hN2,l5⟩⟩
  refine p3.ix k rfl hk fun a u _ _ _ c3 _ _ _ _ _=>⟨_,c3,IfB.dec (fun _=>?_) fun _=>?_⟩
  ·refine p3.ix k rfl hk fun a u _ _ _ c3 _ _ _ _ _=>⟨_,c3,by omega,?_⟩
   refine(dCut_spec y3.ht x3 o3 (rem60 _)).mono ?_
   rintro _ h4 ⟨G4,X4,rfl,y4,x4,o4⟩
   refine⟨rfl,(dFlush_spec y4.ht x4 o4 (by omega) (by omega)).mono ?_⟩
   rintro _ h5 ⟨G5,c5,X5,rfl,y5,x5,wk5,_⟩
   exact⟨_,rfl,crash ((y3.trans (y4.mono fun _ _=>trivial)).trans (y5.mono fun _ _=>trivial)) (by omega) (by omega) (by omega) x5 wk5⟩
  ·exact crash y3 (by omega) (by omega) (by omega) x3 o3.wk
 obtain rfl:k=T.length:=by omega
 obtain⟨X3,cl3,bg3,ev3,db3,sb3,all3,bb3,x3,o3,l3⟩:=r3
 have hbN:=o3.bgN
 refine(dHist_spec y3.ht x3 (by omega) (by omega) fun i b hb h0=>o3.tx hb h0).mono ?_
 rintro _ h4 ⟨G4,hs4,L,rfl,y4,w4,hr4,hL,hsee⟩
 have x4:=x3.pure y4
 have o4:=o3
 rw[← w4]at o4
 refine⟨_,rfl,(dStore_spec x4).mono ?_⟩
 rintro _ _ ⟨rfl,hh⟩
 obtain rfl:=hh.symm
 refine⟨_,rfl,(sDump_spec y4.ht x4.st (by omega)).mono ?_⟩
 rintro _ h5 ⟨d,P,G5,rfl,y5,sp5,w5,hPo,hPw,hP,_,_⟩
 have hr5:=hr4.to y5
 have hd:=sp5.slen
 have y05:To (fun _=>True) G00 h1 G5 h5:=(y3.trans (y4.mono fun _ _=>trivial)).trans (y5.mono fun _ _=>trivial)
 refine⟨_,rfl,fun i n h'=>h5=h'∧∃ k:Nat,i=k∧n+k=P.length,P.length,⟨rfl,0,rfl,rfl⟩,?_⟩
 rintro _ _ n6 _ ⟨rfl,k,rfl,hn6⟩
 refine IfB.dec (fun hlt=>?_) fun hge=>?_
 ·have hk:k<P.length:=by omega
  obtain⟨LP,hLP,rdP,okP⟩:=sp5.all y5.ht
  subst hLP
  rw[List.length_map]at hk hn6
  have hget:((LP.map (·.1))[k]'(by simpa using hk))=LP[k].1:=by simp
  refine ix2 rdP k rfl (by simpa using hk) fun a c0 _=>⟨_,c0,?_⟩
  refine ix2 rdP k rfl (by simpa using hk) fun a _ c1=>⟨_,c1,?_⟩
  rw[hget]
  have hmem:(LP[k].1.1,LP[k].2)∈LP.map fun x=>(x.1.1,x.2):=List.mem_map.2 ⟨_,List.getElem_mem hk,rfl⟩
  have hW:=hPw _ hmem
  have hlen:LP[k].2.length=40:=(hPo.2 _ hmem).2.2
  refine(wrote_spec y5.ht hr5 (by omega) _ (okP _ (List.getElem_mem hk)) (by omega)).mono ?_
  rintro _ _ ⟨hh,cc,rfl,hcc⟩
  obtain rfl:=hh.symm
  refine⟨_,rfl,.refl _,.no (by rw[hcc (link_see o4 hsee hW)];rfl) ⟨n6-1,by omega,rfl,k+1,by rw[iAdd64 (by simp at hP;omega)];push_cast;rfl,by rw[List.length_map];omega⟩⟩
 have hL5:=hr5.len
 have hLb:L.length≤1000000:=by omega
 clear hge hn6 n6 k
 refine⟨fun i n h'=>Ext h5 h'∧∃ k:Nat,i=k∧n+k=L.length,L.length,⟨.refl _,0,rfl,rfl⟩,?_⟩
 rintro _ _ n6 h6 ⟨e6,k,rfl,hn6⟩
 refine IfB.dec (fun hlt=>?_) fun hge=>?_
 ·have hk:k<L.length:=by omega
  obtain⟨ha,hrl,_,_⟩:=hr5.each _ (List.getElem_mem hk)
  refine⟨fun i n h'=>Ext h5 h'∧∃ j:Nat,i=j∧n+j=L[k].rs.len,L[k].rs.len,⟨e6,0,rfl,rfl⟩,?_⟩
  rintro _ _ n7 h7 ⟨e7,j,rfl,hn7⟩
  have y7:To (fun _=>False) G5 h5 G5 h7:=e7.to y5.ht
  have hr7:=hr5.to y7
  refine hr7.ix k rfl hk fun a _ _ c5 _=>⟨_,c5,IfB.dec (fun hjl=>?_) fun hjg=>⟨n6-1,by omega,e7,k+1,by rw[iAdd64 (by omega)];push_cast;rfl,by omega⟩⟩
  have hj:j<L[k].rs.len:=by omega
  refine hr7.ix k rfl hk fun a _ _ c5 _=>⟨_,c5,?_⟩
  refine ha.ix y7.ht j rfl hj fun ad vs ok c0 cj=>?_
  obtain⟨lba,dd,own,bs,rfl,sd,ld,wd⟩:=ok
  refine⟨lba,dd,own,c0 _ rfl,cj 1 _ rfl,cj 2 _ rfl,?_⟩
  intro h8
  have e8:Ext h7 h8:=alc_ext _ _ _
  have s8:h8.size=h7.size+1:=size_alc _ _ _
  refine(Row.alc h7 [.int .i64 0,.slice Sl.nil.base Sl.nil.len Sl.nil.cap,.bool false] 51).put (vs:=[.int .i64 lba,.slice dd.base dd.len dd.cap,.bool own]) rfl (by simp[cellOk]) fun h9 r9 s9 o9=>?_
  have e79:Ext h7 h9:=⟨by rw[s9];exact e8.size,fun b hb=>by rw[o9 b (by omega),e8.block b hb]⟩
  have e9:=e7.trans e79
  have next:∀ {h':Hp},Ext h5 h' →∃ n11,n11<n7∧(Ext h5 h'∧∃ j':Nat,iAdd .i64 (j:Int) (1:Int)=j'∧n11+j'=L[k].rs.len):=fun e=>⟨n7-1,by omega,e,j+1,by rw[iAdd64 (by omega)];push_cast;rfl,by omega⟩
  refine⟨own,r9.get rfl,IfB.not (IfB.intro (fun _=>next e9) fun hown=>?_)⟩
  refine⟨dd,r9.get rfl,MkC_own (n:=40) (by decide) (by decide) ?_⟩
  have e10:Ext h9 (alc h9 (List.replicate 40 (Value.int .u8 (0:Int))) 5):=alc_ext _ _ _
  have rz:Rd 1 (alc h9 (List.replicate 40 (Value.int .u8 (0:Int))) 5) ⟨some (nw h9),40,40⟩ ((List.replicate 40 (0:UInt8)).map bv):=⟨rfl,Nat.le_refl _,RdC.alc h9 _ _⟩
  generalize alc h9 (List.replicate 40 (Value.int .u8 (0:Int))) 5=h10 at *
  have e05:=e9.trans e10
  have t10:=y5.ht.ext e05
  refine⟨e10,(Bytes_spec (sd.rd t10) rz (by omega)).mono ?_⟩
  rintro _ _ ⟨rfl,hh⟩
  obtain rfl:=hh.symm
  refine⟨_,rfl,e10,IfB.not (IfB.dec (fun _=>next e05) fun hnz=>?_)⟩
  refine⟨_,r9.get0 rfl,dd,r9.get rfl,(wrote_spec t10 (hr5.to (e05.to y5.ht (S:=fun _=>False))) hLb lba sd (by omega)).mono ?_⟩
  rintro _ _ ⟨hh,cc,rfl,hcc⟩
  obtain rfl:=hh.symm
  have hW:G4.W lba bs:=by
   rcases wd with h | h | h
   ·rw[hown]at h;cases h
   ·exact absurd h hnz
   ·rw[← w5];exact h
  exact⟨_,rfl,e10,.no (by rw[hcc (link_see o4 hsee hW)];rfl) (next e05)⟩
 refine(aw h6 (hV _ _ v (e1.trans ((ext00 y05).trans e6)))).mono ?_
 rintro _ h7 ⟨rfl,e7⟩
 exact⟨_,rfl,rfl,e1.trans ((ext00 y05).trans (e6.trans e7))⟩
section
open Go.RowKit Go.Shelf
section
variable{P:Program}{ρ:Ren}
theorem count_h(L:Lays.n138 P ρ)(ok:okFn P (ρ.f 138)=true)(s:ByteArray)(c:UInt8)(h:Hp) :
 HC P (ρ.f 138) #[.string s,.string ⟨#[c]⟩] h fun r h'=>r=.int .i64 (Lib.countByte s.data.toList c)∧h'=h:=by
 refine⟨ok,fun w hw=>?_⟩
 subst hw
 refine(Any.strings_Count_one L s c w).mono ?_
 rintro e w' ⟨rfl,rfl⟩
 exact⟨_,rfl,Same.refl _,rfl,rfl⟩
theorem cut_h(L:Lays.n145 P ρ)(ok:okFn P (ρ.f 145)=true)(s sep:ByteArray){m:Int}{h:Hp}(hm:hY h ⟨ρ.g 1,0,none⟩=some (.int .i64 m))(hs:s.size<4294967281) :
 HC P (ρ.f 145) #[.string s,.string sep] h fun r h'=>r=.tuple #[.string ⟨(Lib.cut s.data.toList sep.data.toList).1.toArray⟩,.string ⟨(Lib.cut s.data.toList sep.data.toList).2.1.toArray⟩,.bool (Lib.cut s.data.toList sep.data.toList).2.2]∧h'=h:=by
 refine⟨ok,fun w hw=>?_⟩
 refine(Any.strings_Cut L s sep m w hs (by rw[hw_heap w hw];exact hm)).mono ?_
 rintro e w' ⟨rfl,n,rfl⟩
 subst hw
 exact⟨_,rfl,⟨rfl,rfl,rfl⟩,rfl,rfl⟩
theorem cutPrefix_h(L:Lays.n103 P ρ)(ok:okFn P (ρ.f 103)=true)(s p:ByteArray)(h:Hp) :
 HC P (ρ.f 103) #[.string s,.string p] h fun r h'=>r=.tuple #[.string ⟨(Lib.trimPrefix s.data.toList p.data.toList).toArray⟩,.bool (Lib.hasPrefix s.data.toList p.data.toList)]∧h'=h:=by
 refine⟨ok,fun w hw=>?_⟩
 subst hw
 refine(Any.strings_CutPrefix L s p w).mono ?_
 rintro e w' ⟨rfl,rfl⟩
 exact⟨_,rfl,Same.refl _,rfl,rfl⟩
theorem split_h(L:Lays.n146 P ρ)(hi9:(P.info? (ρ.t 9)).map (fun i=>(i.zero,i.size,i.bytes))=some (some (.string ByteArray.empty),1,16))(ok:okFn P (ρ.f 146)=true)(s sep:ByteArray){m:Int}{h:Hp}
 (hm:hY h ⟨ρ.g 1,0,none⟩=some (.int .i64 m)) (hs:s.size<4294967281) (h1:1≤sep.size) :
 HC P (ρ.f 146) #[.string s,.string sep] h fun r h'=>r=.slice (some ⟨h.size,0,none⟩) (Lib.countB s sep+1) (Lib.countB s sep+1)∧h'=alc h ((Lib.splitB sep 0 (Lib.countB s sep) s).map Value.string) (ρ.t 9):=by
 refine⟨ok,fun w hw=>?_⟩
 refine(Any.strings_Split L hi9 s sep m w hs (by rw[hw_heap w hw];exact hm) h1).mono ?_
 rintro e w' ⟨rfl,rfl⟩
 subst hw
 exact⟨_,rfl,⟨rfl,rfl,rfl⟩,rfl,rfl⟩
theorem join_h(L:Lays.n156 P ρ)(X:Builder.Extra P ρ)(ok:okFn P (ρ.f 156)=true)(b o c:Nat)(xs:List ByteArray)(sep:ByteArray){h:Hp}
 (hc:∀ (j:Nat) x,xs[j]? = some x→hY h ⟨b,o+j,none⟩=some (.string x)) (hb:b<h.size) (hN:xs.length≤140737488355328) (hcap:xs.length≤c)
 (hlen:(Lib.join (xs.map (·.data.toList)) sep.data.toList).length≤140737488355328) :
 HC P (ρ.f 156) #[.slice (some ⟨b,o,none⟩) xs.length c,.string sep] h fun r h'=>r=.string ⟨(Lib.join (xs.map (·.data.toList)) sep.data.toList).toArray⟩∧Ext h h':=by
 refine⟨ok,fun w hw=>?_⟩
 subst hw
 refine(Any.strings_Join L X b o c xs sep w (fun j x hx=>(hw_heap w rfl _).trans (hc j x hx)) hb hN hcap hlen).mono ?_
 rintro e w' ⟨rfl,k⟩
 exact⟨_,rfl,below_same k,rfl,⟨k.size,k.block⟩⟩
theorem itoa_h(L:LaysM.n171 P ρ)(ok:okFn P (ρ.f 171)=true)(n:Int)(h0 : -9223372036854775808≤n)(h1:n≤9223372036854775807){h:Hp}{t f:_}
 (ht:h[ρ.g 17]? = some (.cells (Lib.pow10Tab.map fun z=>Value.int .u64 z).toArray t f)) :
 HC P (ρ.f 171) #[.int .i64 n] h fun r h'=>r=.string ⟨(Lib.itoa n).toArray⟩∧Ext h h':=by
 refine⟨ok,fun w hw=>?_⟩
 have tab:Lib.TabIs P w "internal/strconv.uint64pow10" .u64 Lib.pow10Tab:=by
  unfold Lib.TabIs World.var?
  rw[L.m17]
  subst hw
  simp only[Option.bind_some]
  rw[ht]
 refine(Any.strconv_Itoa L n h0 h1 w tab).mono ?_
 rintro e w' ⟨rfl,k,os,rfl⟩
 subst hw
 exact⟨_,rfl,⟨rfl,rfl,rfl⟩,rfl,⟨by show w.heap.size≤(w.heap++os).size;rw[Array.size_append];omega,fun k hk=>Array.getElem?_append_left hk⟩⟩
end
end
section
open Go.RowKit Go.Shelf
def lays138_ren:Go.Shelf.Ren:=⟨fun | 138=>48 | 195=>89 | 218=>90 | 143=>91 | 219=>141 | 217=>191 | 225=>192 | 224=>193 | 267=>194 | 266=>241 | 314=>242 | n=>n,fun | 9=>9 | 3=>3 | 4=>4 | 5=>5 | 0=>0 | 46=>261 | 146=>318 | 51=>199 | n=>n,fun | 1=>0 | n=>n⟩
theorem lays138:Go.Proofs.Lays.n138 Tryz.prog lays138_ren:={
 mixed:=by kernel_rfl
 f138:=Tryz.func48.trans (congrArg some (by kernel_rfl))
 f143:=Tryz.func91.trans (congrArg some (by kernel_rfl))
 f195:=Tryz.func89.trans (congrArg some (by kernel_rfl))
 f217:=Tryz.func191.trans (congrArg some (by kernel_rfl))
 f218:=Tryz.func90.trans (congrArg some (by kernel_rfl))
 f219:=Tryz.func141.trans (congrArg some (by kernel_rfl))
 f224:=Tryz.func193.trans (congrArg some (by kernel_rfl))
 f225:=Tryz.func192.trans (congrArg some (by kernel_rfl))
 f266:=Tryz.func241.trans (congrArg some (by kernel_rfl))
 f267:=Tryz.func194.trans (congrArg some (by kernel_rfl))
 f314:=Tryz.func242.trans (congrArg some (by kernel_rfl))
 t0:=Tryz.underlying0
 a0:=Tryz.isAgg0
 z0:=Tryz.sizeOf0
 v0:=Tryz.zeroValue0
 t3:=Tryz.underlying3
 a3:=Tryz.isAgg3
 z3:=Tryz.sizeOf3
 v3:=Tryz.zeroValue3
 t4:=Tryz.underlying4
 a4:=Tryz.isAgg4
 z4:=Tryz.sizeOf4
 v4:=Tryz.zeroValue4
 t5:=Tryz.underlying5
 a5:=Tryz.isAgg5
 z5:=Tryz.sizeOf5
 v5:=Tryz.zeroValue5
 t9:=Tryz.underlying9
 a9:=Tryz.isAgg9
 z9:=Tryz.sizeOf9
 v9:=Tryz.zeroValue9
 t46:=Tryz.underlying261
 a46:=Tryz.isAgg261
 z46:=Tryz.sizeOf261
 v46:=Tryz.zeroValue261
 t51:=Tryz.underlying199
 a51:=Tryz.isAgg199
 z51:=Tryz.sizeOf199
 v51:=Tryz.zeroValue199
 t146:=Tryz.underlying318
 a146:=Tryz.isAgg318
 z146:=Tryz.sizeOf318
 v146:=Tryz.zeroValue318
 g1:=by kernel_rfl }
def lays145_ren:Go.Shelf.Ren:=⟨fun | 145=>49 | 220=>92 | 219=>141 | 217=>191 | 225=>192 | 224=>193 | 267=>194 | 266=>241 | 314=>242 | n=>n,fun | 9=>9 | 4=>4 | 59=>102 | 3=>3 | 5=>5 | 46=>261 | 146=>318 | 51=>199 | n=>n,fun | 1=>0 | n=>n⟩
theorem lays145:Go.Proofs.Lays.n145 Tryz.prog lays145_ren:={
 mixed:=by kernel_rfl
 f145:=Tryz.func49.trans (congrArg some (by kernel_rfl))
 f217:=Tryz.func191.trans (congrArg some (by kernel_rfl))
 f219:=Tryz.func141.trans (congrArg some (by kernel_rfl))
 f220:=Tryz.func92.trans (congrArg some (by kernel_rfl))
 f224:=Tryz.func193.trans (congrArg some (by kernel_rfl))
 f225:=Tryz.func192.trans (congrArg some (by kernel_rfl))
 f266:=Tryz.func241.trans (congrArg some (by kernel_rfl))
 f267:=Tryz.func194.trans (congrArg some (by kernel_rfl))
 f314:=Tryz.func242.trans (congrArg some (by kernel_rfl))
 t3:=Tryz.underlying3
 a3:=Tryz.isAgg3
 z3:=Tryz.sizeOf3
 v3:=Tryz.zeroValue3
 t4:=Tryz.underlying4
 a4:=Tryz.isAgg4
 z4:=Tryz.sizeOf4
 v4:=Tryz.zeroValue4
 t5:=Tryz.underlying5
 a5:=Tryz.isAgg5
 z5:=Tryz.sizeOf5
 v5:=Tryz.zeroValue5
 t9:=Tryz.underlying9
 a9:=Tryz.isAgg9
 z9:=Tryz.sizeOf9
 v9:=Tryz.zeroValue9
 t46:=Tryz.underlying261
 a46:=Tryz.isAgg261
 z46:=Tryz.sizeOf261
 v46:=Tryz.zeroValue261
 t51:=Tryz.underlying199
 a51:=Tryz.isAgg199
 z51:=Tryz.sizeOf199
 v51:=Tryz.zeroValue199
 t59:=Tryz.underlying102
 a59:=Tryz.isAgg102
 z59:=Tryz.sizeOf102
 v59:=Tryz.zeroValue102
 t146:=Tryz.underlying318
 a146:=Tryz.isAgg318
 z146:=Tryz.sizeOf318
 v146:=Tryz.zeroValue318
 g1:=by kernel_rfl }
def lays146_ren:Go.Shelf.Ren:=⟨fun | 146=>95 | 221=>145 | 268=>203 | 138=>48 | 143=>91 | 195=>89 | 197=>244 | 218=>90 | 219=>141 | 260=>293 | 217=>191 | 225=>192 | 224=>193 | 267=>194 | 266=>241 | 314=>242 | n=>n,fun | 9=>9 | 31=>167 | 3=>3 | 4=>4 | 0=>0 | 105=>322 | 21=>21 | 5=>5 | 46=>261 | 119=>410 | 139=>413 | 138=>412 | 146=>318 | 51=>199 | n=>n,fun | 1=>0 | 3=>4 | 4=>5 | n=>n⟩
theorem lays146:Go.Proofs.Lays.n146 Tryz.prog lays146_ren:={
 mixed:=by kernel_rfl
 f138:=Tryz.func48.trans (congrArg some (by kernel_rfl))
 f143:=Tryz.func91.trans (congrArg some (by kernel_rfl))
 f146:=Tryz.func95.trans (congrArg some (by kernel_rfl))
 f195:=Tryz.func89.trans (congrArg some (by kernel_rfl))
 f197:=Tryz.func244.trans (congrArg some (by kernel_rfl))
 f217:=Tryz.func191.trans (congrArg some (by kernel_rfl))
 f218:=Tryz.func90.trans (congrArg some (by kernel_rfl))
 f219:=Tryz.func141.trans (congrArg some (by kernel_rfl))
 f221:=Tryz.func145.trans (congrArg some (by kernel_rfl))
 f224:=Tryz.func193.trans (congrArg some (by kernel_rfl))
 f225:=Tryz.func192.trans (congrArg some (by kernel_rfl))
 f260:=Tryz.func293.trans (congrArg some (by kernel_rfl))
 f266:=Tryz.func241.trans (congrArg some (by kernel_rfl))
 f267:=Tryz.func194.trans (congrArg some (by kernel_rfl))
 f268:=Tryz.func203.trans (congrArg some (by kernel_rfl))
 f314:=Tryz.func242.trans (congrArg some (by kernel_rfl))
 t0:=Tryz.underlying0
 a0:=Tryz.isAgg0
 z0:=Tryz.sizeOf0
 v0:=Tryz.zeroValue0
 t3:=Tryz.underlying3
 a3:=Tryz.isAgg3
 z3:=Tryz.sizeOf3
 v3:=Tryz.zeroValue3
 t4:=Tryz.underlying4
 a4:=Tryz.isAgg4
 z4:=Tryz.sizeOf4
 v4:=Tryz.zeroValue4
 t5:=Tryz.underlying5
 a5:=Tryz.isAgg5
 z5:=Tryz.sizeOf5
 v5:=Tryz.zeroValue5
 t9:=Tryz.underlying9
 a9:=Tryz.isAgg9
 z9:=Tryz.sizeOf9
 v9:=Tryz.zeroValue9
 t21:=Tryz.underlying21
 a21:=Tryz.isAgg21
 z21:=Tryz.sizeOf21
 v21:=Tryz.zeroValue21
 t31:=Tryz.underlying167
 a31:=Tryz.isAgg167
 z31:=Tryz.sizeOf167
 v31:=Tryz.zeroValue167
 t46:=Tryz.underlying261
 a46:=Tryz.isAgg261
 z46:=Tryz.sizeOf261
 v46:=Tryz.zeroValue261
 t51:=Tryz.underlying199
 a51:=Tryz.isAgg199
 z51:=Tryz.sizeOf199
 v51:=Tryz.zeroValue199
 t105:=Tryz.underlying322
 a105:=Tryz.isAgg322
 z105:=Tryz.sizeOf322
 v105:=Tryz.zeroValue322
 t119:=Tryz.underlying410
 a119:=Tryz.isAgg410
 z119:=Tryz.sizeOf410
 t138:=Tryz.underlying412
 a138:=Tryz.isAgg412
 z138:=Tryz.sizeOf412
 v138:=Tryz.zeroValue412
 t139:=Tryz.underlying413
 a139:=Tryz.isAgg413
 z139:=Tryz.sizeOf413
 v139:=Tryz.zeroValue413
 t146:=Tryz.underlying318
 a146:=Tryz.isAgg318
 z146:=Tryz.sizeOf318
 v146:=Tryz.zeroValue318
 g1:=by kernel_rfl
 g3:=by kernel_rfl
 g4:=by kernel_rfl }
def lays156_ren:Go.Shelf.Ren:=⟨fun | 156=>102 | 165=>154 | 166=>155 | 169=>156 | 240=>214 | 241=>215 | 276=>265 | 277=>266 | n=>n,fun | 31=>167 | 9=>9 | 3=>3 | 4=>4 | 0=>0 | 20=>20 | 72=>251 | 76=>241 | 70=>249 | 37=>44 | 75=>240 | 127=>300 | 164=>344 | 5=>5 | 80=>252 | n=>n,fun | n=>n⟩
theorem lays156:Go.Proofs.Lays.n156 Tryz.prog lays156_ren:={
 mixed:=by kernel_rfl
 f156:=Tryz.func102.trans (congrArg some (by kernel_rfl))
 f165:=Tryz.func154.trans (congrArg some (by kernel_rfl))
 f166:=Tryz.func155.trans (congrArg some (by kernel_rfl))
 f169:=Tryz.func156.trans (congrArg some (by kernel_rfl))
 f240:=Tryz.func214.trans (congrArg some (by kernel_rfl))
 f241:=Tryz.func215.trans (congrArg some (by kernel_rfl))
 f276:=Tryz.func265.trans (congrArg some (by kernel_rfl))
 f277:=Tryz.func266.trans (congrArg some (by kernel_rfl))
 t0:=Tryz.underlying0
 a0:=Tryz.isAgg0
 z0:=Tryz.sizeOf0
 v0:=Tryz.zeroValue0
 t3:=Tryz.underlying3
 a3:=Tryz.isAgg3
 z3:=Tryz.sizeOf3
 v3:=Tryz.zeroValue3
 t4:=Tryz.underlying4
 a4:=Tryz.isAgg4
 z4:=Tryz.sizeOf4
 v4:=Tryz.zeroValue4
 t9:=Tryz.underlying9
 a9:=Tryz.isAgg9
 z9:=Tryz.sizeOf9
 v9:=Tryz.zeroValue9
 t20:=Tryz.underlying20
 a20:=Tryz.isAgg20
 z20:=Tryz.sizeOf20
 v20:=Tryz.zeroValue20
 t31:=Tryz.underlying167
 a31:=Tryz.isAgg167
 z31:=Tryz.sizeOf167
 v31:=Tryz.zeroValue167
 t37:=Tryz.underlying44
 a37:=Tryz.isAgg44
 z37:=Tryz.sizeOf44
 v37:=Tryz.zeroValue44
 t70:=Tryz.underlying249
 a70:=Tryz.isAgg249
 z70:=Tryz.sizeOf249
 v70:=Tryz.zeroValue249
 t72:=Tryz.underlying251
 a72:=Tryz.isAgg251
 z72:=Tryz.sizeOf251
 v72:=Tryz.zeroValue251
 t75:=Tryz.underlying240
 a75:=Tryz.isAgg240
 z75:=Tryz.sizeOf240
 v75:=Tryz.zeroValue240
 t76:=Tryz.underlying241
 a76:=Tryz.isAgg241
 z76:=Tryz.sizeOf241
 v76:=Tryz.zeroValue241
 t127:=Tryz.underlying300
 a127:=Tryz.isAgg300
 z127:=Tryz.sizeOf300
 v127:=Tryz.zeroValue300
 t164:=Tryz.underlying344
 a164:=Tryz.isAgg344
 z164:=Tryz.sizeOf344
 v164:=Tryz.zeroValue344 }
def lays103_ren:Go.Shelf.Ren:=⟨fun | 103=>93 | 210=>142 | 206=>195 | n=>n,fun | 9=>9 | 4=>4 | 24=>165 | 3=>3 | n=>n,fun | n=>n⟩
theorem lays103:Go.Proofs.Lays.n103 Tryz.prog lays103_ren:={
 mixed:=by kernel_rfl
 f103:=Tryz.func93.trans (congrArg some (by kernel_rfl))
 f206:=Tryz.func195.trans (congrArg some (by kernel_rfl))
 f210:=Tryz.func142.trans (congrArg some (by kernel_rfl))
 t3:=Tryz.underlying3
 a3:=Tryz.isAgg3
 z3:=Tryz.sizeOf3
 v3:=Tryz.zeroValue3
 t4:=Tryz.underlying4
 a4:=Tryz.isAgg4
 z4:=Tryz.sizeOf4
 v4:=Tryz.zeroValue4
 t9:=Tryz.underlying9
 a9:=Tryz.isAgg9
 z9:=Tryz.sizeOf9
 v9:=Tryz.zeroValue9
 t24:=Tryz.underlying165
 a24:=Tryz.isAgg165
 z24:=Tryz.sizeOf165
 v24:=Tryz.zeroValue165 }
def laysM171_ren:Go.Shelf.Ren:=⟨fun | 171=>147 | 243=>206 | 246=>250 | 283=>297 | 284=>298 | 285=>299 | 286=>300 | 129=>281 | 317=>339 | 318=>340 | 319=>341 | 320=>342 | 337=>370 | 338=>371 | n=>n,fun | 3=>3 | 9=>9 | 2=>2 | 4=>4 | 171=>370 | 0=>0 | 53=>196 | 37=>44 | 5=>5 | 173=>372 | 212=>419 | 51=>199 | 20=>20 | 213=>420 | 46=>261 | 232=>458 | 233=>459 | n=>n,fun | 17=>6 | 18=>7 | 19=>8 | n=>n⟩
theorem laysM171:Go.Proofs.LaysM.n171 Tryz.prog laysM171_ren:={
 mixed:=by kernel_rfl
 f129:=Tryz.func281.trans (congrArg some (by kernel_rfl))
 f171:=Tryz.func147.trans (congrArg some (by kernel_rfl))
 f243:=Tryz.func206.trans (congrArg some (by kernel_rfl))
 f246:=Tryz.func250.trans (congrArg some (by kernel_rfl))
 f283:=Tryz.func297.trans (congrArg some (by kernel_rfl))
 f284:=Tryz.func298.trans (congrArg some (by kernel_rfl))
 f285:=Tryz.func299.trans (congrArg some (by kernel_rfl))
 f286:=Tryz.func300.trans (congrArg some (by kernel_rfl))
 f317:=Tryz.func339.trans (congrArg some (by kernel_rfl))
 f318:=Tryz.func340.trans (congrArg some (by kernel_rfl))
 f319:=Tryz.func341.trans (congrArg some (by kernel_rfl))
 f320:=Tryz.func342.trans (congrArg some (by kernel_rfl))
 f337:=Tryz.func370.trans (congrArg some (by kernel_rfl))
 f338:=Tryz.func371.trans (congrArg some (by kernel_rfl))
 t0:=Tryz.underlying0
 a0:=Tryz.isAgg0
 z0:=Tryz.sizeOf0
 v0:=Tryz.zeroValue0
 t2:=Tryz.underlying2
 a2:=Tryz.isAgg2
 z2:=Tryz.sizeOf2
 v2:=Tryz.zeroValue2
 t3:=Tryz.underlying3
 a3:=Tryz.isAgg3
 z3:=Tryz.sizeOf3
 v3:=Tryz.zeroValue3
 t4:=Tryz.underlying4
 a4:=Tryz.isAgg4
 z4:=Tryz.sizeOf4
 v4:=Tryz.zeroValue4
 t5:=Tryz.underlying5
 a5:=Tryz.isAgg5
 z5:=Tryz.sizeOf5
 v5:=Tryz.zeroValue5
 t9:=Tryz.underlying9
 a9:=Tryz.isAgg9
 z9:=Tryz.sizeOf9
 v9:=Tryz.zeroValue9
 t20:=Tryz.underlying20
 a20:=Tryz.isAgg20
 z20:=Tryz.sizeOf20
 v20:=Tryz.zeroValue20
 t37:=Tryz.underlying44
 a37:=Tryz.isAgg44
 z37:=Tryz.sizeOf44
 v37:=Tryz.zeroValue44
 t46:=Tryz.underlying261
 a46:=Tryz.isAgg261
 z46:=Tryz.sizeOf261
 v46:=Tryz.zeroValue261
 t51:=Tryz.underlying199
 a51:=Tryz.isAgg199
 z51:=Tryz.sizeOf199
 v51:=Tryz.zeroValue199
 t53:=Tryz.underlying196
 a53:=Tryz.isAgg196
 z53:=Tryz.sizeOf196
 v53:=Tryz.zeroValue196
 t171:=Tryz.underlying370
 a171:=Tryz.isAgg370
 z171:=Tryz.sizeOf370
 v171:=Tryz.zeroValue370
 t173:=Tryz.underlying372
 a173:=Tryz.isAgg372
 z173:=Tryz.sizeOf372
 v173:=Tryz.zeroValue372
 t212:=Tryz.underlying419
 a212:=Tryz.isAgg419
 z212:=Tryz.sizeOf419
 v212:=Tryz.zeroValue419
 t213:=Tryz.underlying420
 a213:=Tryz.isAgg420
 z213:=Tryz.sizeOf420
 t232:=Tryz.underlying458
 a232:=Tryz.isAgg458
 z232:=Tryz.sizeOf458
 v232:=Tryz.zeroValue458
 t233:=Tryz.underlying459
 a233:=Tryz.isAgg459
 z233:=Tryz.sizeOf459
 v233:=Tryz.zeroValue459
 g17:=by kernel_rfl
 g18:=by kernel_rfl
 g19:=by kernel_rfl
 i0:=by kernel_rfl
 i2:=by kernel_rfl
 i3:=by kernel_rfl
 i4:=by kernel_rfl
 i5:=by kernel_rfl
 i9:=by kernel_rfl
 i20:=by kernel_rfl
 i37:=by kernel_rfl
 i46:=by kernel_rfl
 i51:=by kernel_rfl
 i53:=by kernel_rfl
 i171:=by kernel_rfl
 i173:=by kernel_rfl
 i212:=by kernel_rfl
 i232:=by kernel_rfl
 i233:=by kernel_rfl
 m17:=by kernel_rfl
 m18:=by kernel_rfl
 m19:=by kernel_rfl }
def laysM145_ren:Go.Shelf.Ren:=⟨fun | 145=>49 | 220=>92 | 219=>141 | 217=>191 | 225=>192 | 224=>193 | 267=>194 | 266=>241 | 314=>242 | n=>n,fun | 9=>9 | 4=>4 | 59=>102 | 3=>3 | 5=>5 | 46=>261 | 146=>318 | 51=>199 | n=>n,fun | 1=>0 | n=>n⟩
theorem laysM145:Go.Proofs.LaysM.n145 Tryz.prog laysM145_ren:={
 mixed:=by kernel_rfl
 f145:=Tryz.func49.trans (congrArg some (by kernel_rfl))
 f217:=Tryz.func191.trans (congrArg some (by kernel_rfl))
 f219:=Tryz.func141.trans (congrArg some (by kernel_rfl))
 f220:=Tryz.func92.trans (congrArg some (by kernel_rfl))
 f224:=Tryz.func193.trans (congrArg some (by kernel_rfl))
 f225:=Tryz.func192.trans (congrArg some (by kernel_rfl))
 f266:=Tryz.func241.trans (congrArg some (by kernel_rfl))
 f267:=Tryz.func194.trans (congrArg some (by kernel_rfl))
 f314:=Tryz.func242.trans (congrArg some (by kernel_rfl))
 t3:=Tryz.underlying3
 a3:=Tryz.isAgg3
 z3:=Tryz.sizeOf3
 v3:=Tryz.zeroValue3
 t4:=Tryz.underlying4
 a4:=Tryz.isAgg4
 z4:=Tryz.sizeOf4
 v4:=Tryz.zeroValue4
 t5:=Tryz.underlying5
 a5:=Tryz.isAgg5
 z5:=Tryz.sizeOf5
 v5:=Tryz.zeroValue5
 t9:=Tryz.underlying9
 a9:=Tryz.isAgg9
 z9:=Tryz.sizeOf9
 v9:=Tryz.zeroValue9
 t46:=Tryz.underlying261
 a46:=Tryz.isAgg261
 z46:=Tryz.sizeOf261
 v46:=Tryz.zeroValue261
 t51:=Tryz.underlying199
 a51:=Tryz.isAgg199
 z51:=Tryz.sizeOf199
 v51:=Tryz.zeroValue199
 t59:=Tryz.underlying102
 a59:=Tryz.isAgg102
 z59:=Tryz.sizeOf102
 v59:=Tryz.zeroValue102
 t146:=Tryz.underlying318
 a146:=Tryz.isAgg318
 z146:=Tryz.sizeOf318
 v146:=Tryz.zeroValue318
 g1:=by kernel_rfl
 i3:=by kernel_rfl
 i4:=by kernel_rfl
 i5:=by kernel_rfl
 i9:=by kernel_rfl
 i46:=by kernel_rfl
 i51:=by kernel_rfl
 i59:=by kernel_rfl
 i146:=by kernel_rfl
 m1:=by kernel_rfl
 s1_3:=fun w h=>Go.Proofs.cell_of_shapedOpen_int (zero:=#[.int .i64 0]) (t:=3) h (of_decide_eq_true (by kernel_rfl)) (by kernel_rfl) rfl (by kernel_rfl) (by kernel_rfl) Tryz.underlying3 }
theorem bldX:Builder.Extra Tryz.prog lays156_ren:={
 sizeBuilder:=by kernel_rfl
 liesBuilder:=by kernel_rfl
 t5:=Tryz.underlying5
 a5:=Tryz.isAgg5
 z5:=Tryz.sizeOf5
 v5:=Tryz.zeroValue5
 infoByte:=by kernel_rfl
 cellsByte:=by kernel_rfl
 sizeByte:=by kernel_rfl
 neB5:=by decide }
def LibV(h:Hp):Prop:=(∃ m,hY h ⟨0,0,none⟩=some (.int .i64 m))∧∃ t f,h[6]? = some (.cells (Lib.pow10Tab.map fun z=>Value.int .u64 z).toArray t f)
theorem LibV.ext(h h':Hp)(v:LibV h)(e:Ext h h'):LibV h':=by
 obtain⟨⟨m,hm⟩,t,f,hp⟩:=v
 exact⟨⟨m,e.cell hm⟩,t,f,(e.block 6 ((Array.getElem?_eq_some_iff.1 hp).1)).trans hp⟩
theorem count_t(s:ByteArray)(c:UInt8)(h:Hp):HC Tryz.prog 48 #[.string s,.string ⟨#[c]⟩] h fun r h'=>r=.int .i64 (Lib.countByte s.data.toList c)∧h'=h:=
 count_h lays138 (by kernel_rfl) s c h
theorem cut_t(s sep:ByteArray){h:Hp}(v:LibV h)(hs:s.size<4294967281) :
 HC Tryz.prog 49 #[.string s,.string sep] h fun r h'=>r=.tuple #[.string ⟨(Lib.cut s.data.toList sep.data.toList).1.toArray⟩,.string ⟨(Lib.cut s.data.toList sep.data.toList).2.1.toArray⟩,.bool (Lib.cut s.data.toList sep.data.toList).2.2]∧h'=h:=by
 obtain⟨⟨m,hm⟩,_⟩:=v
 exact cut_h lays145 (by kernel_rfl) s sep hm hs
theorem cutPrefix_t(s p:ByteArray)(h:Hp) :
 HC Tryz.prog 93 #[.string s,.string p] h fun r h'=>r=.tuple #[.string ⟨(Lib.trimPrefix s.data.toList p.data.toList).toArray⟩,.bool (Lib.hasPrefix s.data.toList p.data.toList)]∧h'=h:=
 cutPrefix_h lays103 (by kernel_rfl) s p h
theorem split_t(s sep:ByteArray){h:Hp}(v:LibV h)(hs:s.size<4294967281)(h1:1≤sep.size) :
 HC Tryz.prog 95 #[.string s,.string sep] h fun r h'=>r=.slice (some ⟨h.size,0,none⟩) (Lib.countB s sep+1) (Lib.countB s sep+1)∧h'=alc h ((Lib.splitB sep 0 (Lib.countB s sep) s).map Value.string) 9:=by
 obtain⟨⟨m,hm⟩,_⟩:=v
 exact split_h lays146 (by kernel_rfl) (by kernel_rfl) s sep hm hs h1
theorem join_t(b o c:Nat)(xs:List ByteArray)(sep:ByteArray){h:Hp}
 (hc:∀ (j:Nat) x,xs[j]? = some x→hY h ⟨b,o+j,none⟩=some (.string x)) (hb:b<h.size) (hN:xs.length≤140737488355328) (hcap:xs.length≤c)
 (hlen:(Lib.join (xs.map (·.data.toList)) sep.data.toList).length≤140737488355328) :
 HC Tryz.prog 102 #[.slice (some ⟨b,o,none⟩) xs.length c,.string sep] h fun r h'=>r=.string ⟨(Lib.join (xs.map (·.data.toList)) sep.data.toList).toArray⟩∧Ext h h':=
 join_h lays156 bldX (by kernel_rfl) b o c xs sep hc hb hN hcap hlen
theorem itoa_t(n:Int)(h0 : -9223372036854775808≤n)(h1:n≤9223372036854775807){h:Hp}(v:LibV h) :
 HC Tryz.prog 147 #[.int .i64 n] h fun r h'=>r=.string ⟨(Lib.itoa n).toArray⟩∧Ext h h':=by
 obtain⟨_,t,f,hp⟩:=v
 exact itoa_h laysM171 (by kernel_rfl) n h0 h1 hp
theorem numbers_t(b:Option Addr)(c:Nat)(h:Hp):HC Tryz.prog 96 #[.slice b 0 c] h fun r h'=>r=.tuple #[.slice none 0 0,.bool true]∧h'=h:=by
 apply wc96 (l:=⟨b,0,c⟩)
 unfold vc96
 refine⟨fun o i n h'=>h'=h∧o=Sl.nil∧i=0,0,⟨rfl,rfl,rfl⟩,?_⟩
 rintro _ _ _ n _ ⟨rfl,rfl,rfl⟩
 exact .no (by simp) ⟨rfl,rfl⟩
end
theorem baLoop(bs:ByteArray):∀ (n i:Nat) (r:List UInt8),n+i=bs.size→ByteArray.toList.loop bs i r=r.reverse++bs.data.toList.drop i
 | 0,i,r,h=>by
   unfold ByteArray.toList.loop
   have:bs.data.toList.length=bs.size:=rfl
   rw[if_neg (by omega),List.drop_eq_nil_of_le (by omega),List.append_nil]
 | n+1,i,r,h=>by
   have hl:bs.data.toList.length=bs.size:=rfl
   have hi:i<bs.data.toList.length:=by omega
   unfold ByteArray.toList.loop
   rw[if_pos (by omega),baLoop bs n (i+1) _ (by omega),List.drop_eq_getElem_cons hi,List.reverse_cons,List.append_assoc]
   have:bs.get! i=bs.data.toList[i]:=by
    have hi':i<bs.data.size:=by simpa using hi
    show bs.data[i]! = _
    rw[getElem!_pos bs.data i hi'];simp
   rw[this];rfl
theorem baList(l:List UInt8):(ByteArray.mk l.toArray).toList=l:=by
 unfold ByteArray.toList
 rw[baLoop _ l.length 0 [] (by simp[ByteArray.size])]
 simp
end Go.Proofs.YtdpdkpfnfllipaaGreatDoor
