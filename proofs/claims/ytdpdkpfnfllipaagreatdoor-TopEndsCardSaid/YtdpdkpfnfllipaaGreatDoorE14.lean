/- A part of the proof, no condition. -/
import Derived.Test.YtdpdkpfnfllipaaGreatDoorE5
import Derived.Test.YtdpdkpfnfllipaaGreatDoorE6
import Derived.Test.YtdpdkpfnfllipaaGreatDoorE11
import Derived.Test.YtdpdkpfnfllipaaGreatDoorE13
set_option linter.unusedVariables false
set_option linter.unusedSimpArgs false
namespace Go.Proofs.YtdpdkpfnfllipaaGreatDoor
def blkAt(k:Int)(i:Nat):UInt8:=UInt8.ofNat ((iAdd .i64 (iAdd .i64 (iMul .i64 (i:Int) (i:Int)) (iMul .i64 k (7:Int))) (1:Int)) % 251).toNat
def blockL(n:Nat)(k:Int):List UInt8:=(List.range n).map (blkAt k)
theorem blockL_length(n:Nat)(k:Int):(blockL n k).length=n:=by simp[blockL]
theorem Block_spec(n:Int)(k:Int)(hn:n≤1000000)(h:Hp):HC Tryz.prog 45 #[.int .i64 n,.int .i64 k] h (NewB h (blockL n.toNat k)):=by
 apply wc45
 unfold vc45
 obtain⟨m,hm,hm2⟩:∃ m:Nat,(if n<0 then (0:Int) else n)=m∧n.toNat=m:=by
  by_cases h0:n<0
  ·exact⟨0,by rw[if_pos h0];rfl,by omega⟩
  ·exact⟨n.toNat,by rw[if_neg h0];omega,rfl⟩
 rw[hm,hm2]
 have hmb:m≤1000000:=by omega
 refine MkC_own (by omega) (by omega) ?_
 have o0:Own h.size 1 (alc h (List.replicate m (.int .u8 (0:Int))) 5) ⟨some (nw h),m,m⟩ (((blockL m k).take 0++List.replicate (m-0) 0).map bv):=by
  have:=Own.alc h (List.replicate m (.int .u8 (0:Int))) 5 m 1 (by simp)
  simpa [bv] using this
 refine⟨fun i q h'=>∃ j:Nat,i=j∧q+j=m∧Ext h h'∧Own h.size 1 h' ⟨some (nw h),m,m⟩ (((blockL m k).take j++List.replicate (m-j) 0).map bv),m,⟨0,rfl,rfl,alc_ext _ _ _,o0⟩,?_⟩
 rintro _ _ q h1 ⟨j,rfl,hq,e1,o1⟩
 refine IfB.dec (fun hlt=>?_) (fun hge=>?_)
 ·have hj:j<m:=by simp only at hlt;omega
  refine(Round_spec _ 251 (by omega) (by omega) h1).mono ?_
  rintro _ _ ⟨rfl,rfl⟩
  refine⟨_,rfl,_,rfl,by omega,hlt,?_⟩
  have hlen:((((blockL m k).take j++List.replicate (m-j) 0)).map bv).length=m:=by simp[blockL_length];omega
  obtain⟨ok,o2,k2,_,_⟩:=o1.set (a:=nw h) rfl (k:=j) (by rw[hlen];exact hj) (bv (blkAt k j))
  have hv:Value.int .u8 (iConv .u8 ((iAdd .i64 (iAdd .i64 (iMul .i64 (j:Int) (j:Int)) (iMul .i64 k (7:Int))) (1:Int)) % 251))=bv (blkAt k j):=by
   unfold blkAt
   rw[← bv_conv]
   congr 2
   have:=Int.emod_nonneg (iAdd .i64 (iAdd .i64 (iMul .i64 (j:Int) (j:Int)) (iMul .i64 k (7:Int))) (1:Int)) (show(251:Int)≠0 by omega)
   omega
  rw[hv]
  simp only[Int.toNat_natCast,Nat.mul_one]
  refine⟨ok,q-1,by omega,j+1,by rw[iAdd64 (by omega)];push_cast;rfl,by omega,(e1.toKeep.trans k2).ext,?_⟩
  have hset:((((blockL m k).take j++List.replicate (m-j) 0)).map bv).set j (bv (blkAt k j))=(((blockL m k).take (j+1)++List.replicate (m-(j+1)) 0)).map bv:=by
   rw[← List.map_set]
   congr 1
   have hjl:((blockL m k).take j).length=j:=by simp[blockL_length];omega
   rw[List.set_append_right _ _ (by omega),hjl,Nat.sub_self,show m-j=(m-(j+1))+1 by omega,List.replicate_succ,List.set_cons_zero]
   rw[List.take_succ_eq_append_getElem (by rw[blockL_length];exact hj)]
   simp[blockL]
  rw[← hset];exact o2
 ·have hj:j=m:=by simp only at hge;omega
  subst hj
  rw[Nat.sub_self,List.replicate_zero,List.append_nil,List.take_of_length_le (by rw[blockL_length];omega)]at o1
  exact⟨⟨some (nw h),j,j⟩,rfl,o1,by rw[blockL_length],e1⟩
def DevL(h0 h:Hp)(db:Nat)(d:Dv):Prop:=(∃ F,DevAt h0.size F h db d)∧Ext h0 h
theorem ptrL{h0 h:Hp}{db:Nat}{d:Dv}(x:DevL h0 h db d)(k:Nat)(hk:k<d.n){K:Int→Int→Hp→Prop}(hK:K ((d.z k).rows.length:Int) 0 h) :
 HC Tryz.prog 105 #[dp db,.int .i64 (k:Int)] h fun r2 vh2=>∃ c:Int,∃ c1:Int,r2=.tuple #[.int .i64 c,.int .i64 c1]∧K c c1 vh2:=by
 obtain⟨⟨F,x⟩,e0⟩:=x
 refine(Pointer_spec x _).mono ?_
 rintro _ h2 ⟨rfl,⟨hn,rfl⟩ | ⟨k',hk1,hk2,rfl⟩⟩
 ·exfalso;omega
 ·obtain rfl:k=k':=by omega
  exact⟨_,_,rfl,hK⟩
def Live(d:Dv):Prop:=d.cut=false∧d.off=false
theorem Live.dead{d:Dv}(l:Live d):d.dead=false:=by simp[Dv.dead,l.1,l.2]
theorem Live.tick{d:Dv}(l:Live d):Live d.tick:=⟨l.1,l.dead⟩
theorem Live.setZ{d:Dv}(l:Live d)(k:Nat)(z:Zn):Live (d.setZ k z):=l
theorem append_live{d:Dv}(l:Live d){k:Nat}(hk:k<d.n){p:List UInt8}(hp:p.length=64) :
 d.append (k:Int) p=if d.size≤(d.z k).rows.length then (((0:Int),(9:Int)),d.tick) else ((((d.z k).rows.length:Int),(0:Int)),d.tick.setZ k ⟨(d.z k).rows ++ [p],(d.z k).good⟩):=by
 unfold Dv.append
 rw[if_neg (by omega),if_neg (by omega),if_neg (by simp[l.dead]),Int.toNat_natCast]
theorem reset_live{d:Dv}(l:Live d){k:Nat}(hk:k<d.n):d.reset (k:Int)=(0,d.tick.setZ k ⟨[],0⟩):=by
 unfold Dv.reset
 rw[if_neg (by omega),if_neg (by simp[l.dead]),Int.toNat_natCast]
theorem flush_live{d:Dv}(l:Live d):d.flush=(0,d.tick.flushed):=by
 unfold Dv.flush
 rw[if_neg (by simp[l.dead])]
theorem Dv.flushed_z(d:Dv)(k:Nat):d.flushed.z k=⟨(d.z k).rows,(d.z k).rows.length⟩:=by
 unfold Dv.z Dv.flushed
 simp only[List.getD_eq_getElem?_getD,List.getElem?_map]
 cases d.zs[k]? <;> rfl
theorem new_live(n size:Nat):Live (Dv.new n size):=⟨rfl,rfl⟩
theorem OwnRows.pushG{lo e ty by_:Nat}{h:Hp}{t u:Sl}{rows:List (Sl × List UInt8)}{l:List UInt8}{zc:Array Value}{K:Sl→Hp→Prop}(hz:zc.size=1)(o:OwnRows lo h t rows)(hlo:lo≤h.size)(ru:Rd 1 h u (l.map bv))
 (bu:∀ a,u.base=some a→lo≤a.block∧a.block<h.size∧∀ a',t.base=some a'→a.block≠a'.block)
 (hb:(rows.length+1)*by_≤140737488355328) (hby:1≤by_) (hK:∀ r h',OwnRows lo h' r (rows ++ [(u,l)])→r.len=rows.length+1→Keep lo h h'→(∀ b,b<h.size→(∀ a,t.base=some a→b≠a.block)→h'[b]? = h[b]?)→K r h') :
 AppC e 1 by_ zc t (Sl.mk (some (nw h)) 1 1) (alc h [slV u] ty) K:=by
 have hlen:=o.len
 have hle:(rows.length+1)*1≤(rows.length+1)*by_:=Nat.mul_le_mul_left _ hby
 refine AppC_own5 (news:=[slV u]) (l:=rows.map fun p=>slV p.1) hz (o.own.ext (alc_ext h _ ty)) (by rw[size_alc];omega) rfl (RdC.alc h _ ty) (fun v hv=>by simp at hv;subst hv;rfl) (by rw[hlen];simpa using hb) (by rw[hlen];simp only;omega) fun r h' o' l' k' x' b'=>?_
 have s2:(alc h [slV u] ty).size=h.size+1:=size_alc _ _ _
 have same:∀ b,b<h.size→(∀ a,t.base=some a→b≠a.block)→h'[b]? = h[b]?:=fun b hb hne=>by rw[x' b (by omega) hne,alc_old _ _ _ hb]
 have kp:Keep lo h h':=⟨by have:=k'.size;omega,fun b hb=>by rw[k'.block b hb,alc_old _ _ _ (by omega)]⟩
 have hsz:=kp.size
 have hrb:∀ a',r.base=some a'→t.base=some a'∨h.size≤a'.block:=fun a' ha'=>by
  rcases b' a' ha' with h | h
  ·exact .inl h
  ·exact .inr (by omega)
 refine hK r h' ⟨by simpa using o',fun p hp=>?_,fun p hp a ha=>?_⟩ (by rw[l',hlen]) kp same
 ·rcases List.mem_append.1 hp with hp | hp
  ·exact(o.each p hp).eq fun a ha=>same _ (o.base p hp a ha).2.1 (o.base p hp a ha).2.2
  ·simp only[List.mem_cons,List.not_mem_nil,or_false]at hp
   subst hp
   exact ru.eq fun a ha=>same _ (bu a ha).2.1 (bu a ha).2.2
 ·have q:lo≤a.block∧a.block<h.size∧∀ a',t.base=some a'→a.block≠a'.block:=by
   rcases List.mem_append.1 hp with hp | hp
   ·exact o.base p hp a ha
   ·simp only[List.mem_cons,List.not_mem_nil,or_false]at hp
    subst hp;exact bu a ha
  refine⟨q.1,by omega,fun a' ha'=>?_⟩
  rcases hrb a' ha' with h | h
  ·exact q.2.2 a' h
  ·omega
theorem Row.chg{F:Nat→Nat}{h h':Hp}{b:Nat}{l:List Value}(r:Row h b l)(c:Chg F h h')(hF:F b=0):Row h' b l:=r.eq (c.block b r.lt hF)
theorem Chg.tr{F:Nat→Nat}{a b c:Hp}(x:Chg F a b)(y:Chg F b c):Chg F a c:=x.trans (fun _ _=>rfl) y
theorem DevTo.trans{lo:Nat}{F F':Nat→Nat}{h h1 h2:Hp}{db:Nat}{d2:Dv}(g:∀ b,b<h.size→F' b=F b)(c:Chg F h h1)(t:DevTo lo F' h1 h2 db d2):DevTo lo F h h2 db d2:=by
 obtain⟨F2,x2,g2,c2⟩:=t
 exact⟨F2,x2,fun b hb=>by rw[g2 b (Nat.lt_of_lt_of_le hb c.size),g b hb],c.trans g c2⟩
def goodB(p:List UInt8):Prop:=p.length=64∧goodP p
def zRows(d:Dv):Nat→Nat→List (List UInt8)
 | _,0=>[]
 | z,k+1=>(d.z z).rows++if (d.z z).rows.length<d.size then [] else zRows d (z+1) k
theorem zRows_len{d:Dv}(w:d.Wf)(z k:Nat):(zRows d z k).length≤k*192:=by
 induction k generalizing z with
 | zero=>simp[zRows]
 | succ k ih=>
   have h1:=(w.zone z).rows
   have h2:=w.size
   have h3:=ih (z+1)
   simp only[zRows]
   split
   ·simp;omega
   ·simp;omega
def withReads(d:Dv)(q:Int):Dv:={ d with reads:=q }
theorem Dv.Wf.reads{d:Dv}(w:d.Wf)(q:Int):(withReads d q).Wf:=⟨w.n,w.zones,w.size,w.left,w.each⟩
theorem zRows_reads(d:Dv)(q:Int)(z k:Nat):zRows (withReads d q) z k=zRows d z k:=by
 induction k generalizing z with
 | zero=>rfl
 | succ k ih=>simp only[zRows];rw[ih];rfl
theorem zRows_congr{d d':Dv}(hs:d'.size=d.size)(k z:Nat)(h:∀ j,z≤j→j<z+k→(d'.z j).rows=(d.z j).rows):zRows d' z k=zRows d z k:=by
 induction k generalizing z with
 | zero=>rfl
 | succ k ih=>simp only[zRows];rw[h z (by omega) (by omega),hs,ih (z+1) fun j h1 h2=>h j (by omega) (by omega)]
theorem zRows_nil{d:Dv}(k z:Nat)(h:∀ j,z≤j→j<z+k→(d.z j).rows = []):zRows d z k = []:=by
 induction k generalizing z with
 | zero=>rfl
 | succ k ih=>simp only[zRows];rw[h z (by omega) (by omega),ih (z+1) fun j h1 h2=>h j (by omega) (by omega)];simp
theorem DevAt.low{lo lo':Nat}{F:Nat→Nat}{h:Hp}{db:Nat}{d:Dv}(x:DevAt lo F h db d)(hl:lo'≤lo):DevAt lo' F h db d:=by
 obtain⟨w,zs,zb,x⟩:=x
 exact⟨w,zs,zb,fun b hb=>⟨Nat.le_trans hl (x.dom b hb).1,(x.dom b hb).2⟩,x.role,x.row,x.own,x.arr,x.len,x.zone⟩
theorem DevAt.free{lo:Nat}{F:Nat→Nat}{h:Hp}{db:Nat}{d:Dv}(x:DevAt lo F h db d){b:Nat}(hb:h.size≤b):F b=0:=by
 rcases Nat.eq_zero_or_pos (F b) with h0 | h0
 ·exact h0
 ·have:=(x.dom b (by omega)).2;omega
structure OkD(d e:Dv):Prop where
 live:Live e
 wf:e.Wf
 n:e.n=d.n
 size:e.size=d.size
theorem OkD.trans{a b c:Dv}(x:OkD a b)(y:OkD b c):OkD a c:=⟨y.live,y.wf,y.n.trans x.n,y.size.trans x.size⟩
noncomputable def Dv.clear(d:Dv):Nat→Nat→Int × Dv
 | _,0=>(0,d)
 | z,k+1=>if (d.z z).rows.length=0 then Dv.clear d (z+1) k else if (d.reset z).1≠0 then d.reset z else Dv.clear (d.reset z).2 (z+1) k
noncomputable def Dv.puts(d:Dv)(base size:Nat):Nat→List (List UInt8)→Int × Dv
 | _,[]=>(0,d)
 | k,p::r=>if (d.append ((base+k / size:Nat):Int) p).1.2≠0 then ((d.append ((base+k / size:Nat):Int) p).1.2,(d.append ((base+k / size:Nat):Int) p).2) else Dv.puts (d.append ((base+k / size:Nat):Int) p).2 base size (k+1) r
theorem reset_n(d:Dv)(i:Int):(d.reset i).2.n=d.n:=by
 unfold Dv.reset;split
 ·rfl
 ·split <;> rfl
theorem clear_live:∀ (k:Nat) (d:Dv) (z:Nat),Live d→d.Wf→z+k≤d.n→(d.clear z k).1=0∧OkD d (d.clear z k).2∧∀ j,(d.clear z k).2.z j=if z≤j∧j<z+k then ⟨[],0⟩ else d.z j:=by
 intro k
 induction k with
 | zero=>intro d z l w h;exact⟨rfl,⟨l,w,rfl,rfl⟩,fun j=>by rw[if_neg (by omega)];rfl⟩
 | succ k ih=>
   intro d z l w h
   have hzn:z<d.zs.length:=by have:=w.n;omega
   rw[Dv.clear]
   by_cases hz:(d.z z).rows.length=0
   ·rw[if_pos hz]
    obtain⟨h1,h2,h3⟩:=ih d (z+1) l w (by omega)
    refine⟨h1,h2,fun j=>?_⟩
    rw[h3]
    by_cases hj:j=z
    ·subst hj
     rw[if_neg (by omega),if_pos (by omega)]
     have hg:=(w.zone j).good
     have hr:(d.z j).rows = []:=List.eq_nil_of_length_eq_zero hz
     cases hd:d.z j with
     | mk rows good=>rw[hd]at hr hg;simp only at hr hg;subst hr;simp at hg;subst hg;rfl
    ·by_cases hc:z+1≤j∧j<z+1+k
     ·rw[if_pos hc,if_pos (by omega)]
     ·rw[if_neg hc,if_neg (by omega)]
   ·rw[if_neg hz,reset_live l (by omega)]
    rw[if_neg (by simp)]
    have w1:(d.tick.setZ z ⟨[],0⟩).Wf:=w.tick.setZ z ⟨Nat.zero_le _,Nat.zero_le _,fun p hp=>by simp at hp⟩
    obtain⟨h1,h2,h3⟩:=ih (d.tick.setZ z ⟨[],0⟩) (z+1) (l.tick.setZ _ _) w1 (by show z+1+k≤d.n;omega)
    refine⟨h1,OkD.trans ⟨l.tick.setZ _ _,w1,rfl,rfl⟩ h2,fun j=>?_⟩
    show(Dv.clear (d.tick.setZ z ⟨[],0⟩) (z+1) k).2.z j=_
    rw[h3,d.tick.z_set hzn]
    by_cases hj:j=z
    ·subst hj;rw[if_neg (by omega),if_pos rfl,if_pos (by omega)]
    ·rw[if_neg hj]
     by_cases hc:z+1≤j∧j<z+1+k
     ·rw[if_pos hc,if_pos (by omega)]
     ·rw[if_neg hc,if_neg (by omega)];rfl
def part(size:Nat)(ps:List (List UInt8))(m:Nat):List (List UInt8):=(ps.drop (m*size)).take size
theorem part_snoc{size:Nat}{ps:List (List UInt8)}{k:Nat}(hs:1≤size)(hk:k<ps.length)(m:Nat):part size (ps.take (k+1)) m=if m=k / size then part size (ps.take k) m ++ [ps[k]] else part size (ps.take k) m:=by
 have hkl:(ps.take k).length=k:=by simp;omega
 have hdm:=Nat.div_add_mod k size
 have hmod:=Nat.mod_lt k (show 0<size by omega)
 have hcomm:size*(k / size)=(k / size)*size:=Nat.mul_comm _ _
 rw[List.take_succ_eq_append_getElem hk]
 unfold part
 rcases Nat.lt_trichotomy m (k / size) with h | h | h
 ·rw[if_neg (by omega)]
  have h1:(m+1)*size≤(k / size)*size:=Nat.mul_le_mul_right _ (by omega)
  rw[Nat.add_mul,Nat.one_mul]at h1
  rw[List.drop_append_of_le_length (by omega),List.take_append_of_le_length (by rw[List.length_drop];omega)]
 ·rw[if_pos h]
  subst h
  rw[List.drop_append_of_le_length (by omega),List.take_append,List.take_of_length_le (l:=(ps.take k).drop _) (by rw[List.length_drop];omega)]
  congr 1
  rw[List.take_of_length_le (by simp[List.length_drop];omega)]
 ·rw[if_neg (by omega)]
  have h1:(k / size+1)*size≤m*size:=Nat.mul_le_mul_right _ (by omega)
  rw[Nat.add_mul,Nat.one_mul]at h1
  rw[List.drop_of_length_le (by simp;omega),List.drop_of_length_le (by omega)]
theorem part_len{size:Nat}{ps:List (List UInt8)}{k:Nat}(hs:1≤size)(hk:k<ps.length):(part size (ps.take k) (k / size)).length<size:=by
 have hdm:=Nat.div_add_mod k size
 have hmod:=Nat.mod_lt k (show 0<size by omega)
 have hcomm:size*(k / size)=(k / size)*size:=Nat.mul_comm _ _
 unfold part
 rw[List.length_take,List.length_drop,List.length_take]
 omega
theorem puts_live{base cnt:Nat}{ps:List (List UInt8)}(h64:∀ p∈ps,p.length=64):∀ (r:List (List UInt8)) (d:Dv) (k:Nat),Live d→d.Wf→base+cnt≤d.n→ps.length≤cnt*d.size→ps.drop k=r→k≤ps.length→(∀ m,m<cnt→(d.z (base+m)).rows=part d.size (ps.take k) m) →
 (d.puts base d.size k r).1=0∧OkD d (d.puts base d.size k r).2∧(∀ m,m<cnt→((d.puts base d.size k r).2.z (base+m)).rows=part d.size ps m)∧∀ j,(j<base∨base+cnt≤j)→(d.puts base d.size k r).2.z j=d.z j:=by
 intro r
 induction r with
 | nil=>
   intro d k l w hn hc hr hk hz
   have hkl:k=ps.length:=by have:=congrArg List.length hr;simp at this;omega
   subst hkl
   rw[List.take_length]at hz
   exact⟨rfl,⟨l,w,rfl,rfl⟩,hz,fun j _=>rfl⟩
 | cons p r ih=>
   intro d k l w hn hc hr hk hz
   have hkl:k<ps.length:=by have:=congrArg List.length hr;simp at this;omega
   have hs:=w.size
   have hpk:ps[k]=p:=by
    have:=List.drop_eq_getElem_cons hkl
    rw[hr]at this
    exact(List.cons.inj this).1.symm
   have hr':ps.drop (k+1)=r:=by
    have:=List.drop_eq_getElem_cons hkl
    rw[hr]at this
    exact(List.cons.inj this).2.symm
   have hq:k / d.size<cnt:=by
    rw[Nat.div_lt_iff_lt_mul (by omega)];omega
   have hzq:=hz _ hq
   have hlt:=part_len (size:=d.size) (ps:=ps) (k:=k) (by omega) hkl
   have hb:base+k / d.size<d.zs.length:=by have:=w.n;omega
   have happ:=append_live l (k:=base+k / d.size) (by have:=w.n;omega) (h64 p (by rw[← hpk];exact List.getElem_mem hkl))
   rw[if_neg (by rw[hzq];omega)]at happ
   rw[Dv.puts,happ,if_neg (by simp)]
   have hzw:=w.zone (base+k / d.size)
   let d':=d.tick.setZ (base+k / d.size) ⟨(d.z (base+k / d.size)).rows ++ [p],(d.z (base+k / d.size)).good⟩
   have w':d'.Wf:=w.tick.setZ _ ⟨by rw[List.length_append,hzq];simp;show _≤d.size;omega,by have:=hzw.good;simp;omega,fun y hy=>by
    rcases List.mem_append.1 hy with hy | hy
    ·exact hzw.each y hy
    ·simp only[List.mem_cons,List.not_mem_nil,or_false]at hy
     subst hy;exact h64 y (by rw[← hpk];exact List.getElem_mem hkl)⟩
   have hz':∀ m,m<cnt→(d'.z (base+m)).rows=part d'.size (ps.take (k+1)) m:=fun m hm=>by
    show((d.tick.setZ _ _).z (base+m)).rows=part d.size _ m
    rw[part_snoc (by omega) hkl,d.tick.z_set hb,hpk]
    by_cases e:m=k / d.size
    ·subst e;rw[if_pos rfl,if_pos rfl,hzq]
    ·rw[if_neg (by omega),if_neg e];exact hz m hm
   obtain⟨h1,h2,h3,h4⟩:=ih d' (k+1) (l.tick.setZ _ _) w' hn hc hr' hkl hz'
   refine⟨h1,OkD.trans ⟨l.tick.setZ _ _,w',rfl,rfl⟩ h2,h3,fun j hj=>?_⟩
   show(Dv.puts d' base d'.size (k+1) r).2.z j=_
   rw[h4 j hj]
   show(d.tick.setZ _ _).z j=_
   rw[d.tick.z_set hb,if_neg (by have h0:base≤base+k / d.size:=Nat.le_add_right _ _;omega)];rfl
theorem zRows_part{d:Dv}{base cnt:Nat}{ps:List (List UInt8)}(hs:1≤d.size)(hl:ps.length≤cnt*d.size)(hz:∀ m,m<cnt→(d.z (base+m)).rows=part d.size ps m):zRows d base cnt=ps:=by
 have go:∀ k m,m+k=cnt→zRows d (base+m) k=ps.drop (m*d.size):=by
  intro k
  induction k with
  | zero=>
    intro m hm
    obtain rfl:m=cnt:=by omega
    rw[List.drop_of_length_le hl];rfl
  | succ k ih=>
    intro m hm
    rw[zRows,hz m (by omega)]
    have hlen:(part d.size ps m).length=min d.size (ps.length-m*d.size):=by unfold part;simp
    split
    ·rename_i hlt
     rw[List.append_nil]
     unfold part
     rw[List.take_of_length_le (by rw[List.length_drop];omega)]
    ·have:=ih (m+1) (by omega)
     rw[show base+m+1=base+(m+1) by omega,this]
     unfold part
     rw[show(m+1)*d.size=m*d.size+d.size by rw[Nat.add_mul,Nat.one_mul],← List.drop_drop,List.take_append_drop]
 simpa using go cnt 0 (by omega)
def AllGood(d:Dv):Prop:=∀ j,(d.z j).good=(d.z j).rows.length
def tailL(t:List UInt8):List UInt8:=leB 4 t.length++leB 4 (crcN t)
open Classical in
noncomputable def readGo:List (List UInt8)→Nat→List UInt8→Nat→List UInt8 × Nat
 | [],_,_,_=>([],0)
 | p::r,i,t,n=>
   if ¬ goodB p then ([],0) else
   if i=0∧dK p=3 then readGo r (i+1) t (dS p) else
   if i=0∨dS p≠n then ([],0) else
   if dK p=1 then readGo r (i+1) (t++dB p) n else
   if dK p=2∧dL p+1=i∧dB p=tailL t then (t,n) else ([],0)
noncomputable def readS(l:List (List UInt8)):List UInt8 × Nat:=readGo l 0 [] 0
theorem tail_spec{h:Hp}{s:Sl}{l:List UInt8}(r:Rd 1 h s (l.map bv))(hm:l.length<2 ^ 32):HC Tryz.prog 176 #[.slice s.base s.len s.cap] h (NewB h (tailL l)):=by
 apply wc176
 unfold vc176
 have ll:=r.lenB
 have e1:iConv .u32 (s.len:Int)=((l.length:Nat):Int):=by
  rw[← ll,iConv_nat (by rfl),Nat.mod_eq_of_lt (by simpa [IntKind.bits] using hm)]
 rw[e1]
 refine(Put32_spec _ hm h).mono ?_
 rintro _ h1 ⟨u,rfl,ou,lu,e1⟩
 refine⟨u,rfl,?_⟩
 refine(crcOf_spec ll (r.ext e1).rd (by omega)).mono ?_
 rintro _ h2 ⟨rfl,e2⟩
 refine⟨_,rfl,?_⟩
 refine(Put32_spec _ (crcN_lt l) h2).mono ?_
 rintro _ h3 ⟨v,rfl,ov,lv,e3⟩
 refine⟨v,rfl,?_⟩
 intro h4
 have e4:Ext h3 h4:=alc_ext _ _ _
 refine(slConcat_spec (s:=Sl.mk (some (nw h3)) 2 2) (rows:=[(u,leB 4 l.length),(v,leB 4 (crcN l))]) rfl (RdC.alc h3 _ _) ?_ (by show 2≤1000000;omega) ?_).mono ?_
 ·intro p hp
  simp only[List.mem_cons,List.not_mem_nil,or_false]at hp
  rcases hp with rfl | rfl
  ·exact ou.toRd.ext ((e2.trans e3).trans e4)
  ·exact ov.toRd.ext e4
 ·simp[catS,leB_length]
 rintro _ h5 ⟨w,rfl,ow,lw,e5⟩
 have hs:h.size≤h4.size:=(((e1.trans e2).trans e3).trans e4).size
 have hc:catS [(u,leB 4 l.length),(v,leB 4 (crcN l))]=tailL l:=by simp[catS,tailL]
 rw[hc]at ow lw
 exact⟨w,rfl,w,rfl,ow.weak hs,lw,(((e1.trans e2).trans e3).trans e4).trans e5⟩
theorem read_spec{h:Hp}{s:Sl}{rows:List (Sl × List UInt8)}(hr:RdC h s.base (rows.map fun p=>slV p.1))(hl:s.len=rows.length)(each:∀ p∈rows,Rd 1 h p.1 (p.2.map bv))(hmax:rows.length≤1000000) :
 HC Tryz.prog 120 #[.slice s.base s.len s.cap] h fun r h'=>Ext h h'∧∃ t:Sl,r=.tuple #[.slice t.base t.len t.cap,.int .i64 ((readS (rows.map (·.2))).2:Int)]∧Own h.size 1 h' t ((readS (rows.map (·.2))).1.map bv):=by
 apply wc120
 unfold vc120
 generalize hV:readS (rows.map (·.2))=V
 have none:∀ {h':Hp},Ext h h'→V=([],0)→Ext h h'∧∃ t:Sl,Value.tuple #[.slice Sl.nil.base Sl.nil.len Sl.nil.cap,.int .i64 (0:Int)]=.tuple #[.slice t.base t.len t.cap,.int .i64 (V.2:Int)]∧Own h.size 1 h' t (V.1.map bv):=by
  intro h' e hv
  subst hv
  exact⟨e,Sl.nil,rfl,Own.nil _ _ _⟩
 refine⟨fun text n i m h'=>∃ (k nn:Nat) (tx:List UInt8),i=k∧n=nn∧m+k=rows.length∧Ext h h'∧Own h.size 1 h' text (tx.map bv)∧tx.length≤k*64∧readGo ((rows.map (·.2)).drop k) k tx nn=V,rows.length,
  ⟨0,0,[],rfl,rfl,rfl,.refl h,Own.nil _ _ _,by simp,hV⟩,?_⟩
 rintro _ text _ _ m h1 ⟨k,nn,tx,rfl,rfl,hm,e1,ot,htl,hgo⟩
 have s1:=e1.size
 refine IfB.dec (fun hlt=>?_) (fun hge=>?_)
 ·have hk:k<rows.length:=by omega
  have hmem:rows[k]∈rows:=List.getElem_mem hk
  have hkm:k<(rows.map (·.2)).length:=by simpa using hk
  refine ixS (hr.ext e1) hl k rfl hk ?_
  refine(Decode_spec ((each _ hmem).ext e1)).mono ?_
  rw[List.drop_eq_getElem_cons hkm,List.getElem_map,readGo]at hgo
  generalize hp:rows[k].2=p at *
  rintro v2 h2 d2
  obtain⟨e2,kk,e,sq,lba,t,c,rfl,dn,db,dg⟩:=d2.shape
  refine⟨_,_,_,_,t,c,rfl,?_⟩
  intro h3
  refine put5 fun h4 e4 r4=>?_
  have e24:=e2.trans e4
  have e04:=e1.trans e24
  have s24:=e24.size
  refine IfB.ne (fun hne=>none e04 ?_) (fun h0=>?_)
  ·rw[← hgo,if_pos]
   intro hg
   exact hne (dg hg.1 hg.2).1
  have hg:goodB p:=by
   by_cases h64:p.length=64
   ·by_cases hg:goodP p
    ·exact⟨h64,hg⟩
    ·have:=db h64 hg;omega
   ·have:=dn h64;omega
  obtain⟨_,rfl,rfl,rfl,rfl,od⟩:=dg hg.1 hg.2
  rw[if_neg (fun hn=>hn hg)]at hgo
  have hdb:(dB p).length≤64:=by
   have:(dB p).length≤p.length:=by unfold dB;simp[List.length_take,List.length_drop];omega
   have:=hg.1;omega
  have ek:iAdd .i64 (k:Int) (1:Int)=((k+1:Nat):Int):=by rw[iAdd64 (by omega)];push_cast;rfl
  have od4:=od.ext e4
  have lod:=od4.toRd.lenB
  have lot:=ot.toRd.lenB
  rw[ek]
  have rest:¬ (k=0∧dK p=3)→k≠0 →∃ c17:Int,hY h4 ((nw h2).add 2)=some (.int .i64 c17)∧
   IfB (c17 !=(nn:Int)) (Ext h h4∧∃ t:Sl,Value.tuple #[.slice Sl.nil.base Sl.nil.len Sl.nil.cap,.int .i64 (0:Int)]=.tuple #[.slice t.base t.len t.cap,.int .i64 (V.2:Int)]∧Own h.size 1 h4 t (V.1.map bv))
   (∃ c18:Int,hY h4 (nw h2)=some (.int .i64 c18)∧
    IfB (c18 ==(1:Int)) (∃ c19:Sl,hY h4 ((nw h2).add 4)=some (.slice c19.base c19.len c19.cap)∧
     AppC 5 1 1 #[.int .u8 (0:Int)] text c19 h4 fun s1 vh7=>
     ∃ n2,n2<m∧∃ (k' nn':Nat) (tx:List UInt8),((k+1:Nat):Int)=k'∧(nn:Int)=nn'∧n2+k'=rows.length∧Ext h vh7∧Own h.size 1 vh7 s1 (tx.map bv)∧tx.length≤k'*64∧readGo ((rows.map (·.2)).drop k') k' tx nn'=V)
    (∃ c20:Int,hY h4 (nw h2)=some (.int .i64 c20)∧
     IfB (c20 ==(2:Int)) (∃ c21:Int,hY h4 ((nw h2).add 3)=some (.int .i64 c21)∧
      IfB (c21 ==(iSub .i64 (k:Int) (1:Int))) (∃ c22:Sl,hY h4 ((nw h2).add 4)=some (.slice c22.base c22.len c22.cap)∧
       HC Tryz.prog 176 #[.slice text.base text.len text.cap] h4 fun r3 vh8=>
       ∃ c23:Sl,r3=.slice c23.base c23.len c23.cap∧
       Ext h4 vh8∧
       HC Tryz.prog 175 #[.slice c22.base c22.len c22.cap,.slice c23.base c23.len c23.cap] vh8 fun r4 vh9=>
       ∃ c24:Bool,r4=.bool c24∧
       Ext h4 vh9∧
       IfB c24 (Ext h vh9∧∃ t:Sl,Value.tuple #[.slice text.base text.len text.cap,.int .i64 (nn:Int)]=.tuple #[.slice t.base t.len t.cap,.int .i64 (V.2:Int)]∧Own h.size 1 vh9 t (V.1.map bv))
       (Ext h vh9∧∃ t:Sl,Value.tuple #[.slice Sl.nil.base Sl.nil.len Sl.nil.cap,.int .i64 (0:Int)]=.tuple #[.slice t.base t.len t.cap,.int .i64 (V.2:Int)]∧Own h.size 1 vh9 t (V.1.map bv)))
      (Ext h h4∧∃ t:Sl,Value.tuple #[.slice Sl.nil.base Sl.nil.len Sl.nil.cap,.int .i64 (0:Int)]=.tuple #[.slice t.base t.len t.cap,.int .i64 (V.2:Int)]∧Own h.size 1 h4 t (V.1.map bv)))
     (Ext h h4∧∃ t:Sl,Value.tuple #[.slice Sl.nil.base Sl.nil.len Sl.nil.cap,.int .i64 (0:Int)]=.tuple #[.slice t.base t.len t.cap,.int .i64 (V.2:Int)]∧Own h.size 1 h4 t (V.1.map bv)))):=by
   intro hn3 hk0
   rw[if_neg hn3]at hgo
   refine⟨_,r4.get rfl,IfB.ne (fun hne=>none e04 (by rw[← hgo,if_pos (.inr (by omega))])) (fun heq=>?_)⟩
   rw[if_neg (by omega)]at hgo
   refine⟨_,r4.get0 rfl,IfB.eq (fun h1=>⟨t,r4.get rfl,?_⟩) (fun h1=>⟨_,r4.get0 rfl,IfB.eq (fun h2=>⟨_,r4.get rfl,?_⟩) (fun h2=>none e04 (by rw[← hgo,if_neg (by omega),if_neg (by omega)]))⟩)⟩
   ·rw[if_pos (by omega)]at hgo
    refine AppC_own5 (news:=(dB p).map bv) rfl (ot.ext e24) (by omega) (by simpa using lod) od4.rd (cellOk_bv _) (by omega) (by omega) fun r h5 o5 l5 k5 _ _=>?_
    rw[← List.map_append]at o5
    refine⟨m-1,by omega,k+1,nn,tx++dB p,rfl,rfl,by omega,?_,o5,by simp;omega,hgo⟩
    exact(e04.toKeep.trans (k5.le (by omega))).ext
   ·rw[if_neg (by omega)]at hgo
    rw[iSub64 (by omega)]
    refine IfB.eq (fun h3=>⟨t,r4.get rfl,?_⟩) (fun h3=>none e04 (by rw[← hgo,if_neg (by omega)]))
    refine(tail_spec (ot.ext e24).toRd (by omega)).mono ?_
    rintro _ h5 ⟨w,rfl,ow,lw,e5⟩
    refine⟨w,rfl,e5,?_⟩
    refine(slEqual_spec (od4.toRd.ext e5) ow.toRd (by omega)).mono ?_
    rintro _ h6 ⟨rfl,hh6⟩
    obtain rfl:=hh6.symm
    refine⟨_,rfl,e5,IfB.dec (fun heq=>?_) (fun hne=>none (e04.trans e5) (by rw[← hgo,if_neg (fun hh=>hne hh.2.2)]))⟩
    rw[if_pos ⟨by omega,by omega,heq⟩]at hgo
    rw[← hgo]
    exact⟨e04.trans e5,text,rfl,(ot.ext e24).ext e5⟩
  refine IfB.eq (fun hk0=>⟨_,r4.get0 rfl,IfB.eq (fun h3=>?_) (fun h3=>IfB.eq (fun _=>none e04 ?_) (fun hh=>absurd hk0 hh))⟩) (fun hk0=>IfB.eq (fun hh=>absurd hh hk0) (fun _=>rest (by omega) (by omega)))
  ·rw[if_pos (by omega)]at hgo
   exact⟨_,r4.get rfl,m-1,by omega,k+1,dS p,tx,rfl,rfl,by omega,e04,ot.ext e24,by omega,hgo⟩
  ·rw[← hgo,if_neg (by omega),if_pos (.inl (by omega))]
 ·have hk:k=rows.length:=by omega
  subst hk
  rw[List.drop_of_length_le (by simp),readGo]at hgo
  exact none e1 hgo.symm
theorem rowsContains_spec{f:Nat}{p:List UInt8→Bool}{h:Hp}{s:Sl}{rows:List (Sl × List UInt8)}(hr:RdC h s.base (rows.map fun p=>slV p.1))(hl:s.len=rows.length)(each:∀ x∈rows,Rd 1 h x.1 (x.2.map bv))(hmax:rows.length≤1000000)
 (hf:∀ x∈rows,∀ c:Sl,Rd 1 h c (x.2.map bv)→HC Tryz.prog f #[.slice c.base c.len c.cap] h fun r h'=>r=.bool (p x.2)∧h'=h) :
 HC Tryz.prog 71 #[.slice s.base s.len s.cap,.func (.func f) #[] #[]] h fun r h'=>r=.bool (rows.any fun x=>p x.2)∧h'=h:=by
 apply wc71
 unfold vc71
 have ix:HC Tryz.prog 124 #[.slice s.base s.len s.cap,.func (.func f) #[] #[]] h fun r h'=>(∃ c:Int,r=.int .i64 c∧decide (c ≥ 0)=rows.any fun x=>p x.2)∧h'=h:=by
  apply wc124
  unfold vc124
  refine⟨fun i m h'=>h=h'∧∃ k:Nat,i=k∧m+k=rows.length∧(rows.take k).any (fun x=>p x.2)=false,rows.length,⟨rfl,0,rfl,rfl,rfl⟩,?_⟩
  rintro _ _ m _ ⟨rfl,k,rfl,hm,ht⟩
  refine IfB.dec (fun hlt=>?_) (fun hge=>?_)
  ·have hk:k<rows.length:=by omega
   refine ixS hr hl k rfl hk ?_
   refine(hf _ (List.getElem_mem hk) _ (each _ (List.getElem_mem hk))).mono ?_
   rintro _ h1 ⟨rfl,hh⟩
   obtain rfl:=hh.symm
   refine⟨_,rfl,IfB.intro (fun hp=>⟨⟨_,rfl,?_⟩,rfl⟩) (fun hp=>⟨m-1,by omega,rfl,k+1,by rw[iAdd64 (by omega)];push_cast;rfl,by omega,?_⟩)⟩
   ·have:(rows.any fun x=>p x.2)=true:=List.any_eq_true.2 ⟨rows[k],List.getElem_mem hk,hp⟩
    rw[this];simp
   ·rw[List.take_succ_eq_append_getElem hk,List.any_append,ht];simp[hp]
  ·rw[List.take_of_length_le (by omega)]at ht
   exact⟨⟨_,rfl,by rw[ht];rfl⟩,rfl⟩
 refine ix.mono ?_
 rintro _ h1 ⟨⟨c,rfl,hc⟩,hh⟩
 obtain rfl:=hh.symm
 exact⟨_,rfl,by rw[hc],rfl⟩
structure SlV where
 f0:Nat
 f1:Nat
 f2:Nat
 size:Nat
 inn:Nat
 count:Nat
 off:Bool
def SlV.f(S:SlV)(i:Nat):Nat:=if i=0 then S.f0 else if i=1 then S.f1 else S.f2
def slC(db:Nat)(S:SlV)(ts:Sl):List Value:=[dp db,.int .i64 (S.f0:Int),.int .i64 (S.f1:Int),.int .i64 (S.f2:Int),.int .i64 (S.size:Int),.int .i64 (S.inn:Int),.slice ts.base ts.len ts.cap,.int .i64 (S.count:Int),.bool S.off]
theorem slC_f{h:Hp}{sb db:Nat}{S:SlV}{ts:Sl}(r:Row h sb (slC db S ts)){i:Int}(k:Nat)(hi:i=k)(hk:k<3){K:Int→Prop}(hK:K (S.f k:Int)) :
 0≤i∧i<((3:Nat):Int)∧∃ c:Int,hY h (((⟨sb,0,none⟩:Addr).add 1).add (i.toNat*1))=some (.int .i64 c)∧K c:=by
 subst hi
 refine⟨by omega,by omega,_,?_,hK⟩
 rw[add_add,Int.toNat_natCast,Nat.mul_one]
 match k,hk with
 | 0,_=>exact r.get rfl
 | 1,_=>exact r.get rfl
 | 2,_=>exact r.get rfl
theorem blocks_spec{lo:Nat}{F:Nat→Nat}{h:Hp}{db sb:Nat}{d:Dv}{S:SlV}{ts:Sl}(x:DevAt lo F h db d)(row:Row h sb (slC db S ts))(hF:F sb=0)(i:Nat)(hi:i<2)(hr:S.f i≤S.f (i+1))(hn:S.f (i+1)≤d.n)(hsz:S.size=d.size) :
 HC Tryz.prog 118 #[.pointer (some ⟨sb,0,none⟩),.int .i64 (i:Int)] h fun r h'=>∃ (out:Sl) (rows:List (Sl × List UInt8)) (q:Int),r=.slice out.base out.len out.cap∧OwnRows h.size h' out rows∧rows.map (·.2)=zRows d (S.f i) (S.f (i+1)-S.f i)∧DevAt lo F h' db (withReads d q)∧Chg F h h':=by
 apply wc118
 unfold vc118
 have w:=x.1
 have hnz:=w.zones
 have hsz2:=w.size
 refine⟨_,rfl,slC_f row i rfl (by omega) ?_⟩
 have ei:iAdd .i64 (i:Int) (1:Int)=((i+1:Nat):Int):=by rw[iAdd64 (by omega)];push_cast;rfl
 refine⟨fun out z m h'=>∃ (j:Nat) (rows:List (Sl × List UInt8)) (q:Int),z=((S.f i+j:Nat):Int)∧m+j=S.f (i+1)-S.f i∧OwnRows h.size h' out rows∧rows.map (·.2)++zRows d (S.f i+j) (S.f (i+1)-S.f i-j)=zRows d (S.f i) (S.f (i+1)-S.f i)∧rows.length≤j*192∧DevAt lo F h' db (withReads d q)∧Chg F h h',S.f (i+1)-S.f i,
  ⟨0,[],d.reads,rfl,rfl,OwnRows.nil _ _,by simp,by simp,x,.refl _ _⟩,?_⟩
 rintro _ out _ m h1 ⟨j,rows,q,rfl,hm,o1,hrows,hlen,x1,c1⟩
 have row1:=row.chg c1 hF
 have s1:=c1.size
 refine⟨_,rfl,?_⟩
 rw[ei]
 refine slC_f row1 (i+1) rfl (by omega) (IfB.dec (fun hlt=>?_) (fun hge=>?_))
 ·refine⟨_,rfl,_,row1.get0 rfl,?_⟩
  refine(Pointer_spec x1 _).mono ?_
  rintro _ h1' ⟨hh1,⟨hno,_⟩ | ⟨k',hk',hkn,rfl⟩⟩
  ·exact absurd ⟨by omega,by show((S.f i+j:Nat):Int)<(d.n:Int);omega⟩ hno
  obtain rfl:=hh1.symm
  obtain rfl:k'=S.f i+j:=by omega
  refine⟨_,_,rfl,?_⟩
  have hzr:=(w.zone (S.f i+j)).rows
  refine⟨fun out t m h'=>∃ (k:Nat) (rows':List (Sl × List UInt8)) (q:Int),t=k∧m+k=(d.z (S.f i+j)).rows.length∧OwnRows h.size h' out rows'∧rows'.map (·.2)=rows.map (·.2)++(d.z (S.f i+j)).rows.take k∧DevAt lo F h' db (withReads d q)∧Chg F h h',(d.z (S.f i+j)).rows.length,
   ⟨0,rows,q,rfl,rfl,o1,by simp,x1,c1⟩,?_⟩
  rintro _ out2 _ m2 h2 ⟨k,rows2,q2,rfl,hm2,o2,hrows2,x2,c2⟩
  have row2:=row.chg c2 hF
  have s2:=c2.size
  have hl2:rows2.length=rows.length+min k (d.z (S.f i+j)).rows.length:=by have:=congrArg List.length hrows2;simpa using this
  refine IfB.dec (fun hlt2=>?_) (fun hge2=>?_)
  ·have hk:k<(d.z (S.f i+j)).rows.length:=by
    have:((withReads d q).z (S.f i+j)).rows.length=(d.z (S.f i+j)).rows.length:=rfl
    omega
   refine⟨_,rfl,_,row2.get0 rfl,?_⟩
   refine(Read_spec x2 _ _).mono ?_
   have hrd:(withReads d q2).read ((S.f i+j:Nat):Int) (k:Int)=(((d.z (S.f i+j)).rows.getD k [],0),(withReads d q2).read1):=by
    unfold Dv.read
    rw[if_neg (not_not_intro ⟨by omega,by show _<(d.n:Int);omega⟩),if_neg (not_not_intro ⟨by omega,by show(k:Int)<(((d.z (((S.f i+j:Nat):Int)).toNat).rows.length:Nat):Int);rw[Int.toNat_natCast];omega⟩)]
    rfl
   rw[hrd]
   rintro _ h3 ⟨u,rfl,ou,lu,x3,c3⟩
   refine⟨u,_,rfl,?_⟩
   intro h4
   have s3:=c3.size
   have F0:∀ b,h.size≤b→b<h2.size→h3[b]? = h2[b]?:=fun b hb1 hb2=>by
    refine c3.block b hb2 ?_
    rcases Nat.eq_zero_or_pos (F b) with h0 | h0
    ·exact h0
    ·have:=(x.dom b (by omega)).2;omega
   refine OwnRows.pushG rfl (o2.eq s3 F0) (by omega) ou.toRd (fun a ha=>⟨by have:=(ou.lt ha).1;omega,(ou.lt ha).2,fun a' ha'=>by have:=(ou.lt ha).1;have:=(o2.own.lt ha').2;omega⟩) (by omega) (by omega) fun r h5 o5 l5 k5 y5=>?_
   have hF5:∀ b,F b≠0→h5[b]? = h3[b]?:=fun b hb=>k5.block b (x.dom b hb).2
   refine⟨m2-1,by omega,k+1,_,_,by rw[iAdd64 (by omega)];push_cast;rfl,by omega,o5,?_,x3.keep k5.size hF5,?_⟩
   ·rw[List.map_append,hrows2,List.take_succ_eq_append_getElem hk,List.append_assoc]
    simp[List.getD_eq_getElem?_getD,hk]
   ·have c23:=c2.tr c3
    exact⟨by have:=k5.size;omega,fun b hb hFb=>by rw[k5.block b hb,c23.block b hb hFb]⟩
  ·have hk:k=(d.z (S.f i+j)).rows.length:=by
    have:((withReads d q).z (S.f i+j)).rows.length=(d.z (S.f i+j)).rows.length:=rfl
    omega
   subst hk
   rw[List.take_length]at hrows2
   refine⟨_,rfl,_,row2.get rfl,?_⟩
   have hsub:S.f (i+1)-S.f i-j=(S.f (i+1)-S.f i-(j+1))+1:=by omega
   rw[hsub,zRows]at hrows
   refine IfB.dec (fun hlt3=>?_) (fun hge3=>?_)
   ·rw[if_pos (by have:((withReads d q).z (S.f i+j)).rows.length=(d.z (S.f i+j)).rows.length:=rfl;omega),List.append_nil]at hrows
    exact⟨out2,rows2,q2,rfl,o2,by rw[hrows2,hrows],x2,c2⟩
   ·rw[if_neg (by have:((withReads d q).z (S.f i+j)).rows.length=(d.z (S.f i+j)).rows.length:=rfl;omega),← List.append_assoc,← hrows2]at hrows
    refine⟨m-1,by omega,j+1,rows2,q2,by rw[iAdd64 (by omega)];push_cast;rfl,by omega,o2,?_,by omega,x2,c2⟩
    exact hrows
 ·have hj:S.f (i+1)-S.f i-j=0:=by omega
  rw[hj]at hrows
  simp only[zRows,List.append_nil]at hrows
  exact⟨out,rows,q,rfl,o1,hrows,x1,c1⟩
def oddB(p:List UInt8):Bool:=decide ((p.getD 0 0).toNat<1∨3<(p.getD 0 0).toNat)
theorem odd_spec{h:Hp}{s:Sl}{p:List UInt8}(r:Rd 1 h s (p.map bv))(h0:0<p.length):HC Tryz.prog 119 #[.slice s.base s.len s.cap] h fun r h'=>r=.bool (oddB p)∧h'=h:=by
 apply wc119
 unfold vc119
 have hl:=r.lenB
 have hg:p[0].toNat=(p.getD 0 0).toNat:=by rw[List.getD_eq_getElem?_getD,List.getElem?_eq_getElem h0];rfl
 refine ixB r.rd hl 0 rfl h0 (IfB.dec (fun h1=>⟨?_,rfl⟩) (fun h1=>ixB r.rd hl 0 rfl h0 ⟨?_,rfl⟩))
 ·unfold oddB;rw[decide_eq_true (.inl (by omega))]
 ·unfold oddB;rw[Value.bool.injEq,decide_eq_decide];omega
structure SlotAt(F:Nat→Nat)(h:Hp)(sb db:Nat)(S:SlV)(tx:List UInt8)(ts:Sl):Prop where
 role:F sb=0
 row:Row h sb (slC db S ts)
 text:Rd 1 h ts (tx.map bv)
 tb:∀ a,ts.base=some a→F a.block=0∧a.block<h.size∧a.block≠sb
theorem SlotAt.eq{F:Nat→Nat}{h h':Hp}{sb db:Nat}{S:SlV}{tx:List UInt8}{ts:Sl}(x:SlotAt F h sb db S tx ts)(hs:h.size≤h'.size)(e1:h'[sb]? = h[sb]?)(e2:∀ a,ts.base=some a→h'[a.block]? = h[a.block]?):SlotAt F h' sb db S tx ts:=
 ⟨x.role,x.row.eq e1,x.text.eq e2,fun a ha=>⟨(x.tb a ha).1,by have:=(x.tb a ha).2.1;omega,(x.tb a ha).2.2⟩⟩
theorem SlotAt.chg{F:Nat→Nat}{h h':Hp}{sb db:Nat}{S:SlV}{tx:List UInt8}{ts:Sl}(x:SlotAt F h sb db S tx ts)(c:Chg F h h'):SlotAt F h' sb db S tx ts:=
 x.eq c.size (c.block _ x.row.lt x.role) fun a ha=>c.block _ (x.tb a ha).2.1 (x.tb a ha).1
abbrev sp(sb:Nat):Value := .pointer (some ⟨sb,0,none⟩)
abbrev PickV:=Nat × (List UInt8 × Nat)
def pick1(i:Nat)(c:List UInt8 × Nat)(p:PickV):PickV:=if p.2.2<c.2 then (i,c) else p
noncomputable def pickS(a b:List (List UInt8)):PickV:=pick1 1 (readS b) (pick1 0 (readS a) (1,([],0)))
noncomputable def pickN(a b:List (List UInt8)):Nat→PickV
 | 0=>(1,([],0))
 | 1=>pick1 0 (readS a) (1,([],0))
 | _=>pickS a b
def OpenOk(d:Dv)(low mid high:Int):Prop:=0≤low∧low<mid∧mid<high∧high≤d.n
def OpenR(lo:Nat)(F:Nat→Nat)(h:Hp)(db:Nat)(d:Dv)(low mid high:Int)(r:Value)(h':Hp):Prop:=
 (¬ OpenOk d low mid high∧r=.tuple #[.pointer none,.int .i64 1]∧Ext h h') ∨
 (OpenOk d low mid high∧∃ q,(∃ i,i<2∧(zRows d (if i=0 then low.toNat else mid.toNat) (if i=0 then mid.toNat-low.toNat else high.toNat-mid.toNat)).any oddB=true)∧r=.tuple #[.pointer none,.int .i64 13]∧DevTo lo F h h' db (withReads d q)) ∨
 (OpenOk d low mid high∧∃ q F',DevAt lo F' h' db (withReads d q).flush.2∧(∀ b,b<h.size→F' b=F b)∧Chg F h h'∧
  (zRows d low.toNat (mid.toNat-low.toNat)).any oddB=false∧(zRows d mid.toNat (high.toNat-mid.toNat)).any oddB=false∧
  ((d.flush.1≠0∧r=.tuple #[.pointer none,.int .i64 d.flush.1]) ∨
   (d.flush.1=0∧∃ sb ts,h.size≤sb∧(∀ a,ts.base=some a→sb<a.block)∧r=.tuple #[sp sb,.int .i64 0]∧
    SlotAt F' h' sb db ⟨low.toNat,mid.toNat,high.toNat,d.size,(pickS (zRows d low.toNat (mid.toNat-low.toNat)) (zRows d mid.toNat (high.toNat-mid.toNat))).1,(pickS (zRows d low.toNat (mid.toNat-low.toNat)) (zRows d mid.toNat (high.toNat-mid.toNat))).2.2,false⟩
     (pickS (zRows d low.toNat (mid.toNat-low.toNat)) (zRows d mid.toNat (high.toNat-mid.toNat))).2.1 ts)))
theorem flush_reads(d:Dv)(q:Int):(withReads d q).flush.1=d.flush.1:=by
 unfold Dv.flush
 have:(withReads d q).dead=d.dead:=rfl
 rw[this];split <;> rfl
theorem Open_spec{lo:Nat}{F:Nat→Nat}{h:Hp}{db:Nat}{d:Dv}(x:DevAt lo F h db d)(low mid high:Int) :
 HC Tryz.prog 67 #[dp db,.int .i64 low,.int .i64 mid,.int .i64 high] h (OpenR lo F h db d low mid high):=by
 apply wc67
 unfold vc67
 have w:=x.1
 have hz:=w.zones
 have hsz:=w.size
 refine(Geometry_spec x).mono ?_
 rintro _ h1 ⟨rfl,e1⟩
 refine⟨_,_,rfl,?_⟩
 intro h2
 refine loc2 rfl rfl fun h3 e3 r3=>?_
 have e03:=e1.trans e3
 refine⟨_,r3.get0 rfl,IfB.eq (fun hh=>by omega) (fun _=>?_)⟩
 refine IfB.dec (fun hh=>.inl ⟨fun k=>by have:=k.1;omega,rfl,e03⟩) (fun h1=>IfB.dec (fun hh=>.inl ⟨fun k=>by have:=k.2.1;omega,rfl,e03⟩) (fun h2=>IfB.dec (fun hh=>.inl ⟨fun k=>by have:=k.2.2.1;omega,rfl,e03⟩) (fun h3'=>⟨_,r3.get0 rfl,IfB.dec (fun hh=>.inl ⟨fun k=>by have:=k.2.2.2;omega,rfl,e03⟩) (fun h4=>⟨_,r3.get rfl,?_⟩)⟩)))
 have hok:OpenOk d low mid high:=⟨by omega,by omega,by omega,by omega⟩
 obtain⟨L,rfl⟩:∃ L:Nat,low=L:=⟨low.toNat,by omega⟩
 obtain⟨M,rfl⟩:∃ M:Nat,mid=M:=⟨mid.toNat,by omega⟩
 obtain⟨H,rfl⟩:∃ H:Nat,high=H:=⟨high.toNat,by omega⟩
 unfold OpenR
 rw[Int.toNat_natCast L,Int.toNat_natCast M,Int.toNat_natCast H]
 intro h5
 have e5:Ext h3 h5:=alc_ext _ _ _
 have e05:=e03.trans e5
 have s03:=e03.size
 have s5:h5.size=h3.size+1:=size_alc _ _ _
 have row5:Row h5 h3.size (slC db ⟨L,M,H,d.size,1,0,false⟩ Sl.nil):=Row.alc _ _ _
 have Fz:∀ b,h.size≤b→F b=0:=fun b hb=>by
  rcases Nat.eq_zero_or_pos (F b) with h0 | h0
  ·exact h0
  ·have:=(x.dom b (by omega)).2;omega
 let A:=zRows d L (M-L)
 let B:=zRows d M (H-M)
 let Z:Nat→List (List UInt8):=fun i=>if i=0 then A else B
 refine⟨fun i m h'=>∃ (j:Nat) (ts:Sl) (q:Int),i=j∧m+j=2∧Row h' h3.size (slC db ⟨L,M,H,d.size,(pickN A B j).1,(pickN A B j).2.2,false⟩ ts)∧Rd 1 h' ts ((pickN A B j).2.1.map bv)∧(∀ a,ts.base=some a→h3.size<a.block∧a.block<h'.size)∧DevAt lo F h' db (withReads d q)∧Chg F h h'∧∀ k,k<j→(Z k).any oddB=false,2,
  ⟨0,Sl.nil,d.reads,rfl,rfl,row5,Rd.nil _ _,fun a ha=>(by cases ha),x.ext e05,e05.chg F,fun k hk=>by omega⟩,?_⟩
 rintro _ _ m h6 ⟨j,ts,q,rfl,hm,row6,rt6,tb6,x6,c6,hodd⟩
 have s6:=c6.size
 refine IfB.dec (fun hlt=>?_) (fun hge=>?_)
 ·have hj:j<2:=by omega
  let S6:SlV:=⟨L,M,H,d.size,(pickN A B j).1,(pickN A B j).2.2,false⟩
  have hf1:S6.f j≤S6.f (j+1):=by
   rcases(show j=0∨j=1 by omega) with rfl | rfl
   ·show L≤M;omega
   ·show M≤H;omega
  have hf2:S6.f (j+1)≤d.n:=by
   rcases(show j=0∨j=1 by omega) with rfl | rfl
   ·show M≤d.n;omega
   ·show H≤d.n;omega
  refine(blocks_spec (S:=S6) x6 row6 (Fz _ s03) j hj hf1 hf2 rfl).mono ?_
  rintro _ h7 ⟨out,rows,q7,rfl,o7,hrows,x7,c7⟩
  have hZ:rows.map (·.2)=Z j:=by
   rw[hrows,zRows_reads]
   rcases(show j=0∨j=1 by omega) with rfl | rfl
   ·rfl
   ·rfl
  have x7':DevAt lo F h7 db (withReads d q7):=x7
  have hrl:rows.length≤1000000:=by
   have h1:=zRows_len w (S6.f j) (S6.f (j+1)-S6.f j)
   have h2:=congrArg List.length hrows
   rw[zRows_reads]at h2
   simp only[List.length_map]at h2
   have:(S6.f (j+1)-S6.f j)*192≤64*192:=Nat.mul_le_mul_right _ (by omega)
   omega
  have h64:∀ p∈rows.map (·.2),p.length=64:=by
   rw[hrows,zRows_reads]
   have:∀ k z,∀ p∈zRows d z k,p.length=64:=by
    intro k
    induction k with
    | zero=>intro z p hp;simp[zRows]at hp
    | succ k ih=>
      intro z p hp
      simp only[zRows]at hp
      rcases List.mem_append.1 hp with hp | hp
      ·exact(w.zone z).each p hp
      ·split at hp
       ·simp at hp
       ·exact ih _ p hp
   exact this _ _
  refine⟨out,rfl,?_⟩
  refine(rowsContains_spec (p:=oddB) o7.own.rd o7.len o7.each hrl fun p hp c rc=>odd_spec rc (by have:=h64 p.2 (List.mem_map.2 ⟨p,hp,rfl⟩);omega)).mono ?_
  rintro _ h7' ⟨rfl,hh⟩
  obtain rfl:=hh.symm
  have hany:(rows.any fun x=>oddB x.2)=(Z j).any oddB:=by rw[← hZ,List.any_map];rfl
  rw[hany]
  have c07:=c6.tr c7
  refine⟨_,rfl,IfB.intro (fun hodd=>.inr (.inl ⟨hok,q7,⟨j,hj,?_⟩,rfl,DevTo.of x7' c07⟩)) (fun hno=>?_)⟩
  ·rcases(show j=0∨j=1 by omega) with rfl | rfl
   ·exact hodd
   ·exact hodd
  refine(read_spec o7.own.rd o7.len o7.each hrl).mono ?_
  rw[hZ]
  rintro _ h8 ⟨e8,t,rfl,ot⟩
  have s7:=c7.size
  have s8:=e8.size
  have row7:=row6.chg c7 (Fz _ s03)
  have row8:=row7.ext e8
  have rt8:Rd 1 h8 ts ((pickN A B j).2.1.map bv):=(rt6.eq fun a ha=>c7.block _ (tb6 a ha).2 (Fz _ (by have:=(tb6 a ha).1;omega))).ext e8
  have c08:=c07.tr (e8.chg F)
  have x8:=x7'.ext e8
  have hnext:pickN A B (j+1)=pick1 j (readS (Z j)) (pickN A B j):=by
   rcases(show j=0∨j=1 by omega) with rfl | rfl
   ·rfl
   ·rfl
  have hodd':∀ k,k<j+1→(Z k).any oddB=false:=fun k hk=>by
   by_cases e:k=j
   ·subst e;exact hno
   ·exact hodd k (by omega)
  have ej:iAdd .i64 (j:Int) (1:Int)=((j+1:Nat):Int):=by rw[iAdd64 (by omega)];push_cast;rfl
  refine⟨t,_,rfl,_,rfl,_,row8.get rfl,IfB.dec (fun hgt=>?_) (fun hle=>?_)⟩
  ·have hgt':(pickN A B j).2.2<(readS (Z j)).2:=Int.ofNat_lt.1 hgt
   refine⟨_,rfl,?_⟩
   obtain⟨ok1,row9,y9,s9⟩:=row8.set (i:=5) (by simp[slC]) (.int .i64 (j:Int))
   refine⟨ok1,_,rfl,?_⟩
   obtain⟨ok2,row10,y10,s10⟩:=row9.set (i:=6) (by simp[slC]) (.slice t.base t.len t.cap)
   refine⟨ok2,_,rfl,?_⟩
   obtain⟨ok3,row11,y11,s11⟩:=row10.set (i:=7) (by simp[slC]) (.int .i64 ((readS (Z j)).2:Int))
   refine⟨ok3,m-1,by omega,j+1,t,q7,ej,by omega,?_,?_,fun a ha=>?_,?_,?_,hodd'⟩
   ·rw[hnext,pick1,if_pos hgt'];exact row11
   ·rw[hnext,pick1,if_pos hgt']
    refine ot.toRd.eq fun a ha=>?_
    have:=(ot.lt ha).1
    have hne:a.block≠h3.size:=by have:=c7.size;have:=row6.lt;omega
    rw[show(nw h3)=(⟨h3.size,0,none⟩:Addr) from rfl,y11 _ hne,y10 _ hne,y9 _ hne]
   ·have h1:=(ot.lt ha)
    have:=row6.lt
    refine⟨by omega,?_⟩
    have:(hset (hset (hset h8 ((⟨h3.size,0,none⟩:Addr).add 5) (.int .i64 (j:Int))) ((⟨h3.size,0,none⟩:Addr).add 6) (.slice t.base t.len t.cap)) ((⟨h3.size,0,none⟩:Addr).add 7) (.int .i64 ((readS (Z j)).2:Int))).size=h8.size:=by rw[s11,s10,s9]
    exact this ▸ h1.2
   ·have hs:(hset (hset (hset h8 ((⟨h3.size,0,none⟩:Addr).add 5) (.int .i64 (j:Int))) ((⟨h3.size,0,none⟩:Addr).add 6) (.slice t.base t.len t.cap)) ((⟨h3.size,0,none⟩:Addr).add 7) (.int .i64 ((readS (Z j)).2:Int))).size=h8.size:=by rw[s11,s10,s9]
    refine x8.keep (by rw[show(nw h3)=(⟨h3.size,0,none⟩:Addr) from rfl,hs];exact Nat.le_refl _) fun b hb=>?_
    have hne:b≠h3.size:=fun e=>by rw[e,Fz _ s03]at hb;exact hb rfl
    rw[show(nw h3)=(⟨h3.size,0,none⟩:Addr) from rfl,y11 _ hne,y10 _ hne,y9 _ hne]
   ·refine⟨by rw[show(nw h3)=(⟨h3.size,0,none⟩:Addr) from rfl,s11,s10,s9];exact c08.size,fun b hb hFb=>?_⟩
    have hne:b≠h3.size:=by omega
    rw[show(nw h3)=(⟨h3.size,0,none⟩:Addr) from rfl,y11 _ hne,y10 _ hne,y9 _ hne,c08.block b hb hFb]
  ·have hle':¬ (pickN A B j).2.2<(readS (Z j)).2:=fun h=>hle (Int.ofNat_lt.2 h)
   refine⟨m-1,by omega,j+1,ts,q7,ej,by omega,?_,?_,fun a ha=>⟨(tb6 a ha).1,by have:=(tb6 a ha).2;omega⟩,x8,c08,hodd'⟩
   ·rw[hnext,pick1,if_neg hle'];exact row8
   ·rw[hnext,pick1,if_neg hle'];exact rt8
 ·obtain rfl:j=2:=by omega
  refine(Flush_spec x6).mono ?_
  rintro _ h7 ⟨rfl,F',x7,g7,c7⟩
  rw[flush_reads]
  have c07:=c6.tr c7
  have g07:∀ b,b<h.size→F' b=F b:=fun b hb=>g7 b (by omega)
  have hA:A.any oddB=false:=hodd 0 (by omega)
  have hB:B.any oddB=false:=hodd 1 (by omega)
  refine⟨_,rfl,IfB.ne (fun hne=>.inr (.inr ⟨hok,q,F',x7,g07,c07,hA,hB,.inl ⟨hne,rfl⟩⟩)) (fun heq=>.inr (.inr ⟨hok,q,F',x7,g07,c07,hA,hB,.inr ⟨heq,h3.size,ts,s03,fun a ha=>(tb6 a ha).1,rfl,?_⟩⟩))⟩
  have sl:SlotAt F h6 h3.size db ⟨L,M,H,d.size,(pickS A B).1,(pickS A B).2.2,false⟩ (pickS A B).2.1 ts:=
   ⟨Fz _ s03,row6,rt6,fun a ha=>⟨Fz _ (by have:=(tb6 a ha).1;omega),(tb6 a ha).2,by have:=(tb6 a ha).1;omega⟩⟩
  have sl7:=sl.chg c7
  exact⟨by rw[g7 _ row6.lt];exact sl.role,sl7.row,sl7.text,fun a ha=>⟨by rw[g7 _ (sl.tb a ha).2.1];exact(sl.tb a ha).1,(sl7.tb a ha).2⟩⟩
def chunkL(t:List UInt8)(k:Nat):List UInt8:=(t.drop (40*k)).take 40
def nCh(t:List UInt8):Nat:=(t.length+39) / 40
abbrev BQ:=(Nat × Nat) × (Sl × List UInt8)
def cq(n:Nat)(L:List BQ):List Value:=L.flatMap fun x=>blkV x.1.1 0 n x.1.2 x.2.1
def encQ(n:Nat)(x:BQ):List UInt8:=encOf (preL x.1.1 0 n x.1.2 x.2.2)
def encS(n:Nat)(t:List UInt8):List (List UInt8):=encOf (preL 3 0 n 0 [])::((List.range (nCh t)).map (fun k=>encOf (preL 1 0 n 0 (chunkL t k))) ++ [encOf (preL 2 0 n (nCh t) (tailL t))])
theorem encS_len(n:Nat)(t:List UInt8):(encS n t).length=nCh t+2:=by simp[encS]
theorem chunkL_len(t:List UInt8)(k:Nat):(chunkL t k).length≤40:=by unfold chunkL;simp;omega
theorem tailL_len(t:List UInt8):(tailL t).length=8:=by simp[tailL,leB_length]
theorem cq_cons(n:Nat)(x:BQ)(D:List BQ):cq n (x::D)=blkV x.1.1 0 n x.1.2 x.2.1++cq n D:=rfl
theorem cq_length(n:Nat):∀ D,(cq n D).length=D.length*5
 | []=>rfl
 | x::D=>by rw[cq_cons,List.length_append,cq_length n D];simp only[blkV,List.length_cons,List.length_nil];omega
theorem cq_append(n:Nat)(a b:List BQ):cq n (a++b)=cq n a++cq n b:=by simp[cq]
theorem cq_get(n:Nat):∀ (D:List BQ) (i j:Nat),j<5→(cq n D)[i*5+j]? =(D[i]?).bind fun x=>(blkV x.1.1 0 n x.1.2 x.2.1)[j]?
 | [],i,j,_=>by simp[cq]
 | x::D,0,j,h=>by rw[cq_cons,List.getElem?_append_left (by simp only[blkV,List.length_cons,List.length_nil];omega)];simp
 | x::D,i+1,j,h=>by
   rw[cq_cons,List.getElem?_append_right (by simp only[blkV,List.length_cons,List.length_nil];omega),show(i+1)*5+j-(blkV x.1.1 0 n x.1.2 x.2.1).length=i*5+j by simp only[blkV,List.length_cons,List.length_nil];omega,cq_get n D i j h];simp
theorem ixq{h:Hp}{s:Sl}{n:Nat}{D:List BQ}(r:Rd 5 h s (cq n D)){i:Int}(k:Nat)(hi:i=k)(hk:k<D.length){K:Int→Int→Int→Int→Sl→Prop}
 (hK:K D[k].1.1 0 n D[k].1.2 D[k].2.1):∃ a:Addr,s.base=some a∧0≤i∧i<(s.len:Int)∧
  ∃ c8:Int,∃ c9:Int,∃ c10:Int,∃ c11:Int,∃ c12:Sl,hY h (a.add (i.toNat*5))=some (.int .i64 c8)∧hY h ((a.add (i.toNat*5)).add 1)=some (.int .i64 c9)∧hY h ((a.add (i.toNat*5)).add 2)=some (.int .i64 c10)∧hY h ((a.add (i.toNat*5)).add 3)=some (.int .i64 c11)∧hY h ((a.add (i.toNat*5)).add 4)=some (.slice c12.base c12.len c12.cap)∧K c8 c9 c10 c11 c12:=by
 subst hi
 have hl:=r.len
 rw[cq_length]at hl
 have g:∀ j,j<5→(cq n D)[k*5+j]? =(blkV D[k].1.1 0 n D[k].1.2 D[k].2.1)[j]?:=fun j hj=>by
  rw[cq_get n D k j hj,List.getElem?_eq_getElem hk];rfl
 obtain⟨a,ha,h0⟩:=r.rd (k*5+0) _ (by rw[g 0 (by omega)];rfl)
 obtain⟨a1,ha1,h1⟩:=r.rd (k*5+1) _ (by rw[g 1 (by omega)];rfl)
 obtain⟨a2,ha2,h2⟩:=r.rd (k*5+2) _ (by rw[g 2 (by omega)];rfl)
 obtain⟨a3,ha3,h3⟩:=r.rd (k*5+3) _ (by rw[g 3 (by omega)];rfl)
 obtain⟨a4,ha4,h4⟩:=r.rd (k*5+4) _ (by rw[g 4 (by omega)];rfl)
 rw[ha]at ha1 ha2 ha3 ha4
 cases ha1;cases ha2;cases ha3;cases ha4
 exact⟨a,ha,by omega,by omega,_,_,_,_,_,by simpa using h0,by rw[add_add];simpa using h1,by rw[add_add];simpa using h2,by rw[add_add];simpa using h3,by rw[add_add];simpa using h4,hK⟩
noncomputable def Dv.wr(d:Dv)(lo hi size n:Nat)(t:List UInt8):Int × Dv:=
 if (d.clear lo (hi-lo)).1≠0 then d.clear lo (hi-lo) else
 if ((d.clear lo (hi-lo)).2.puts lo size 0 (encS n t)).1≠0 then (d.clear lo (hi-lo)).2.puts lo size 0 (encS n t) else ((d.clear lo (hi-lo)).2.puts lo size 0 (encS n t)).2.flush
theorem write_spec{lo:Nat}{F:Nat→Nat}{h:Hp}{db sb:Nat}{d:Dv}{S:SlV}{ts tl:Sl}{t:List UInt8}(x:DevAt lo F h db d)(hlo:lo≤h.size)(row:Row h sb (slC db S ts))(hF:F sb=0)(i:Nat)(hi:i<2)(hr:S.f i≤S.f (i+1))(hn:S.f (i+1)≤d.n)(hsz:1≤S.size)
 (n:Nat) (hn40:n≤1099511627776) (rt:Rd 1 h tl (t.map bv)) (tb:∀ a,tl.base=some a→F a.block=0∧a.block<h.size) (htl:t.length≤1000000) :
 HC Tryz.prog 159 #[sp sb,.int .i64 (i:Int),.int .i64 (n:Int),.slice tl.base tl.len tl.cap] h fun r h'=>r=.int .i64 (d.wr (S.f i) (S.f (i+1)) S.size n t).1∧DevTo lo F h h' db (d.wr (S.f i) (S.f (i+1)) S.size n t).2:=by
 apply wc159
 unfold vc159
 have w:=x.1
 have hnz:=w.zones
 have ltl:=rt.lenB
 have hcap:=rt.cap
 refine⟨_,rfl,slC_f row i rfl (by omega) ?_⟩
 have ei:iAdd .i64 (i:Int) (1:Int)=((i+1:Nat):Int):=by rw[iAdd64 (by omega)];push_cast;rfl
 have hsb:=row.lt
 refine⟨fun z m h'=>∃ (j:Nat) (F':Nat→Nat) (d':Dv),z=((S.f i+j:Nat):Int)∧m+j=S.f (i+1)-S.f i∧d.clear (S.f i) (S.f (i+1)-S.f i)=d'.clear (S.f i+j) (S.f (i+1)-S.f i-j)∧d'.n=d.n∧DevAt lo F' h' db d'∧(∀ b,b<h.size→F' b=F b)∧Chg F h h',S.f (i+1)-S.f i,
  ⟨0,F,d,rfl,rfl,rfl,rfl,x,fun _ _=>rfl,.refl _ _⟩,?_⟩
 rintro _ _ m h1 ⟨j,F1,d1,rfl,hm,hcl,hn1,x1,g1,c1⟩
 have row1:=row.chg c1 hF
 refine⟨_,rfl,?_⟩
 rw[ei]
 refine slC_f row1 (i+1) rfl (by omega) (IfB.dec (fun hlt=>?_) (fun hge=>?_))
 ·refine⟨_,rfl,_,row1.get0 rfl,?_⟩
  have hsub:S.f (i+1)-S.f i-j=(S.f (i+1)-S.f i-(j+1))+1:=by omega
  rw[hsub,Dv.clear]at hcl
  have ez:iAdd .i64 ((S.f i+j:Nat):Int) (1:Int)=((S.f i+(j+1):Nat):Int):=by rw[iAdd64 (by omega)];push_cast;omega
  refine(Pointer_spec x1 _).mono ?_
  rintro _ h1' ⟨hh1,⟨hno,_⟩ | ⟨k',hk',hkn,rfl⟩⟩
  ·exact absurd ⟨by omega,by rw[hn1];omega⟩ hno
  obtain rfl:=hh1.symm
  obtain rfl:k'=S.f i+j:=by omega
  refine⟨_,_,rfl,IfB.dec (fun hpos=>?_) (fun hz=>?_)⟩
  ·rw[if_neg (by omega)]at hcl
   refine⟨_,rfl,_,row1.get0 rfl,?_⟩
   refine(Reset_spec x1 _).mono ?_
   rintro _ h2 ⟨rfl,t2⟩
   refine⟨_,rfl,IfB.ne (fun hne=>?_) (fun heq=>?_)⟩
   ·rw[if_pos hne]at hcl
    unfold Dv.wr
    rw[hcl,if_pos hne]
    exact⟨rfl,DevTo.trans g1 c1 t2⟩
   ·rw[if_neg (by omega)]at hcl
    obtain⟨F2,x2,g2,c2⟩:=DevTo.trans g1 c1 t2
    exact⟨m-1,by omega,j+1,F2,_,ez,by omega,hcl,by rw[reset_n,hn1],x2,g2,c2⟩
  ·rw[if_pos (by omega)]at hcl
   exact⟨m-1,by omega,j+1,F1,d1,ez,by omega,hcl,hn1,x1,g1,c1⟩
 have hj:S.f (i+1)-S.f i-j=0:=by omega
 rw[hj,Dv.clear]at hcl
 have s1:=c1.size
 have hF1:F1 sb=0:=by rw[g1 _ hsb];exact hF
 have rt1:Rd 1 h1 tl (t.map bv):=rt.eq fun a ha=>c1.block _ (tb a ha).2 (tb a ha).1
 intro h2
 have e2:Ext h1 h2:=alc_ext _ _ _
 have F1z:∀ b,h1.size≤b→F1 b=0:=fun b hb=>by
  rcases Nat.eq_zero_or_pos (F1 b) with h0 | h0
  ·exact h0
  ·have:=(x1.dom b (by omega)).2;omega
 let dq:Nat→BQ:=fun k=>((1,0),(cutSl tl ((40*k:Nat):Int) ((40*k+(chunkL t k).length:Nat):Int) (tl.cap:Int) 1,chunkL t k))
 let hq:BQ:=((3,0),(Sl.nil,[]))
 have hcl40:∀ k,40*k≤t.length→(chunkL t k).length=min 40 (t.length-40*k):=fun k hk=>by unfold chunkL;simp
 refine⟨fun l vat m h'=>∃ k:Nat,vat=((40*k:Nat):Int)∧m+k=nCh t∧Ext h1 h'∧Own h1.size 5 h' l (cq n (hq::(List.range k).map dq)),nCh t,
  ⟨0,rfl,rfl,e2,Own.alc h1 _ _ 1 5 rfl⟩,?_⟩
 rintro _ l _ m2 h3 ⟨k,rfl,hmk,e3,ol⟩
 have s3:=e3.size
 have hnc:nCh t=(t.length+39) / 40:=rfl
 have ll:l.len=k+1:=by have:=ol.len;rw[cq_length]at this;simp at this;omega
 refine IfB.dec (fun hlt=>?_) (fun hge=>?_)
 ·have hmin:(if (tl.len:Int)<(iAdd .i64 ((40*k:Nat):Int) (40:Int)) then (tl.len:Int) else (iAdd .i64 ((40*k:Nat):Int) (40:Int)))=((40*k+(chunkL t k).length:Nat):Int):=by
   have:=hcl40 k (by omega)
   rw[iAdd64 (by omega)]
   split <;> omega
  rw[hmin]
  have hck:=hcl40 k (by omega)
  refine⟨by omega,by omega,by omega,by omega,?_⟩
  intro h4
  refine AppC_own5 (news:=blkV 1 0 n 0 (dq k).2.1) (l:=cq n (hq::(List.range k).map dq)) rfl (ol.ext (alc_ext h3 _ _)) (by rw[size_alc];omega) rfl (RdC.alc h3 _ _) (blkV_ok _ _ _ _ _) (by rw[ll];simp only;omega) (by rw[ll];simp only;omega) fun r h5 o5 l5 k5 _ _=>?_
  refine⟨m2-1,by omega,k+1,by rw[iAdd64 (by omega)];push_cast;omega,by omega,(e3.toKeep.trans ((alc_ext h3 _ _).keep (by omega) |>.trans k5)).ext,?_⟩
  have:cq n (hq::(List.range (k+1)).map dq)=cq n (hq::(List.range k).map dq)++blkV 1 0 n 0 (dq k).2.1:=by
   rw[List.range_succ,List.map_append,← List.cons_append,cq_append];simp[cq,dq]
  rw[this];exact o5
 have hk:k=nCh t:=by omega
 subst hk
 refine(tail_spec (rt1.ext e3) (by omega)).mono ?_
 rintro _ h4 ⟨tt,rfl,ott,ltt,e4⟩
 refine⟨tt,rfl,?_⟩
 have s4:=e4.size
 have elb:iSub .i64 (l.len:Int) (1:Int)=((nCh t:Nat):Int):=by rw[iSub64 (by omega)];omega
 rw[elb]
 intro h5
 let cm:BQ:=((2,nCh t),(tt,tailL t))
 let L:List BQ:=(hq::(List.range (nCh t)).map dq) ++ [cm]
 refine AppC_own5 (news:=blkV 2 0 n (nCh t) tt) (l:=cq n (hq::(List.range (nCh t)).map dq)) rfl ((ol.ext e4).ext (alc_ext h4 _ _)) (by rw[size_alc];omega) rfl (RdC.alc h4 _ _) (blkV_ok _ _ _ _ _) (by rw[ll];simp only;omega) (by rw[ll];simp only;omega) fun s2 h6 o6 l6 k6 y6 _=>?_
 have hcqL:cq n (hq::(List.range (nCh t)).map dq)++blkV 2 0 n (nCh t) tt=cq n L:=by
  show _=cq n ((hq::(List.range (nCh t)).map dq) ++ [cm]);rw[cq_append];simp[cq,cm]
 rw[hcqL]at o6
 have e16:Ext h1 h6:=(e3.toKeep.trans ((e4.trans (alc_ext h4 _ _)).keep (by omega) |>.trans k6)).ext
 have hLl:L.length=nCh t+2:=by simp[L]
 have hLenc:L.map (encQ n)=encS n t:=by
  simp only[L,List.map_cons,List.map_append,List.map_map,List.map_nil,List.cons_append,encS]
  rfl
 have l6':s2.len=nCh t+2:=by simp only at l6;omega
 have s6:=e16.size
 have s46:h4.size≤h6.size:=by have:=k6.size;have:=(alc_ext h4 (blkV 2 0 n (nCh t) tt) 260).size;exact Nat.le_trans this (by assumption)
 have x6:=x1.ext e16
 have body:∀ y (hy:y<L.length),okB L[y].1.1 0 n L[y].1.2∧L[y].2.2.length≤40∧Rd 1 h6 L[y].2.1 (L[y].2.2.map bv)∧∀ a,L[y].2.1.base=some a→F1 a.block=0∧a.block<h6.size:=by
  intro y hy
  rcases Nat.lt_trichotomy y (nCh t+1) with h1' | h1' | h1'
  ·rcases Nat.eq_zero_or_pos y with h0 | h0
   ·subst h0
    exact⟨⟨by show(1:Int)≤((3:Nat):Int)∧((3:Nat):Int)≤4;omega,by omega,by omega,by show(0:Int)≤((0:Nat):Int)∧((0:Nat):Int)≤1048576;omega⟩,Nat.zero_le _,Rd.nil _ _,fun a ha=>(by cases ha)⟩
   ·obtain⟨z,rfl⟩:∃ z,y=z+1:=⟨y-1,by omega⟩
    have hLy:L[z+1]=dq z:=by
     simp only[L,List.cons_append,List.getElem_cons_succ]
     rw[List.getElem_append_left (by simp;omega),List.getElem_map,List.getElem_range]
    rw[hLy]
    have hcz:=hcl40 z (by omega)
    refine⟨⟨by show(1:Int)≤((1:Nat):Int)∧((1:Nat):Int)≤4;omega,by omega,by omega,by show(0:Int)≤((0:Nat):Int)∧((0:Nat):Int)≤1048576;omega⟩,chunkL_len t z,?_,fun a ha=>?_⟩
    ·have:=(rt1.ext e16).cutB (lo:=40*z) (hi:=40*z+(chunkL t z).length) (m:=tl.cap) (by omega) (by omega) (by omega)
     have hc:((t.drop (40*z)).take (40*z+(chunkL t z).length-40*z))=chunkL t z:=by
      rw[Nat.add_sub_cancel_left];unfold chunkL;rw[List.length_take]
      rcases Nat.le_total 40 (t.drop (40*z)).length with h | h
      ·rw[Nat.min_eq_left h]
      ·rw[Nat.min_eq_right h,List.take_of_length_le (Nat.le_refl _),List.take_of_length_le h]
     rw[hc]at this
     exact this
    ·obtain⟨a',ha',hab⟩:∃ a',tl.base=some a'∧a.block=a'.block:=by
      simp only[dq,cutSl]at ha
      split at ha
      ·exact⟨a,ha,rfl⟩
      ·obtain⟨a',ha',rfl⟩:=Option.map_eq_some_iff.1 ha
       exact⟨a',ha',add_block _ _⟩
     rw[hab,g1 _ (tb a' ha').2]
     exact⟨(tb a' ha').1,by have:=(tb a' ha').2;omega⟩
  ·subst h1'
   have hLy:L[nCh t+1]=cm:=by
    simp only[L,List.cons_append,List.getElem_cons_succ]
    rw[List.getElem_append_right (by simp)];simp
   rw[hLy]
   refine⟨⟨by show(1:Int)≤((2:Nat):Int)∧((2:Nat):Int)≤4;omega,by omega,by omega,by show(0:Int)≤((nCh t:Nat):Int)∧((nCh t:Nat):Int)≤_;omega⟩,by show(tailL t).length≤40;rw[tailL_len];omega,?_,fun a ha=>?_⟩
   ·refine(ott.toRd.ext (alc_ext h4 (blkV 2 0 n (nCh t) tt) 260)).eq fun a ha=>y6 _ (by have:=(ott.lt ha).2;have:=(alc_ext h4 (blkV 2 0 n (nCh t) tt) 260).size;exact Nat.lt_of_lt_of_le (by assumption) this) fun a' ha'=>?_
    have h1:=(ott.lt ha).1
    have h2:=(ol.lt ha').2
    omega
   ·have:=(ott.lt ha);exact⟨F1z _ (by omega),by omega⟩
  ·omega
 have rq6:=o6.toRd
 have hF6:∀ b,h1.size≤b→F1 b=0:=F1z
 refine⟨fun y m h'=>∃ (k:Nat) (F':Nat→Nat) (d':Dv),y=k∧m+k=L.length∧(d1.puts (S.f i) S.size 0 (encS n t)=d'.puts (S.f i) S.size k ((encS n t).drop k))∧DevAt lo F' h' db d'∧(∀ b,b<h6.size→F' b=F1 b)∧Chg F1 h6 h',L.length,
  ⟨0,F1,d1,rfl,rfl,by rw[List.drop_zero],x6,fun _ _=>rfl,.refl _ _⟩,?_⟩
 rintro _ _ m7 h7 ⟨k,F7,d7,rfl,hmk7,hp7,x7,g7,c7⟩
 have s7:=c7.size
 have row7:Row h7 sb (slC db S ts):=(row1.ext e16).chg c7 hF1
 have hsb7:=row7.lt
 have hF7:F7 sb=0:=by rw[g7 _ (by omega)];exact hF1
 have g07:∀ b,b<h.size→F7 b=F b:=fun b hb=>by rw[g7 b (by omega),g1 b hb]
 have c07:Chg F h h7:=(c1.trans g1 (e16.chg F1)).trans g1 c7
 refine IfB.dec (fun hlt=>?_) (fun hge=>?_)
 ·have hk:k<L.length:=by omega
  have hke:k<(encS n t).length:=by rw[encS_len];omega
  obtain⟨bok,bl,brd,bb⟩:=body k hk
  have rq7:Rd 5 h7 s2 (cq n L):=rq6.eq fun a ha=>c7.block _ (o6.lt ha).2 (hF6 _ (o6.lt ha).1)
  have brd7:Rd 1 h7 L[k].2.1 (L[k].2.2.map bv):=brd.eq fun a ha=>c7.block _ (bb a ha).2 (bb a ha).1
  refine ixq rq7 k rfl hk ?_
  intro h8
  refine put5 fun h9 e9 r9=>r9.get5 ?_
  refine(Encode_spec _ _ _ _ (brd7.ext e9)).mono ?_
  have henc:(encS n t)[k]=encOf (preL L[k].1.1 0 n L[k].1.2 L[k].2.2):=by
   have:(L.map (encQ n))[k]? =(encS n t)[k]?:=by rw[hLenc]
   rw[List.getElem?_map,List.getElem?_eq_getElem hk,List.getElem?_eq_getElem hke]at this
   exact(Option.some.inj this).symm
  rintro _ h10 ⟨e10,⟨hno,_⟩ | ⟨_,hno,_⟩ | ⟨_,_,p,rfl,op,lp⟩⟩
  ·exact absurd bok hno
  ·omega
  refine⟨p,_,rfl,?_⟩
  have hpe:encOf (preL ((L[k].1.1:Nat):Int).toNat (0:Int).toNat ((n:Nat):Int).toNat ((L[k].1.2:Nat):Int).toNat L[k].2.2)=(encS n t)[k]:=by
   rw[henc];simp only[Int.toNat_natCast];rfl
  rw[hpe]at op
  have e710:=e9.trans e10
  have x10:=x7.ext e710
  have row10:=row7.ext e710
  have s9:=e9.size
  have hd:(encS n t).drop k=(encS n t)[k]::(encS n t).drop (k+1):=List.drop_eq_getElem_cons hke
  rw[hd,Dv.puts]at hp7
  have ez:iAdd .i64 ((S.f i:Nat):Int) (iQuo .i64 (k:Int) (S.size:Int))=((S.f i+k / S.size:Nat):Int):=by
   have hq:k / S.size≤k:=Nat.div_le_self _ _
   have:(k:Int).tdiv (S.size:Int)=((k / S.size:Nat):Int):=by rw[Int.tdiv_eq_ediv_of_nonneg (by omega)];rfl
   rw[iQuo64 (by omega),this]
   generalize k / S.size=q at hq ⊢
   rw[iAdd64 (by omega)];push_cast;rfl
  refine⟨fun e h'=>e=(d7.append ((S.f i+k / S.size:Nat):Int) (encS n t)[k]).1.2∧DevTo lo F7 h7 h' db (d7.append ((S.f i+k / S.size:Nat):Int) (encS n t)[k]).2,?_,?_⟩
  ·refine .yes rfl ?_
   obtain⟨ob,hob,rob⟩:=row10.only
   refine⟨onlyB sb ob,sub_only hob,_,rfl,_,rob.get0 rfl,_,rfl,slC_f rob i rfl (by omega) ⟨_,rfl,_,rob.get rfl,by omega,?_⟩⟩
   rw[ez]
   refine(Append_spec x10 (by have:=c1.size;have:=e710.size;omega) _ op.toRd fun a ha=>?_).mono ?_
   ·rcases Nat.eq_zero_or_pos (F7 a.block) with h0 | h0
    ·exact h0
    ·have:=(x7.dom a.block (by omega)).2;have:=(op.lt ha).1;omega
   ·rintro _ h11 ⟨rfl,t11⟩
    refine⟨_,_,rfl,?_,rfl,DevTo.trans (fun _ _=>rfl) (e710.chg F7) t11⟩
    obtain⟨F11,x11,g11,c11⟩:=t11
    exact sub_only (by rw[c11.block sb row10.lt hF7];exact hob)
  ·rintro _ e h11 ⟨rfl,t11⟩
   refine IfB.ne (fun hne=>?_) (fun heq=>?_)
   ·rw[if_pos hne]at hp7
    unfold Dv.wr
    rw[hcl,if_neg (by simp),hp7,if_pos hne]
    exact⟨rfl,DevTo.trans g07 c07 t11⟩
   ·rw[if_neg (by omega)]at hp7
    obtain⟨F11,x11,g11,c11⟩:=DevTo.trans g7 c7 t11
    exact⟨m7-1,by omega,k+1,F11,_,by rw[iAdd64 (by omega)];push_cast;rfl,by omega,hp7,x11,g11,c11⟩
 ·have hk:k=L.length:=by omega
  rw[List.drop_of_length_le (by rw[encS_len];omega),Dv.puts]at hp7
  refine⟨_,rfl,_,row7.get0 rfl,?_⟩
  refine(Flush_spec x7).mono ?_
  rintro _ h8 ⟨rfl,t8⟩
  refine⟨_,rfl,?_⟩
  unfold Dv.wr
  rw[hcl,if_neg (by simp),hp7,if_neg (by simp)]
  exact⟨rfl,DevTo.trans g07 c07 t8⟩
end Go.Proofs.YtdpdkpfnfllipaaGreatDoor
