/- A part of the proof, no condition. -/
import Derived.Test.YtdpdkpfnfllipaaGreatDoorE11
import Derived.Test.YtdpdkpfnfllipaaGreatDoorE13
import Derived.Test.YtdpdkpfnfllipaaGreatDoorE14
set_option linter.unusedVariables false
set_option linter.unusedSimpArgs false
namespace Go.Proofs.YtdpdkpfnfllipaaGreatDoor
def SlV.room(S:SlV):Int:=40*((if (S.f2:Int)-S.f1<(S.f1:Int)-S.f0 then (S.f2:Int)-S.f1 else (S.f1:Int)-S.f0)*S.size-2)
structure SlV.Ok(S:SlV):Prop where
 f01:S.f0≤S.f1
 f12:S.f1≤S.f2
 f2:S.f2≤64
 size:1≤S.size∧S.size≤192
 inn:S.inn≤1
 count:S.count<1099511627776
theorem SlotAt.dev{F F':Nat→Nat}{h h':Hp}{sb db:Nat}{S:SlV}{tx:List UInt8}{ts:Sl}(x:SlotAt F h sb db S tx ts)(c:Chg F h h')(g:∀ b,b<h.size→F' b=F b):SlotAt F' h' sb db S tx ts:=
 ⟨by rw[g _ x.row.lt];exact x.role,(x.chg c).row,(x.chg c).text,fun a ha=>⟨by rw[g _ (x.tb a ha).2.1];exact(x.tb a ha).1,((x.chg c).tb a ha).2⟩⟩
theorem SlV.Ok.f{S:SlV}(o:S.Ok)(i:Nat)(hi:i<2):S.f i≤S.f (i+1):=by
 have:=o.f01
 have:=o.f12
 rcases(show i=0∨i=1 by omega) with rfl | rfl
 ·show S.f0≤S.f1;omega
 ·show S.f1≤S.f2;omega
theorem SlV.Ok.f2'{S:SlV}(o:S.Ok)(i:Nat)(hi:i≤2):S.f i≤S.f2:=by
 have:=o.f01
 have:=o.f12
 rcases(show i=0∨i=1∨i=2 by omega) with rfl | rfl | rfl
 ·show S.f0≤S.f2;omega
 ·show S.f1≤S.f2;omega
 ·show S.f2≤S.f2;omega
theorem Room_spec{h:Hp}{sb db:Nat}{S:SlV}{ts:Sl}(row:Row h sb (slC db S ts))(o:S.Ok):HC Tryz.prog 157 #[sp sb] h fun r h'=>r=.int .i64 S.room∧h'=h:=by
 apply wc157
 unfold vc157
 have h1:=o.f01
 have h2:=o.f12
 have h3:=o.f2
 have h4:=o.size
 refine .no rfl ⟨_,rfl,_,row.get0 rfl,.no rfl ⟨_,rfl,?_⟩⟩
 refine slC_f row 1 rfl (by omega) ⟨_,rfl,slC_f row 0 rfl (by omega) ⟨_,rfl,slC_f row 2 rfl (by omega) ⟨_,rfl,slC_f row 1 rfl (by omega) ⟨_,rfl,_,row.get rfl,?_,rfl⟩⟩⟩⟩
 show Value.int .i64 (iMul .i64 (40:Int) (iSub .i64 (iMul .i64 (if (iSub .i64 (S.f2:Int) (S.f1:Int))<(iSub .i64 (S.f1:Int) (S.f0:Int)) then (iSub .i64 (S.f2:Int) (S.f1:Int)) else (iSub .i64 (S.f1:Int) (S.f0:Int))) (S.size:Int)) (2:Int)))=_
 have k1:iSub .i64 (S.f2:Int) (S.f1:Int)=(S.f2:Int)-S.f1:=iSub64 (by omega)
 have k2:iSub .i64 (S.f1:Int) (S.f0:Int)=(S.f1:Int)-S.f0:=iSub64 (by omega)
 rw[k1,k2]
 unfold SlV.room
 generalize hg:(if (S.f2:Int)-S.f1<(S.f1:Int)-S.f0 then (S.f2:Int)-S.f1 else (S.f1:Int)-S.f0)=g
 have hg0:0≤g∧g≤64:=by rw[← hg];split <;> omega
 have hm1:0≤g*S.size:=Int.mul_nonneg hg0.1 (by omega)
 have hm2:g*S.size≤64*192:=Int.mul_le_mul hg0.2 (by omega) (by omega) (by omega)
 have k3:iMul .i64 g (S.size:Int)=g*S.size:=iMul64 (by omega)
 rw[k3,iSub64 (by omega),iMul64 (by omega)]
theorem Dead_spec{h:Hp}{sb db:Nat}{S:SlV}{ts:Sl}(row:Row h sb (slC db S ts)):HC Tryz.prog 158 #[sp sb] h fun r h'=>r=.bool S.off∧h'=h:=by
 apply wc158
 unfold vc158
 exact .no rfl ⟨_,rfl,_,row.get0 rfl,.no rfl ⟨_,rfl,_,row.get rfl,rfl,rfl⟩⟩
theorem Load_spec{h:Hp}{sb db:Nat}{S:SlV}{ts:Sl}{tx:List UInt8}(row:Row h sb (slC db S ts))(rt:Rd 1 h ts (tx.map bv))(hm:tx.length≤1000000):HC Tryz.prog 68 #[sp sb] h fun r h'=>∃ t:Sl,r=.tuple #[.slice t.base t.len t.cap,.int .i64 (S.count:Int)]∧Own h.size 1 h' t (tx.map bv)∧t.len=tx.length∧Ext h h':=by
 apply wc68
 unfold vc68
 refine .no rfl ⟨_,rfl,ts,row.get rfl,_,rfl,_,row.get rfl,?_⟩
 refine(slClone_spec rt (by omega)).mono ?_
 rintro _ h1 ⟨u,rfl,ou,lu,e1⟩
 exact⟨u,rfl,e1,u,rfl,ou,lu,e1⟩
open Classical in
noncomputable def saveV (d:Dv) (S:SlV) (tx t:List UInt8):Int × Dv × SlV × List UInt8:=
 if S.room<(t.length:Int) then (7,d,S,tx) else
 if S.off=true then (12,d,S,tx) else
 if (d.wr (S.f (1-S.inn)) (S.f (1-S.inn+1)) S.size (S.count+1) t).1≠0 then ((d.wr (S.f (1-S.inn)) (S.f (1-S.inn+1)) S.size (S.count+1) t).1,(d.wr (S.f (1-S.inn)) (S.f (1-S.inn+1)) S.size (S.count+1) t).2,{ S with off:=true },tx) else
 (0,(d.wr (S.f (1-S.inn)) (S.f (1-S.inn+1)) S.size (S.count+1) t).2,{ S with inn:=1-S.inn,count:=S.count+1 },t)
def SaveR(lo:Nat)(F:Nat→Nat)(h:Hp)(sb db:Nat)(ts:Sl)(v:Int × Dv × SlV × List UInt8)(r:Value)(h':Hp):Prop:=
 r=.int .i64 v.1∧∃ F' ts',DevAt lo F' h' db v.2.1∧SlotAt F' h' sb db v.2.2.1 v.2.2.2 ts'∧h.size≤h'.size∧(∀ b,b<h.size→F' b=F b)∧(∀ b,b<h.size→F b=0→b≠sb→h'[b]? = h[b]?)∧∀ a,ts'.base=some a→ts.base=some a∨h.size≤a.block
theorem store3{h:Hp}{sb db:Nat}{S:SlV}{ts u:Sl}(row:Row h sb (slC db S ts)){v5 v7:Int}(i5 i7:Nat)(h5:v5=i5)(h7:v7=i7){K:Hp→Prop}
 (hK:∀ h',Row h' sb (slC db { S with inn:=i5,count:=i7 } u)→h'.size=h.size→(∀ b,b≠sb→h'[b]? = h[b]?)→K h') :
 ∃ a5:Addr,(some ⟨sb,0,none⟩:Option Addr)=some a5∧
  StOk h (a5.add 5)∧
  Lt (hset h (a5.add 5) (.int .i64 v5)) fun vh5=>
  True∧
  ∃ a6:Addr,(some ⟨sb,0,none⟩:Option Addr)=some a6∧
  StOk vh5 (a6.add 6)∧
  Lt (hset vh5 (a6.add 6) (.slice u.base u.len u.cap)) fun vh6=>
  True∧
  ∃ a7:Addr,(some ⟨sb,0,none⟩:Option Addr)=some a7∧
  StOk vh6 (a7.add 7)∧
  Lt (hset vh6 (a7.add 7) (.int .i64 v7)) fun vh7=>K vh7:=by
 subst h5 h7
 obtain⟨ok1,row1,y1,s1⟩:=row.set (i:=5) (by simp[slC]) (.int .i64 (i5:Int))
 obtain⟨ok2,row2,y2,s2⟩:=row1.set (i:=6) (by simp[slC]) (.slice u.base u.len u.cap)
 obtain⟨ok3,row3,y3,s3⟩:=row2.set (i:=7) (by simp[slC]) (.int .i64 (i7:Int))
 exact⟨_,rfl,ok1,trivial,_,rfl,ok2,trivial,_,rfl,ok3,hK _ row3 (by rw[s3,s2,s1]) fun b hb=>by rw[y3 b hb,y2 b hb,y1 b hb]⟩
theorem Save_spec{lo:Nat}{F:Nat→Nat}{h:Hp}{sb db:Nat}{d:Dv}{S:SlV}{tx t:List UInt8}{ts tl:Sl}(x:DevAt lo F h db d)(hlo:lo≤h.size)(sl:SlotAt F h sb db S tx ts)(o:S.Ok)(hn:S.f2≤d.n)(rt:Rd 1 h tl (t.map bv))(tb:∀ a,tl.base=some a→F a.block=0∧a.block<h.size∧a.block≠sb)(htl:t.length≤1000000) :
 HC Tryz.prog 103 #[sp sb,.slice tl.base tl.len tl.cap] h (SaveR lo F h sb db ts (saveV d S tx t)):=by
 apply wc103
 unfold vc103
 have ltl:=rt.lenB
 have hin:=o.inn
 have hct:=o.count
 have stay:∀ {e:Int} {v:Int × Dv × SlV × List UInt8},v=(e,d,S,tx)→SaveR lo F h sb db ts v (.int .i64 e) h:=by
  rintro e v rfl
  exact⟨rfl,F,ts,x,sl,Nat.le_refl _,fun _ _=>rfl,fun _ _ _ _=>rfl,fun a ha=>.inl ha⟩
 refine(Room_spec sl.row o).mono ?_
 rintro _ h1 ⟨rfl,hh⟩
 obtain rfl:=hh.symm
 refine⟨_,rfl,IfB.dec (fun hbig=>stay (by unfold saveV;rw[if_pos (by omega)])) (fun hfit=>?_)⟩
 refine(Dead_spec sl.row).mono ?_
 rintro _ h1 ⟨rfl,hh⟩
 obtain rfl:=hh.symm
 refine⟨_,rfl,IfB.intro (fun hoff=>stay (by unfold saveV;rw[if_neg (by omega),if_pos hoff])) (fun hon=>?_)⟩
 obtain⟨ob,hob,rob⟩:=sl.row.only
 have e1:iSub .i64 (1:Int) (S.inn:Int)=((1-S.inn:Nat):Int):=by rw[iSub64 (by omega)];omega
 have e2:iAdd .i64 (S.count:Int) (1:Int)=((S.count+1:Nat):Int):=by rw[iAdd64 (by omega)];push_cast;rfl
 refine⟨onlyB sb ob,sub_only hob,_,rfl,_,rob.get rfl,_,rfl,_,rob.get rfl,?_⟩
 rw[e1,e2]
 have hf:=o.f (1-S.inn) (by omega)
 have hf2:=o.f2' (1-S.inn+1) (by omega)
 refine(write_spec x hlo sl.row sl.role (1-S.inn) (by omega) hf (by omega) o.size.1 (S.count+1) (by omega) rt (fun a ha=>⟨(tb a ha).1,(tb a ha).2.1⟩) htl).mono ?_
 rintro _ h2 ⟨rfl,F2,x2,g2,c2⟩
 have s2:=c2.size
 have sl2:=sl.dev c2 g2
 have hsb:=sl.row.lt
 refine⟨_,rfl,sub_only (by rw[c2.block _ hsb sl.role];exact hob),?_⟩
 refine IfB.ne (fun hne=>⟨_,rfl,?_⟩) (fun heq=>⟨_,rfl,_,rfl,?_⟩)
 ·obtain⟨ok,row3,y3,s3⟩:=sl2.row.set (i:=8) (by simp[slC]) (.bool true)
  refine⟨ok,?_⟩
  have hv:saveV d S tx t=((d.wr (S.f (1-S.inn)) (S.f (1-S.inn+1)) S.size (S.count+1) t).1,(d.wr (S.f (1-S.inn)) (S.f (1-S.inn+1)) S.size (S.count+1) t).2,{ S with off:=true },tx):=by
   unfold saveV;rw[if_neg (by omega),if_neg (by rw[hon];simp),if_pos hne]
  rw[hv]
  refine⟨rfl,F2,ts,x2.keep (by rw[s3];exact Nat.le_refl _) fun b hb=>y3 b fun e=>hb (by rw[e];exact sl2.role),⟨sl2.role,row3,sl2.text.eq fun a ha=>y3 _ (sl2.tb a ha).2.2,fun a ha=>⟨(sl2.tb a ha).1,by rw[s3];exact(sl2.tb a ha).2.1,(sl2.tb a ha).2.2⟩⟩,by rw[s3];exact s2,g2,fun b hb hF hne=>by rw[y3 b hne,c2.block b hb hF],fun a ha=>.inl ha⟩
 ·have hv:saveV d S tx t=(0,(d.wr (S.f (1-S.inn)) (S.f (1-S.inn+1)) S.size (S.count+1) t).2,{ S with inn:=1-S.inn,count:=S.count+1 },t):=by
   unfold saveV;rw[if_neg (by omega),if_neg (by rw[hon];simp),if_neg (by omega)]
  rw[hv]
  have rt2:Rd 1 h2 tl (t.map bv):=rt.eq fun a ha=>c2.block _ (tb a ha).2.1 (tb a ha).1
  have clone:∀ {K:Value→Hp→Prop},(∀ (u:Sl) h3,Own h2.size 1 h3 u (t.map bv)→Ext h2 h3→Row h3 sb (slC db S ts)→K (.slice u.base u.len u.cap) h3)→HC Tryz.prog 80 #[.slice tl.base tl.len tl.cap] h2 K:=fun hK=>by
   refine(slClone_spec rt2 (by omega)).mono ?_
   rintro _ h3 ⟨u,rfl,ou,lu,e3⟩
   exact hK u h3 ou e3 (sl2.row.ext e3)
  have fin:∀ {u:Sl} {h3:Hp},Own h2.size 1 h3 u (t.map bv)→Ext h2 h3→Row h3 sb (slC db S ts) →
   ∃ a5:Addr,(some ⟨sb,0,none⟩:Option Addr)=some a5∧
   StOk h3 (a5.add 5)∧
   Lt (hset h3 (a5.add 5) (.int .i64 (iSub .i64 (1:Int) (S.inn:Int)))) fun vh5=>
   True∧
   ∃ a6:Addr,(some ⟨sb,0,none⟩:Option Addr)=some a6∧
   StOk vh5 (a6.add 6)∧
   Lt (hset vh5 (a6.add 6) (.slice u.base u.len u.cap)) fun vh6=>
   True∧
   ∃ a7:Addr,(some ⟨sb,0,none⟩:Option Addr)=some a7∧
   StOk vh6 (a7.add 7)∧
   Lt (hset vh6 (a7.add 7) (.int .i64 (iAdd .i64 (S.count:Int) (1:Int)))) fun vh7=>
   SaveR lo F h sb db ts (0,(d.wr (S.f (1-S.inn)) (S.f (1-S.inn+1)) S.size (S.count+1) t).2,{ S with inn:=1-S.inn,count:=S.count+1 },t) (.int .i64 (0:Int)) vh7:=by
   intro u h3 ou e3 row3
   have s3:=e3.size
   refine store3 row3 (1-S.inn) (S.count+1) e1 e2 fun h4 row4 s4 y4=>?_
   have hne:∀ a,u.base=some a→a.block≠sb:=fun a ha=>by have:=(ou.lt ha).1;omega
   refine⟨rfl,F2,u,(x2.ext e3).keep (by omega) fun b hb=>y4 b fun e=>hb (by rw[e];exact sl2.role),⟨sl2.role,row4,ou.toRd.eq fun a ha=>y4 _ (hne a ha),fun a ha=>⟨?_,by have:=(ou.lt ha).2;omega,hne a ha⟩⟩,by omega,g2,fun b hb hF hne=>by rw[y4 b hne,e3.block b (by omega),c2.block b hb hF],fun a ha=>.inr (by have:=(ou.lt ha).1;omega)⟩
   rcases Nat.eq_zero_or_pos (F2 a.block) with h0 | h0
   ·exact h0
   ·have:=(x2.dom a.block (by omega)).2;have:=(ou.lt ha).1;omega
  have g5:∀ {h3:Hp},Row h3 sb (slC db S ts)→hY h3 ((⟨sb,0,none⟩:Addr).add 5)=some (.int .i64 (S.inn:Int)):=fun r=>r.get rfl
  have g7:∀ {h3:Hp},Row h3 sb (slC db S ts)→hY h3 ((⟨sb,0,none⟩:Addr).add 7)=some (.int .i64 (S.count:Int)):=fun r=>r.get rfl
  refine⟨⟨_,g5 sl2.row,trivial,clone fun u h3 ou e3 row3=>⟨u,rfl,trivial,_,g7 row3,trivial,fin ou e3 row3⟩,_,g7 sl2.row,trivial,clone fun u h3 ou e3 row3=>⟨u,rfl,trivial,fin ou e3 row3⟩⟩,clone fun u h3 ou e3 row3=>⟨u,rfl,trivial,⟨_,g5 row3,trivial,_,g7 row3,trivial,fin ou e3 row3⟩,_,g7 row3,trivial,_,g5 row3,trivial,fin ou e3 row3⟩,_,g7 sl2.row,trivial,⟨_,g5 sl2.row,trivial,clone fun u h3 ou e3 row3=>⟨u,rfl,trivial,fin ou e3 row3⟩⟩,clone fun u h3 ou e3 row3=>⟨u,rfl,trivial,_,g5 row3,trivial,fin ou e3 row3⟩⟩
theorem enc_good{k n l:Nat}{bs:List UInt8}(hk:1≤k∧k≤4)(hn:n≤1099511627776)(hl:l≤1048576)(hb:bs.length≤40) :
 goodB (encOf (preL k 0 n l bs))∧dK (encOf (preL k 0 n l bs))=k∧dS (encOf (preL k 0 n l bs))=n∧dL (encOf (preL k 0 n l bs))=l∧dB (encOf (preL k 0 n l bs))=bs:=by
 obtain⟨g,gk,ge,gs,gl,gb⟩:=encL_good (k:=k) (e:=0) (s:=n) (l:=l) (bs:=bs) ⟨by omega,by omega,by omega,by omega⟩ hb
 exact⟨⟨encOf_length (by rw[preL_length];omega),g⟩,gk,gs,gl,gb⟩
theorem nCh_le{t:List UInt8}(ht:t.length≤1000000):nCh t≤25001:=by unfold nCh;omega
theorem chunks_take(t:List UInt8)(k:Nat):((List.range k).map (chunkL t)).flatten=t.take (40*k):=by
 induction k with
 | zero=>simp
 | succ k ih=>
   rw[List.range_succ,List.map_append,List.flatten_append,ih]
   simp only[List.map_cons,List.map_nil,List.flatten_cons,List.flatten_nil,List.append_nil,chunkL]
   rw[show 40*(k+1)=40*k+40 by omega,List.take_add]
theorem chunks_all(t:List UInt8):((List.range (nCh t)).map (chunkL t)).flatten=t:=by
 rw[chunks_take,List.take_of_length_le (by unfold nCh;omega)]
theorem readGo_data{n:Nat}(hn:n≤1099511627776)(t:List UInt8)(r:List (List UInt8)):∀ (k j:Nat) (acc:List UInt8),
 readGo ((List.range' j k).map (fun k=>encOf (preL 1 0 n 0 (chunkL t k)))++r) (j+1) acc n=readGo r (j+k+1) (acc++((List.range' j k).map (chunkL t)).flatten) n:=by
 intro k
 induction k with
 | zero=>intro j acc;simp
 | succ k ih=>
   intro j acc
   rw[List.range'_succ,List.map_cons,List.cons_append,readGo]
   obtain⟨g,gk,gs,gl,gb⟩:=enc_good (k:=1) (l:=0) (bs:=chunkL t j) (by omega) hn (by omega) (chunkL_len t j)
   rw[if_neg (fun h=>h g),if_neg (by omega),if_neg (by omega),if_pos gk,gb,ih (j+1)]
   rw[List.map_cons,List.flatten_cons,List.append_assoc,show j+1+k+1=j+(k+1)+1 by omega]
theorem readS_enc{n:Nat}(hn:n≤1099511627776){t:List UInt8}(ht:t.length≤1000000):readS (encS n t)=(t,n):=by
 unfold readS encS
 obtain⟨g,gk,gs,gl,gb⟩:=enc_good (k:=3) (l:=0) (bs:=[]) (by omega) hn (by omega) (by simp)
 rw[readGo,if_neg (fun h=>h g),if_pos ⟨rfl,gk⟩,gs]
 have:=readGo_data hn t [encOf (preL 2 0 n (nCh t) (tailL t))] (nCh t) 0 []
 rw[← List.range_eq_range']at this
 rw[show(0:Nat)+1=0+1 from rfl,this,List.nil_append,chunks_all]
 have hc:=nCh_le ht
 obtain⟨g2,gk2,gs2,gl2,gb2⟩:=enc_good (k:=2) (l:=nCh t) (bs:=tailL t) (by omega) hn (by omega) (by rw[tailL_len];omega)
 rw[readGo,if_neg (fun h=>h g2),if_neg (by omega),if_neg (by omega),if_neg (by omega),if_pos ⟨gk2,by omega,gb2⟩]
theorem oddB_dK(p:List UInt8):oddB p=decide (dK p<1∨3<dK p):=rfl
theorem enc_odd{n:Nat}(hn:n≤1099511627776){t:List UInt8}(ht:t.length≤1000000):∀ p∈encS n t,oddB p=false:=by
 intro p hp
 have hc:=nCh_le ht
 rw[oddB_dK,decide_eq_false_iff_not]
 unfold encS at hp
 rcases List.mem_cons.1 hp with rfl | hp
 ·have:=(enc_good (k:=3) (l:=0) (bs:=[]) (by omega) hn (by omega) (by simp)).2.1;omega
 ·rcases List.mem_append.1 hp with hp | hp
  ·obtain⟨k,_,rfl⟩:=List.mem_map.1 hp
   have:=(enc_good (k:=1) (l:=0) (bs:=chunkL t k) (by omega) hn (by omega) (chunkL_len t k)).2.1;omega
  ·simp only[List.mem_cons,List.not_mem_nil,or_false]at hp
   subst hp
   have:=(enc_good (k:=2) (l:=nCh t) (bs:=tailL t) (by omega) hn (by omega) (by rw[tailL_len];omega)).2.1;omega
theorem enc_64{n:Nat}{t:List UInt8}:∀ p∈encS n t,p.length=64:=by
 intro p hp
 unfold encS at hp
 rcases List.mem_cons.1 hp with rfl | hp
 ·exact encOf_length (by rw[preL_length];simp)
 ·rcases List.mem_append.1 hp with hp | hp
  ·obtain⟨k,_,rfl⟩:=List.mem_map.1 hp
   exact encOf_length (by rw[preL_length];have:=chunkL_len t k;omega)
  ·simp only[List.mem_cons,List.not_mem_nil,or_false]at hp
   subst hp
   exact encOf_length (by rw[preL_length,tailL_len];omega)
theorem wr_live{d:Dv}(l:Live d)(w:d.Wf){lo hi n:Nat}{t:List UInt8}(h1:lo≤hi)(h2:hi≤d.n)(hfit:nCh t+2≤(hi-lo)*d.size) :
 (d.wr lo hi d.size n t).1=0∧OkD d (d.wr lo hi d.size n t).2∧zRows (d.wr lo hi d.size n t).2 lo (hi-lo)=encS n t∧(∀ j,(j<lo∨hi≤j)→((d.wr lo hi d.size n t).2.z j).rows=(d.z j).rows)∧AllGood (d.wr lo hi d.size n t).2:=by
 obtain⟨c1,c2,c3⟩:=clear_live (hi-lo) d lo l w (by omega)
 have hs:=w.size
 have hd:(d.clear lo (hi-lo)).2.size=d.size:=c2.size
 obtain⟨p1,p2,p3,p4⟩:=puts_live (base:=lo) (cnt:=hi-lo) (ps:=encS n t) enc_64 (encS n t) (d.clear lo (hi-lo)).2 0 c2.live c2.wf (by rw[c2.n];omega) (by rw[encS_len,hd];exact hfit) rfl (Nat.zero_le _) (fun m hm=>by rw[c3,if_pos (by omega)];simp[part])
 rw[hd]at p1 p2 p3 p4
 unfold Dv.wr
 rw[if_neg (by omega),if_neg (by omega),flush_live p2.live]
 have ok:OkD d ((d.clear lo (hi-lo)).2.puts lo d.size 0 (encS n t)).2.tick.flushed:=OkD.trans c2 (OkD.trans p2 ⟨⟨p2.live.1,p2.live.dead⟩,p2.wf.tick.flushed,rfl,rfl⟩)
 refine⟨rfl,ok,?_,fun j hj=>?_,fun j=>?_⟩
 ·refine zRows_part (by rw[ok.size];omega) (by rw[encS_len,ok.size];exact hfit) fun m hm=>?_
  rw[Dv.flushed_z,ok.size]
  exact p3 m hm
 ·rw[Dv.flushed_z]
  show(((d.clear lo (hi-lo)).2.puts lo d.size 0 (encS n t)).2.z j).rows=_
  rw[p4 j (by omega),c3,if_neg (by omega)]
 ·rw[Dv.flushed_z]
structure SlInv(d:Dv)(f0 f1 f2 inn:Nat)(tx:List UInt8)(count:Nat):Prop where
 odd0:(zRows d f0 (f1-f0)).any oddB=false
 odd1:(zRows d f1 (f2-f1)).any oddB=false
 le1:inn≤1
 here:1≤count→readS (if inn=0 then zRows d f0 (f1-f0) else zRows d f1 (f2-f1))=(tx,count)
 there:1≤count→(readS (if inn=0 then zRows d f1 (f2-f1) else zRows d f0 (f1-f0))).2<count
 none:count=0→inn=1∧tx = []∧(readS (zRows d f0 (f1-f0))).2=0∧(readS (zRows d f1 (f2-f1))).2=0
theorem SlInv.pick{d:Dv}{f0 f1 f2 inn count:Nat}{tx:List UInt8}(v:SlInv d f0 f1 f2 inn tx count):pickS (zRows d f0 (f1-f0)) (zRows d f1 (f2-f1))=(inn,(tx,count)):=by
 have hi:=v.le1
 unfold pickS
 rcases Nat.eq_zero_or_pos count with h0 | h0
 ·obtain⟨rfl,rfl,h1,h2⟩:=v.none h0
  subst h0
  have hp:pick1 0 (readS (zRows d f0 (f1-f0))) (1,([],0))=(1,([],0)):=by unfold pick1;rw[if_neg (by simp only;omega)]
  rw[hp]
  unfold pick1;rw[if_neg (by simp only;omega)]
 ·have hh:=v.here h0
  have ht:=v.there h0
  rcases(show inn=0∨inn=1 by omega) with rfl | rfl
  ·rw[if_pos rfl]at hh ht
   have hp:pick1 0 (readS (zRows d f0 (f1-f0))) (1,([],0))=(0,(tx,count)):=by unfold pick1;rw[hh,if_pos (by simp only;omega)]
   rw[hp]
   unfold pick1;rw[if_neg (by simp only;omega)]
  ·rw[if_neg (by omega)]at hh ht
   have hp:(pick1 0 (readS (zRows d f0 (f1-f0))) (1,([],0))).2.2<count:=by
    unfold pick1
    split
    ·exact ht
    ·exact h0
   generalize pick1 0 (readS (zRows d f0 (f1-f0))) (1,([],0))=p at hp
   rw[hh]
   unfold pick1
   exact if_pos hp
theorem SlInv.same{d d':Dv}{f0 f1 f2 inn count:Nat}{tx:List UInt8}(v:SlInv d f0 f1 f2 inn tx count)(hs:d'.size=d.size)(hr:∀ j,f0≤j→j<f2→(d'.z j).rows=(d.z j).rows)(h01:f0≤f1)(h12:f1≤f2):SlInv d' f0 f1 f2 inn tx count:=by
 have e0:zRows d' f0 (f1-f0)=zRows d f0 (f1-f0):=zRows_congr hs _ _ fun j h1 h2=>hr j h1 (by omega)
 have e1:zRows d' f1 (f2-f1)=zRows d f1 (f2-f1):=zRows_congr hs _ _ fun j h1 h2=>hr j (by omega) (by omega)
 obtain⟨a,b,c,d1,e,f⟩:=v
 exact⟨by rw[e0];exact a,by rw[e1];exact b,c,by rw[e0,e1];exact d1,by rw[e0,e1];exact e,by rw[e0,e1];exact f⟩
theorem SlInv.new{d:Dv}{f0 f1 f2:Nat}(h:∀ j,f0≤j→j<f2→(d.z j).rows = [])(h01:f0≤f1)(h12:f1≤f2):SlInv d f0 f1 f2 1 [] 0:=by
 have e0:zRows d f0 (f1-f0) = []:=zRows_nil _ _ fun j h1 h2=>h j h1 (by omega)
 have e1:zRows d f1 (f2-f1) = []:=zRows_nil _ _ fun j h1 h2=>h j (by omega) (by omega)
 exact⟨by rw[e0];rfl,by rw[e1];rfl,by omega,fun h=>by omega,fun h=>by omega,fun _=>⟨rfl,rfl,by rw[e0];rfl,by rw[e1];rfl⟩⟩
theorem SlInv.wrote{d d':Dv}{f0 f1 f2 inn count:Nat}{tx t:List UInt8}(v:SlInv d f0 f1 f2 inn tx count)(h01:f0≤f1)(h12:f1≤f2)(hs:d'.size=d.size)(hc:count+1≤1099511627776)(ht:t.length≤1000000)
 (hw:zRows d' (if inn=0 then f1 else f0) (if inn=0 then f2-f1 else f1-f0)=encS (count+1) t) (ho:∀ j,f0≤j→j<f2 →¬ ((if inn=0 then f1 else f0)≤j∧j<(if inn=0 then f2 else f1))→(d'.z j).rows=(d.z j).rows) :
 SlInv d' f0 f1 f2 (1-inn) t (count+1):=by
 have hi:=v.le1
 have hodd:(encS (count+1) t).any oddB=false:=by
  rw[List.any_eq_false]
  intro p hp;rw[enc_odd hc ht p hp];simp
 rcases(show inn=0∨inn=1 by omega) with rfl | rfl
 ·rw[if_pos rfl,if_pos rfl]at hw
  have e0:zRows d' f0 (f1-f0)=zRows d f0 (f1-f0):=zRows_congr hs _ _ fun j h1 h2=>ho j h1 (by omega) (by simp;omega)
  refine⟨by rw[e0];exact v.odd0,by rw[hw];exact hodd,by omega,fun _=>?_,fun _=>?_,fun h=>by omega⟩
  ·rw[if_neg (by omega),hw];exact readS_enc hc ht
  ·rw[if_neg (by omega),e0]
   rcases Nat.eq_zero_or_pos count with h0 | h0
   ·have:=(v.none h0).1;omega
   ·have:=v.here h0;rw[if_pos rfl]at this;rw[this];simp only;omega
 ·rw[if_neg (by omega),if_neg (by omega)]at hw
  have e1:zRows d' f1 (f2-f1)=zRows d f1 (f2-f1):=zRows_congr hs _ _ fun j h1 h2=>ho j (by omega) (by omega) (by simp;omega)
  refine⟨by rw[hw];exact hodd,by rw[e1];exact v.odd1,by omega,fun _=>?_,fun _=>?_,fun h=>by omega⟩
  ·rw[if_pos (by omega),hw];exact readS_enc hc ht
  ·rw[if_pos (by omega),e1]
   rcases Nat.eq_zero_or_pos count with h0 | h0
   ·have:=(v.none h0).2.2.2;omega
   ·have:=v.here h0;rw[if_neg (by omega)]at this;rw[this];simp only;omega
structure NxD(d e:Dv):Prop where
 wf:e.Wf
 n:e.n=d.n
 size:e.size=d.size
theorem NxD.trans{a b c:Dv}(x:NxD a b)(y:NxD b c):NxD a c:=⟨y.wf,y.n.trans x.n,y.size.trans x.size⟩
theorem NxD.tick{d:Dv}(w:d.Wf):NxD d d.tick:=⟨w.tick,rfl,rfl⟩
theorem append_any{d:Dv}{k:Nat}(hk:k<d.n){p:List UInt8}(hp:p.length=64)(hr:(d.z k).rows.length<d.size) :
 d.append (k:Int) p=(((0:Int),(12:Int)),d.tick)∨d.append (k:Int) p=((((d.z k).rows.length:Int),(0:Int)),d.tick.setZ k ⟨(d.z k).rows ++ [p],(d.z k).good⟩):=by
 unfold Dv.append
 rw[if_neg (by omega),if_neg (by omega),Int.toNat_natCast]
 by_cases hd:d.dead=true
 ·rw[if_pos hd];exact .inl rfl
 ·rw[if_neg hd,if_neg (by omega)];exact .inr rfl
theorem flush_any(d:Dv):d.flush=(12,d.tick)∨d.flush=(0,d.tick.flushed):=by
 unfold Dv.flush
 by_cases hd:d.dead=true
 ·rw[if_pos hd];exact .inl rfl
 ·rw[if_neg hd];exact .inr rfl
theorem Dv.empty_z{d:Dv}(w:d.Wf){z:Nat}(hz:(d.z z).rows.length=0):d.z z=⟨[],0⟩:=by
 have hg:=(w.zone z).good
 have hr:(d.z z).rows = []:=List.eq_nil_of_length_eq_zero hz
 cases hd:d.z z with
 | mk rows good=>rw[hd]at hr hg;simp only at hr hg;subst hr;simp at hg;subst hg;rfl
theorem puts_any{base cnt:Nat}{ps:List (List UInt8)}(h64:∀ p∈ps,p.length=64):∀ (r:List (List UInt8)) (d:Dv) (k:Nat),d.Wf→base+cnt≤d.n→ps.length≤cnt*d.size→ps.drop k=r→k≤ps.length→(∀ m,m<cnt→(d.z (base+m)).rows=part d.size (ps.take k) m) →
 NxD d (d.puts base d.size k r).2∧∃ q,k≤q∧q≤ps.length∧((d.puts base d.size k r).1=0∧q=ps.length∨(d.puts base d.size k r).1=12)∧(∀ m,m<cnt→((d.puts base d.size k r).2.z (base+m)).rows=part d.size (ps.take q) m∧((d.puts base d.size k r).2.z (base+m)).good=(d.z (base+m)).good)∧∀ j,(j<base∨base+cnt≤j)→(d.puts base d.size k r).2.z j=d.z j:=by
 intro r
 induction r with
 | nil=>
   intro d k w hn hc hr hk hz
   have hkl:k=ps.length:=by have:=congrArg List.length hr;simp at this;omega
   exact⟨⟨w,rfl,rfl⟩,k,Nat.le_refl _,hk,.inl ⟨rfl,hkl⟩,fun m hm=>⟨hz m hm,rfl⟩,fun j _=>rfl⟩
 | cons p r ih=>
   intro d k w hn hc hr hk hz
   have hkl:k<ps.length:=by have:=congrArg List.length hr;simp at this;omega
   have hs:=w.size
   have hpk:ps[k]=p:=by
    have:=List.drop_eq_getElem_cons hkl
    rw[hr]at this
    exact(List.cons.inj this).1.symm
   have hr':ps.drop (k+1)=r:=by
    have:=List.drop_eq_getElem_cons hkl
    rw[hr]at this
    exact(List.cons.inj this).2.symm
   have hq:k / d.size<cnt:=by
    rw[Nat.div_lt_iff_lt_mul (by omega)];omega
   have hzq:=hz _ hq
   have hlt:=part_len (size:=d.size) (ps:=ps) (k:=k) (by omega) hkl
   have hb:base+k / d.size<d.zs.length:=by have:=w.n;omega
   have hp64:p.length=64:=h64 p (by rw[← hpk];exact List.getElem_mem hkl)
   rcases append_any (d:=d) (k:=base+k / d.size) (by have:=w.n;omega) hp64 (by rw[hzq];exact hlt) with happ | happ
   ·rw[Dv.puts,happ,if_pos (by simp)]
    exact⟨NxD.tick w,k,Nat.le_refl _,hk,.inr rfl,fun m hm=>⟨hz m hm,rfl⟩,fun j _=>rfl⟩
   rw[Dv.puts,happ,if_neg (by simp)]
   have hzw:=w.zone (base+k / d.size)
   let d':=d.tick.setZ (base+k / d.size) ⟨(d.z (base+k / d.size)).rows ++ [p],(d.z (base+k / d.size)).good⟩
   have w':d'.Wf:=w.tick.setZ _ ⟨by rw[List.length_append,hzq];simp;show _≤d.size;omega,by have:=hzw.good;simp;omega,fun y hy=>by
    rcases List.mem_append.1 hy with hy | hy
    ·exact hzw.each y hy
    ·simp only[List.mem_cons,List.not_mem_nil,or_false]at hy
     subst hy;exact hp64⟩
   have hz':∀ m,m<cnt→(d'.z (base+m)).rows=part d'.size (ps.take (k+1)) m:=fun m hm=>by
    show((d.tick.setZ _ _).z (base+m)).rows=part d.size _ m
    rw[part_snoc (by omega) hkl,d.tick.z_set hb,hpk]
    by_cases e:m=k / d.size
    ·subst e;rw[if_pos rfl,if_pos rfl,hzq]
    ·rw[if_neg (by omega),if_neg e];exact hz m hm
   obtain⟨h1,q,hkq,hql,h2,h3,h4⟩:=ih d' (k+1) w' hn hc hr' hkl hz'
   refine⟨NxD.trans ⟨w',rfl,rfl⟩ h1,q,by omega,hql,h2,fun m hm=>⟨(h3 m hm).1,?_⟩,fun j hj=>?_⟩
   ·rw[show((d.tick.setZ (base+k / d.size) ⟨(d.z (base+k / d.size)).rows ++ [p],(d.z (base+k / d.size)).good⟩).puts base d.size (k+1) r)=d'.puts base d'.size (k+1) r from rfl,(h3 m hm).2]
    show((d.tick.setZ _ _).z (base+m)).good=_
    rw[d.tick.z_set hb]
    by_cases e:base+m=base+k / d.size
    ·rw[if_pos e,e]
    ·rw[if_neg e];rfl
   ·show(Dv.puts d' base d'.size (k+1) r).2.z j=_
    rw[h4 j hj]
    show(d.tick.setZ _ _).z j=_
    rw[d.tick.z_set hb,if_neg (by have h0:base≤base+k / d.size:=Nat.le_add_right _ _;omega)];rfl
theorem zone_crash{size:Nat}{z:Zn}(w:z.Wf size)(px tx:Option Int):∃ a t,(z.crash px tx).rows=z.rows.take a++t∧z.good≤a∧a≤z.rows.length∧(t = []∨a<z.rows.length∧t = [tornL (z.rows.getD a [])]):=by
 refine⟨z.keep px,z.tornT (z.keep px) tx,rfl,(Zn.keep_le w px).1,(Zn.keep_le w px).2,?_⟩
 unfold Zn.tornT
 split
 ·exact .inl rfl
 ·split
  ·rename_i h;exact .inr ⟨h.1,rfl⟩
  ·exact .inl rfl
theorem crash_good{d:Dv}(w:d.Wf)(picks torn:List Int):AllGood (d.crash picks torn):=by
 intro j
 by_cases hj:j<d.n
 ·rw[Dv.crash_z _ _ _ hj];rfl
 ·have h2:(d.crash picks torn).z j=⟨[],0⟩:=by unfold Dv.z;rw[List.getD_eq_getElem?_getD,List.getElem?_eq_none (by show(mkZ d.n _).length≤j;rw[mkZ_length];omega)];rfl
  rw[h2];rfl
theorem crash_ok{d:Dv}(w:d.Wf)(picks torn:List Int):OkD d (d.crash picks torn):=⟨⟨rfl,rfl⟩,w.crash picks torn,rfl,rfl⟩
theorem crash_keep{d:Dv}(w:d.Wf)(picks torn:List Int){j:Nat}(hg:(d.z j).good=(d.z j).rows.length):((d.crash picks torn).z j).rows=(d.z j).rows:=by
 by_cases hj:j<d.n
 ·rw[Dv.crash_z _ _ _ hj]
  obtain⟨a,t,h1,h2,h3,h4⟩:=zone_crash (w.zone j) (pickL picks j) (pickL torn j)
  obtain rfl:a=(d.z j).rows.length:=by omega
  rcases h4 with rfl | ⟨h4,_⟩
  ·rw[h1,List.take_length,List.append_nil]
  ·omega
 ·have h1:d.z j=⟨[],0⟩:=by unfold Dv.z;rw[List.getD_eq_getElem?_getD,List.getElem?_eq_none (by have:=w.n;omega)];rfl
  have h2:(d.crash picks torn).z j=⟨[],0⟩:=by unfold Dv.z;rw[List.getD_eq_getElem?_getD,List.getElem?_eq_none (by show(mkZ d.n _).length≤j;rw[mkZ_length];omega)];rfl
  rw[h1,h2]
theorem torn_dK{p:List UInt8}(h:p.length=64):dK (tornL p)=dK p:=by
 unfold dK tornL
 rw[List.getD_eq_getElem?_getD,List.getD_eq_getElem?_getD,List.getElem?_append_left (by rw[List.length_take];omega),List.getElem?_take_of_lt (by omega)]
def devK:Kd→Nat
 | .dev n=>n
 | _=>0
def devF(G:Gh):Nat→Nat:=fun b=>devK (G.k b)
def isDev:Kd→Prop
 | .dev _=>True
 | _=>False
theorem devK_is{k:Kd}(h:devK k≠0):isDev k:=by cases k <;> first | trivial | exact absurd rfl h
theorem devK_mut{k:Kd}(h:devK k≠0):Mut k∧¬ Told k:=by cases k <;> first | exact⟨trivial,fun h=>h⟩ | exact absurd rfl h
theorem devK_not{k:Kd}(h:¬ isDev k):devK k=0:=by cases k <;> first | rfl | exact absurd trivial h
def Gh.dev(G:Gh)(n:Nat)(F:Nat→Nat):Gh:=⟨fun b=>if b<n then G.k b else if F b=0 then .any else .dev (F b),G.n,G.W⟩
theorem Gh.dev_old{G:Gh}{n:Nat}{F:Nat→Nat}{b:Nat}(h:b<n):(G.dev n F).k b=G.k b:=if_pos h
theorem Gh.dev_new{G:Gh}{n:Nat}{F:Nat→Nat}{b:Nat}(h:¬ b<n):(G.dev n F).k b=if F b=0 then .any else .dev (F b):=if_neg h
theorem devTo{S:Kd→Prop}{G:Gh}{h h':Hp}{F:Nat→Nat}(t:HT G h)(hd:∀ b,F b≠0→b<h'.size)(hs:h.size≤h'.size)(g:∀ b,b<h.size→F b=devF G b)(c:∀ b,b<h.size→devF G b=0 →¬ S (G.k b)→h'[b]? = h[b]?)
 (hS:∀ k,S k→Mut k∧¬ Told k):To (fun k=>isDev k∨S k) G h (G.dev h.size F) h'∧devF (G.dev h.size F)=F:=by
 have told:∀ b,Told ((G.dev h.size F).k b)→b<h.size∧(G.dev h.size F).k b=G.k b∧h'[b]? = h[b]?:=fun b hb=>by
  by_cases hlt:b<h.size
  ·rw[Gh.dev_old hlt]at hb ⊢
   refine⟨hlt,rfl,c b hlt ?_ fun hk=>(hS _ hk).2 hb⟩
   rcases Nat.eq_zero_or_pos (devF G b) with h0 | h0
   ·exact h0
   ·exact absurd hb (devK_mut (show devK (G.k b)≠0 by unfold devF at h0;omega)).2
  ·rw[Gh.dev_new hlt]at hb
   split at hb <;> exact hb.elim
 have le:G.Le (G.dev h.size F):=⟨fun b hb=>Gh.dev_old (t.dom b hb),fun _=>Nat.le_refl _,fun _ _ h=>h⟩
 refine⟨⟨le,fun b hb=>Gh.dev_old hb,hs,fun b hb hn=>?_,fun b hb=>?_,fun b hb=>?_,fun b l hb=>?_,fun b L hb=>?_,fun b a N hb=>?_⟩,?_⟩
 ·refine c b hb ?_ fun hk=>hn ⟨(hS _ hk).1,.inr hk⟩
  rcases Nat.eq_zero_or_pos (devF G b) with h0 | h0
  ·exact h0
  ·have h1:devK (G.k b)≠0:=by unfold devF at h0;omega
   exact absurd ⟨(devK_mut h1).1,.inl (devK_is h1)⟩ hn
 ·by_cases hlt:b<h.size
  ·omega
  ·rw[Gh.dev_new hlt]at hb
   exact hd b fun e=>hb (if_pos e)
 ·show G.n b=0
  by_cases hlt:b<h.size
  ·rw[Gh.dev_old hlt]at hb;exact t.n0 b hb
  ·exact t.n0 b (t.fresh (by omega))
 ·obtain⟨h1,h2,h3⟩:=told b (by rw[hb];trivial)
  rw[h3];exact t.bytes b l (by rw[← h2];exact hb)
 ·obtain⟨h1,h2,h3⟩:=told b (by rw[hb];trivial)
  rw[h3]
  obtain⟨q,r⟩:=t.puts b L (by rw[← h2];exact hb)
  exact⟨q,fun x hx=>(r x hx).mono le⟩
 ·obtain⟨h1,h2,h3⟩:=told b (by rw[hb];trivial)
  obtain⟨q,c,e,r1,r2,r3⟩:=t.arr b a N (by rw[← h2];exact hb)
  exact⟨q,c,e,by rw[h3];exact r1,r2,fun i hi=>okE_mono le (r3 i hi)⟩
 ·funext b
  by_cases hlt:b<h.size
  ·show devK ((G.dev h.size F).k b)=_
   rw[Gh.dev_old hlt,g b hlt];rfl
  ·show devK ((G.dev h.size F).k b)=_
   rw[Gh.dev_new hlt]
   split
   ·rename_i e;rw[e];rfl
   ·rfl
theorem DevTo.to{G:Gh}{h h':Hp}{db:Nat}{d':Dv}(t:HT G h)(x:DevTo 0 (devF G) h h' db d'):∃ G',To isDev G h G' h'∧G'.W=G.W∧DevAt 0 (devF G') h' db d':=by
 obtain⟨F',x',g,c⟩:=x
 obtain⟨y,e⟩:=devTo (S:=fun _=>False) t (fun b hb=>(x'.dom b hb).2) c.size g (fun b hb hF _=>c.block b hb hF) (fun _ h=>h.elim)
 exact⟨_,y.mono fun k hk=>hk.elim id False.elim,rfl,by rw[e];exact x'⟩
theorem DevAt.to{S:Kd→Prop}{G G':Gh}{h h':Hp}{db:Nat}{d:Dv}(x:DevAt 0 (devF G) h db d)(y:To S G h G' h')(hS:∀ k,isDev k →¬ S k):DevAt 0 (devF G') h' db d:=by
 have dom:=x.dom
 obtain⟨w,zs,zb,x⟩:=x
 have old:∀ b,devF G b≠0→b<h.size∧G'.k b=G.k b:=fun b hb=>⟨(dom b hb).2,y.old b (dom b hb).2⟩
 refine⟨w,zs,zb,x.move (fun b hb=>by unfold devF;rw[(old b hb).2]) (fun b hb=>⟨Nat.zero_le _,y.ht.dom b fun e=>hb (by unfold devF;rw[e];rfl)⟩) fun b hb=>y.fr b (old b hb).1 fun q=>hS _ (devK_is hb) q.2⟩
structure StD where
 dv:Dv
 inn:Nat
 count:Nat
 tx:List UInt8
 pos:Nat
 num:Nat
 off:Bool
 D:MgrD
def StD.S(X:StD):SlV:=⟨0,3,6,96,X.inn,X.count,false⟩
def stV(db mb lb pos num:Nat)(off:Bool):List Value:=[dp db,.int .i64 (0:Int),.int .i64 (3:Int),.int .i64 (6:Int),.int .i64 (7:Int),pv mb,sp lb,.int .i64 (pos:Int),.int .i64 (num:Int),.bool off]
structure StIn(G:Gh)(h:Hp)(M sb:Nat)(X:StD)(db lb mb:Nat)(ts:Sl)(em bk am:Nat)(q:Sl)(tb:Nat→Nat):Prop where
 kd:G.k sb=.one 2
 row:Row h sb (stV db mb lb X.pos X.num X.off)
 dev:DevAt 0 (devF G) h db X.dv
 kl:G.k lb=.one 8
 sl:SlotAt (devF G) h lb db X.S X.tx ts
 tst:∀ a,ts.base=some a→Stab G h a.block
 mgr:MgrIn G h M mb (1≤X.D.last) X.D em bk am q tb
 tlo:∀ a,ts.base=some a→sb<a.block
def StAt(G:Gh)(h:Hp)(M sb db:Nat)(X:StD):Prop:=∃ lb mb ts em bk am q tb,StIn G h M sb X db lb mb ts em bk am q tb
def sStO(k:Kd):Prop:=isDev k∨k=.one 2∨k=.one 8
section
variable{G:Gh}{h:Hp}{M sb:Nat}{X:StD}{db lb mb:Nat}{ts:Sl}{em bk am:Nat}{q:Sl}{tb:Nat→Nat}
theorem SlotAt.to{S:Kd→Prop}{G':Gh}{h':Hp}{V:SlV}{tx:List UInt8}(x:SlotAt (devF G) h lb db V tx ts)(kl:G.k lb=.one 8)(tst:∀ a,ts.base=some a→Stab G h a.block)(y:To S G h G' h')(hS:¬ S (.one 8)):SlotAt (devF G') h' lb db V tx ts∧G'.k lb=.one 8∧∀ a,ts.base=some a→Stab G' h' a.block:=by
 have kl':=y.kd kl (by simp)
 refine⟨⟨by unfold devF;rw[kl'];rfl,y.rowK x.row kl hS,x.text.eq fun a ha=>(y.stab (tst a ha)).1,fun a ha=>?_⟩,kl',fun a ha=>(y.stab (tst a ha)).2⟩
 obtain⟨h1,h2,h3⟩:=x.tb a ha
 exact⟨by unfold devF;rw[y.old _ h2];exact h1,Nat.lt_of_lt_of_le h2 y.size,h3⟩
theorem StIn.mg{S:Kd→Prop}{G':Gh}{h':Hp}{M':Nat}{D':MgrD}{em' bk' am':Nat}{q':Sl}{tb':Nat→Nat}(x:StIn G h M sb X db lb mb ts em bk am q tb)(y:To S G h G' h')(hS:∀ k,sStO k →¬ S k)(m:MgrIn G' h' M' mb (1≤D'.last) D' em' bk' am' q' tb') :
 StIn G' h' M' sb { X with D:=D' } db lb mb ts em' bk' am' q' tb':=by
 obtain⟨s1,s2,s3⟩:=x.sl.to x.kl x.tst y (hS _ (.inr (.inr rfl)))
 exact⟨y.kd x.kd (by simp),y.rowK x.row x.kd (hS _ (.inr (.inl rfl))),x.dev.to y fun k hk=>hS k (.inl hk),s2,s1,s3,m,x.tlo⟩
theorem StIn.to{S:Kd→Prop}{G':Gh}{h':Hp}{M':Nat}(x:StIn G h M sb X db lb mb ts em bk am q tb)(y:To S G h G' h')(hM:M≤M')(hS:∀ k,sStO k∨sMgr k →¬ S k):StIn G' h' M' sb X db lb mb ts em bk am q tb:=
 x.mg y (fun k hk=>hS k (.inl hk)) (x.mgr.to y hM fun k hk=>hS k (.inr hk))
theorem StIn.pure{G':Gh}{h':Hp}(x:StIn G h M sb X db lb mb ts em bk am q tb)(y:To (fun _=>False) G h G' h'):StIn G' h' M sb X db lb mb ts em bk am q tb:=x.to y (Nat.le_refl _) fun _ _ h=>h
theorem StIn.dv'{S:Kd→Prop}{G':Gh}{h':Hp}{d':Dv}(x:StIn G h M sb X db lb mb ts em bk am q tb)(y:To S G h G' h')(hS:∀ k,S k→isDev k)(d:DevAt 0 (devF G') h' db d'):StIn G' h' M sb { X with dv:=d' } db lb mb ts em bk am q tb:=by
 obtain⟨s1,s2,s3⟩:=x.sl.to x.kl x.tst y fun h=>hS _ h
 exact⟨y.kd x.kd (by simp),y.rowK x.row x.kd fun h=>hS _ h,d,s2,s1,s3,x.mgr.to y (Nat.le_refl _) fun k hk hs=>by
  have:=hS k hs
  cases k <;> first | exact this | exact hk,x.tlo⟩
theorem sDead_spec(x:StIn G h M sb X db lb mb ts em bk am q tb):HC Tryz.prog 57 #[pv sb] h fun r h'=>r=.bool X.off∧h'=h:=by
 apply wc57
 unfold vc57
 exact .no rfl ⟨_,rfl,_,x.row.get0 rfl,.no rfl ⟨_,rfl,_,x.row.get rfl,rfl,rfl⟩⟩
theorem sManager_spec(x:StIn G h M sb X db lb mb ts em bk am q tb):HC Tryz.prog 39 #[pv sb] h fun r h'=>r=pv mb∧h'=h:=by
 apply wc39
 unfold vc39
 exact .no rfl ⟨_,rfl,_,x.row.get rfl,rfl,rfl⟩
theorem sLast_spec(x:StIn G h M sb X db lb mb ts em bk am q tb):HC Tryz.prog 135 #[pv sb] h fun r h'=>r=.int .i64 X.D.last∧h'=h:=by
 apply wc135
 unfold vc135
 refine(sManager_spec x).mono ?_
 rintro _ _ ⟨rfl,rfl⟩
 refine⟨_,rfl,(mLast_spec x.mgr).mono ?_⟩
 rintro _ _ ⟨rfl,rfl⟩
 exact⟨_,rfl,rfl,rfl⟩
theorem sQueue_spec(x:StIn G h M sb X db lb mb ts em bk am q tb):HC Tryz.prog 17 #[pv sb] h fun r h'=>r=.int .i64 (X.D.queue.length:Int)∧h'=h:=by
 apply wc17
 unfold vc17
 refine(sManager_spec x).mono ?_
 rintro _ _ ⟨rfl,rfl⟩
 refine⟨_,rfl,(mQueue_spec x.mgr).mono ?_⟩
 rintro _ _ ⟨rfl,rfl⟩
 exact⟨_,rfl,rfl,rfl⟩
theorem sOpen_spec(t:HT G h)(x:StIn G h M sb X db lb mb ts em bk am q tb)(hn:X.D.txs.length≤1000000):HC Tryz.prog 19 #[pv sb] h fun r h'=>∃ c:Nat,r=.int .i64 (c:Int)∧Ext h h'∧∀ l:List Int,l.Nodup→(∀ k,k∈l↔liveK X.D.txs k)→c=l.length:=by
 apply wc19
 unfold vc19
 refine(sManager_spec x).mono ?_
 rintro _ _ ⟨rfl,rfl⟩
 refine⟨_,rfl,(mOpenN_spec t x.mgr hn).mono ?_⟩
 rintro _ h1 ⟨c,rfl,e,hc⟩
 exact⟨_,rfl,c,rfl,e,hc⟩
end
def sSt:Kd→Prop
 | .dev _=>True
 | .one n=>n≠1∧(n≤10∨(20≤n∧n<30))
 | .tx _ _=>True
 | .arr (.vers _) _=>True
 | .arr (.reads _) _=>True
 | _=>False
theorem sBegin_st:∀ k,sBegin k→sSt k
 | .one _,h=>by simp only[sBegin]at h;simp only[sSt];omega
theorem sView_st{j:Nat}:∀ k,sView j k→sSt k
 | .tx _ _,_=>trivial
 | .arr (.reads _) _,_=>trivial
theorem sBuf_st{j:Nat}:∀ k,sBuf j k→sSt k
 | .tx _ _,_=>trivial
theorem sEnd_st{j:Nat}:∀ k,sEnd j k→sSt k
 | .one _,h=>by simp only[sEnd]at h;simp only[sSt];omega
 | .tx _ _,_=>trivial
theorem sCommit_st{j:Nat}:∀ k,sCommit j k→sSt k
 | .one _,h=>by simp only[sCommit]at h;simp only[sSt];omega
 | .tx _ _,_=>trivial
theorem sExt_st:∀ k,sExt k→sSt k
 | .one _,h=>by simp only[sExt]at h;simp only[sSt];omega
 | .arr (.vers _) _,_=>trivial
theorem sDone_st:∀ k,sDone k→sSt k
 | .one _,h=>by simp only[sDone]at h;simp only[sSt];omega
 | .tx _ _,_=>trivial
 | .arr (.vers _) _,_=>trivial
theorem s3_st:∀ k,k=Kd.one 3→sSt k:=fun k e=>by subst e;simp[sSt]
theorem isDev_st:∀ k,isDev k→sSt k
 | .dev _,_=>trivial
theorem sO_of{S:Kd→Prop}(h1:∀ n,¬ S (.dev n))(h2:¬ S (.one 2))(h8:¬ S (.one 8)):∀ k,sStO k →¬ S k:=fun k h=>by
 rcases h with h | rfl | rfl
 ·cases k <;> first | exact h1 _ | exact h.elim
 ·exact h2
 ·exact h8
theorem sO_begin:∀ k,sStO k →¬ sBegin k:=sO_of (fun _ h=>h) (by simp[sBegin]) (by simp[sBegin])
theorem sO_view{j:Nat}:∀ k,sStO k →¬ sView j k:=sO_of (fun _ h=>h) (by simp[sView]) (by simp[sView])
theorem sO_buf{j:Nat}:∀ k,sStO k →¬ sBuf j k:=sO_of (fun _ h=>h) (by simp[sBuf]) (by simp[sBuf])
theorem sO_end{j:Nat}:∀ k,sStO k →¬ sEnd j k:=sO_of (fun _ h=>h) (by simp[sEnd]) (by simp[sEnd])
theorem sO_commit{j:Nat}:∀ k,sStO k →¬ sCommit j k:=sO_of (fun _ h=>h) (by simp[sCommit]) (by simp[sCommit])
theorem sO_ext:∀ k,sStO k →¬ sExt k:=sO_of (fun _ h=>h) (by simp[sExt]) (by simp[sExt])
theorem sO_done:∀ k,sStO k →¬ sDone k:=sO_of (fun _ h=>h) (by simp[sDone]) (by simp[sDone])
theorem sO_3:∀ k,sStO k →¬ (k=Kd.one 3):=sO_of (fun _ h=>by cases h) (by simp) (by simp)
theorem nodup_le:∀ {l m:List Int},l.Nodup→(∀ k∈l,k∈m)→l.length≤m.length
 | [],m,_,_=>Nat.zero_le _
 | x::l,m,nd,h=>by
   have hx:x∈m:=h x (by simp)
   have nd':=List.nodup_cons.1 nd
   have:=nodup_le (l:=l) (m:=m.erase x) nd'.2 fun k hk=>(List.mem_erase_of_ne fun(e:k=x)=>nd'.1 (e ▸ hk)).2 (h k (by simp[hk]))
   rw[List.length_erase_of_mem hx]at this
   have:=List.length_pos_of_mem hx
   simp;omega
structure MgrOk(N:Nat)(D:MgrD):Prop where
 len:D.txs.length≤N
 qok:QOk D
 nodup:D.queue.Nodup
 st:∀ (j:Nat) (t:TxS),D.txs[j]? = some t→1≤t.state∧t.state≤4∧(t.state=2↔j+1∈D.queue)
 out:D.out=0
 last:0≤D.last∧D.last≤1099511627776
 given:0≤D.given∧D.given≤1099511627776
 tq:∀ q∈D.queue,1≤(D.at_ q).time∧(D.at_ q).time≤1099511627776
theorem MgrOk.more{N N':Nat}{D:MgrD}(o:MgrOk N D)(h:N≤N'):MgrOk N' D:=⟨Nat.le_trans o.len h,o.qok,o.nodup,o.st,o.out,o.last,o.given,o.tq⟩
theorem MgrOk.new(N:Nat){last:Int}(h:0≤last∧last≤1099511627776):MgrOk N ⟨[],[],0,0,last,last,last,false⟩:=
 ⟨Nat.zero_le _,fun q hq=>by simp at hq,List.nodup_nil,fun j t h=>by simp at h,rfl,h,h,fun q hq=>by simp at hq⟩
theorem MgrOk.queued{N:Nat}{D:MgrD}(o:MgrOk N D){p:Nat}(hp:p∈D.queue):D.txs[p-1]? = some (D.at_ p)∧1≤p∧p≤D.txs.length∧(D.at_ p).state=2:=by
 obtain⟨h1,h2⟩:=o.qok p hp
 have e:D.txs[p-1]? = some (D.at_ p):=by unfold MgrD.at_;rw[List.getD_eq_getElem?_getD,List.getElem?_eq_getElem (by omega)];rfl
 exact⟨e,h1,h2,(o.st _ _ e).2.2.2 (by rw[show p-1+1=p by omega];exact hp)⟩
theorem MgrOk.add{N:Nat}{D:MgrD}(o:MgrOk N D):MgrOk (N+1) D.add:=by
 have at_:∀ q∈D.queue,D.add.at_ q=D.at_ q:=fun q hq=>by
  obtain⟨h1,h2⟩:=o.qok q hq
  unfold MgrD.at_ MgrD.add
  simp only[List.getD_eq_getElem?_getD]
  rw[List.getElem?_append_left (by omega)]
 refine⟨?_,fun q hq=>?_,o.nodup,fun j t h=>?_,o.out,o.last,o.given,fun q hq=>by rw[at_ q hq];exact o.tq q hq⟩
 ·have:=o.len;simp[MgrD.add];omega
 ·have:=o.qok q hq;simp[MgrD.add];omega
 ·have h:(D.txs ++ [⟨1,0,0,D.last,[]⟩])[j]? = some t:=h
  rcases Nat.lt_or_ge j D.txs.length with hj | hj
  ·rw[List.getElem?_append_left hj]at h;exact o.st j t h
  ·have hj2:j=D.txs.length:=by
    have:=(List.getElem?_eq_some_iff.1 h).1
    simp at this;omega
   subst hj2
   simp at h
   subst h
   refine⟨by simp,by simp,⟨fun h=>by simp at h,fun h=>?_⟩⟩
   have:=(o.qok _ h).2;omega
theorem MgrD.set_at{D:MgrD}{j q:Nat}{t:TxS}(h1:1≤q)(hq:q≠j+1):(D.set j t).at_ q=D.at_ q:=by
 unfold MgrD.at_ MgrD.set
 simp only[List.getD_eq_getElem?_getD]
 rw[List.getElem?_set_ne (by omega)]
theorem MgrD.set_get2{D:MgrD}{j i:Nat}{t u:TxS}(h:(D.set j t).txs[i]? = some u):(i=j∧u=t∧j<D.txs.length)∨(i≠j∧D.txs[i]? = some u):=by
 have h:(D.txs.set j t)[i]? = some u:=h
 rw[List.getElem?_set]at h
 by_cases e:j=i
 ·subst e
  rw[if_pos rfl]at h
  split at h
  ·rename_i hl;exact .inl ⟨rfl,by injection h with h;exact h.symm,hl⟩
  ·cases h
 ·rw[if_neg e]at h;exact .inr ⟨fun c=>e c.symm,h⟩
theorem MgrOk.set{N:Nat}{D:MgrD}(o:MgrOk N D){j:Nat}{t t':TxS}(h:D.txs[j]? = some t)(h1:t.state=1)(h2:1≤t'.state∧t'.state≤4)(h3:t'.state≠2):MgrOk N (D.set j t'):=by
 have hnot:j+1 ∉ D.queue:=fun hq=>by have:=(o.st j t h).2.2.2 hq;omega
 have at_:∀ q∈D.queue,(D.set j t').at_ q=D.at_ q:=fun q hq=>MgrD.set_at (o.qok q hq).1 fun e=>hnot (e ▸ hq)
 refine⟨by simpa [MgrD.set] using o.len,fun q hq=>by simpa [MgrD.set] using o.qok q hq,o.nodup,fun i u hu=>?_,o.out,o.last,o.given,fun q hq=>by rw[at_ q hq];exact o.tq q hq⟩
 rcases MgrD.set_get2 hu with ⟨rfl,rfl,_⟩ | ⟨_,hu⟩
 ·exact⟨h2.1,h2.2,fun e=>absurd e h3,fun e=>absurd e hnot⟩
 ·exact o.st i u hu
theorem MgrOk.push{N:Nat}{D:MgrD}(o:MgrOk N D){j:Nat}{t:TxS}(h:D.txs[j]? = some t)(h1:t.state=1)(hg:D.given<1099511627776) :
 MgrOk N { D with txs:=D.txs.set j { t with state:=2,time:=D.given+1 },queue:=D.queue ++ [j+1],given:=D.given+1 }:=by
 have hjl:=(List.getElem?_eq_some_iff.1 h).1
 have hnot:j+1 ∉ D.queue:=fun hq=>by have:=(o.st j t h).2.2.2 hq;omega
 have hgv:=o.given
 have at_:∀ q∈D.queue,MgrD.at_ { D with txs:=D.txs.set j { t with state:=2,time:=D.given+1 },queue:=D.queue ++ [j+1],given:=D.given+1 } q=D.at_ q:=fun q hq=>MgrD.set_at (D:=D) (o.qok q hq).1 fun e=>hnot (e ▸ hq)
 have at2:MgrD.at_ { D with txs:=D.txs.set j { t with state:=2,time:=D.given+1 },queue:=D.queue ++ [j+1],given:=D.given+1 } (j+1) = { t with state:=2,time:=D.given+1 }:=by
  refine MgrD.at_get ?_
  show(D.txs.set j _)[j]? = _
  rw[List.getElem?_set_self hjl]
 refine⟨by simpa using o.len,fun q hq=>?_,?_,fun i u hu=>?_,o.out,o.last,⟨by show 0≤D.given+1;omega,by show D.given+1≤_;omega⟩,fun q hq=>?_⟩
 ·rcases List.mem_append.1 hq with hq | hq
  ·simpa using o.qok q hq
  ·simp at hq;subst hq;simp;omega
 ·exact List.nodup_append.2 ⟨o.nodup,by simp,fun a ha b hb=>by simp at hb;subst hb;exact fun e=>hnot (e ▸ ha)⟩
 ·show 1≤u.state∧u.state≤4∧(u.state=2↔i+1∈D.queue ++ [j+1])
  rcases MgrD.set_get2 (D:=D) (t:={ t with state:=2,time:=D.given+1 }) hu with ⟨rfl,rfl,_⟩ | ⟨hne,hu⟩
  ·exact⟨by simp,by simp,by simp⟩
  ·obtain⟨a,b,c⟩:=o.st i u hu
   refine⟨a,b,c.trans ?_⟩
   simp;omega
 ·rcases List.mem_append.1 hq with hq | hq
  ·rw[at_ q hq];exact o.tq q hq
  ·simp at hq;subst hq;rw[at2];show 1≤D.given+1∧D.given+1≤_;omega
theorem MgrOk.commit{N:Nat}{D D':MgrD}{hd c:Int}(o:MgrOk N D)(r:CommitR D hd D' c):MgrOk N D':=by
 rcases r with ⟨_,rfl,_⟩ | ⟨j,t,ht,h1,_,⟨_,_,rfl⟩ | ⟨_,_,rfl⟩ | ⟨_,_,hg,rfl⟩⟩
 ·exact o
 ·exact o.set ht h1 (by simp) (by simp)
 ·exact o.set ht h1 (by simp) (by simp)
 ·exact o.push ht h1 hg
section
variable{G:Gh}{h:Hp}{M sb db:Nat}{X:StD}
theorem MgrIn.plen{mb:Nat}{V:Prop}{D:MgrD}{em bk am:Nat}{q:Sl}{tb:Nat→Nat}(x:MgrIn G h M mb V D em bk am q tb):∀ (j:Nat) (t:TxS),D.txs[j]? = some t→t.P.length≤16∧PutsOk t.P:=fun j t ht=>by
 obtain⟨bb,vb,_,b,_⟩:=(x.tx j t ht).row
 exact⟨b.len,b.ok⟩
theorem MgrIn.q16{N mb:Nat}{V:Prop}{D:MgrD}{em bk am:Nat}{q:Sl}{tb:Nat→Nat}(x:MgrIn G h M mb V D em bk am q tb)(o:MgrOk N D):D.queue.length≤16:=by
 obtain⟨tm,tl,tc,_,_,_,_,hl,hk,_⟩:=x.book.map
 have nd:(D.queue.map fun(n:Nat)=>(n:Int)).Nodup:=List.Pairwise.map (S:=(· ≠ ·)) _ (fun a b (hne:a≠b) e=>hne (by omega)) o.nodup
 have sub:∀ k∈D.queue.map fun(n:Nat)=>(n:Int),k∈kS tl:=fun k hk'=>by
  obtain⟨p,hp,rfl⟩:=List.mem_map.1 hk'
  obtain⟨e,h1,h2,h3⟩:=o.queued hp
  exact(hk _).2 ⟨p-1,_,e,.inr h3,by omega⟩
 have:=nodup_le nd sub
 simp[kS]at this
 omega
theorem sBegin_spec(t:HT G h)(x:StAt G h M sb db X)(hoff:X.off=false){N:Nat}(hN:N≤1000000)(o:MgrOk N X.D):HC Tryz.prog 136 #[pv sb] h fun r h'=>∃ (G':Gh) (D':MgrD),To sSt G h G' h'∧G'.W=G.W∧StAt G' h' M sb db { X with D:=D' }∧MgrOk (N+1) D'∧
 ((∃ c:Int,r=.tuple #[.int .i64 0,.int .i64 c]∧c≠0∧D'=X.D∧((∀ (j:Nat) (t:TxS),X.D.txs[j]? = some t →¬ t.live)→False))∨(r=.tuple #[.int .i64 ((X.D.txs.length+1:Nat):Int),.int .i64 0]∧D'=X.D.add)):=by
 obtain⟨lb,mb,ts,em,bk,am,q,tb,x⟩:=x
 apply wc136
 unfold vc136
 refine(sDead_spec x).mono ?_
 rintro _ _ ⟨rfl,rfl⟩
 have hlen:=o.len
 refine⟨_,rfl,.no hoff ⟨_,rfl,_,x.row.get rfl,(mBegin_spec t x.mgr (by omega) o.last).mono ?_⟩⟩
 rintro _ h1 ⟨G1,tb',y,ew,⟨rfl,m,hl⟩ | ⟨rfl,m⟩⟩
 ·refine⟨_,_,rfl,G1,X.D,y.mono sBegin_st,ew,⟨lb,mb,ts,em,bk,am,q,tb,x.mg y sO_begin m⟩,o.more (by omega),.inl ⟨6,rfl,by omega,rfl,fun hn=>?_⟩⟩
  have:=hl [] List.nodup_nil fun k=>⟨fun h=>by simp at h,fun⟨j,t,h1,h2,_⟩=>absurd h2 (hn j t h1)⟩
  simp at this
 ·exact⟨_,_,rfl,G1,X.D.add,y.mono sBegin_st,ew,⟨lb,mb,ts,em,bk,am,q,tb',x.mg y sO_begin m⟩,o.add,.inr ⟨rfl,rfl⟩⟩
theorem sRead_spec(t:HT G h)(x:StAt G h M sb db X)(hoff:X.off=false)(hM:M≤1000000)(hd a b:Int):HC Tryz.prog 137 #[pv sb,.int .i64 hd,.agg #[.int .i64 a,.int .i64 b]] h fun r h'=>∃ (G':Gh) (c:Int) (s:Sl) (l:List UInt8),r=.tuple #[.slice s.base s.len s.cap,.int .i64 c]∧To sSt G h G' h'∧G'.W=G.W∧SlB G' s l∧l.length≤1000∧StAt G' h' (M+16) sb db X:=by
 obtain⟨lb,mb,ts,em,bk,am,q,tb,x⟩:=x
 apply wc137
 unfold vc137
 intro h1
 have e1:Ext h h1:=alc_ext _ _ _
 have r1:Row h1 h.size [.int .i64 a,.int .i64 b]:=Row.alc _ _ _
 have x1:=x.pure (e1.to t)
 have t1:=t.ext e1
 refine(sDead_spec x1).mono ?_
 rintro _ _ ⟨rfl,hh⟩
 obtain rfl:=hh
 refine⟨_,rfl,.no hoff ?_⟩
 have kR:kf G (fun k=>∃ j,sView j k) sb=true:=kf_yes (by rw[x1.kd];simp[sView])
 have k0:kf G (fun k=>∃ j,sView j k) h.size=true:=kf_yes (by rw[t.fresh (Nat.le_refl _)];simp[sView])
 have rR:=x1.row.filt kR
 have r1R:=r1.filt k0
 refine⟨filt (kf G fun k=>∃ j,sView j k) h1,sub_kf _ _ _,_,rfl,_,rR.get rfl,_,_,r1R.get0 rfl,r1R.get rfl,(mRead_spec t1 x1.mgr hM hd a b).mono ?_⟩
 rintro _ h2 ⟨G2,c,s,l,j,rfl,y2,ew,sl,hl,m⟩
 exact⟨s,c,rfl,(y2.mono fun k hk=>⟨j,hk⟩).kf,G2,c,s,l,rfl,(e1.to t).trans (y2.mono sView_st),ew,sl,hl,lb,mb,ts,em,bk,am,q,tb,x1.mg y2 sO_view m⟩
theorem sWrite_spec(t:HT G h)(x:StAt G h M sb db X)(hoff:X.off=false){N:Nat}(o:MgrOk N X.D)(hd:Int){s:Sl}{Q:List PutD}(p:PutsR (Stab G h) h s Q)(hQ:PutsB Q):HC Tryz.prog 138 #[pv sb,.int .i64 hd,.slice s.base s.len s.cap] h fun r h'=>∃ (G':Gh) (c:Int) (D':MgrD),r=.int .i64 c∧To sSt G h G' h'∧G'.W=G.W∧StAt G' h' M sb db { X with D:=D' }∧MgrOk N D'∧
 ((c≠0∧D'=X.D) ∨∃ (j:Nat) (t:TxS) (P':List PutD),X.D.txs[j]? = some t∧t.state=1∧hd=((j+1:Nat):Int)∧PutsOk P'∧P'.length≤16∧D'=X.D.set j { t with P:=P' })∧
 (∀ (j:Nat) (t:TxS) a l,X.D.txs[j]? = some t→t.state=1→hd=((j+1:Nat):Int)→Q = [(a,l)]→0≤a∧a<258→l.length=40→t.P = []→c=0∧D'=X.D.set j { t with P:=[(a,l)] }):=by
 obtain⟨lb,mb,ts,em,bk,am,q,tb,x⟩:=x
 apply wc138
 unfold vc138
 refine(sDead_spec x).mono ?_
 rintro _ _ ⟨rfl,hh⟩
 obtain rfl:=hh
 refine⟨_,rfl,.no hoff ⟨_,rfl,_,x.row.get rfl,(mWrite_spec t x.mgr hd p hQ).mono ?_⟩⟩
 rintro _ h2 ⟨G2,c,D',j,rfl,y2,ew,m,hc,hx⟩
 have hl:D'.last=X.D.last:=by rcases hc with ⟨_,rfl⟩ | ⟨j,t,P',_,_,_,_,_,rfl⟩ <;> rfl
 refine⟨_,rfl,G2,c,D',rfl,y2.mono sBuf_st,ew,⟨lb,mb,ts,em,bk,am,q,tb,x.mg y2 sO_buf (by rw[hl];exact m)⟩,?_,hc,hx⟩
 rcases hc with ⟨_,rfl⟩ | ⟨j,t,P',ht,h1,_,_,_,rfl⟩
 ·exact o
 ·exact o.set ht h1 (by show 1≤t.state∧t.state≤4;omega) (by show t.state≠2;omega)
theorem sAbort_spec(t:HT G h)(x:StAt G h M sb db X)(hoff:X.off=false){N:Nat}(o:MgrOk N X.D)(hd:Int):HC Tryz.prog 139 #[pv sb,.int .i64 hd] h fun r h'=>∃ (G':Gh) (c:Int) (D':MgrD),r=.int .i64 c∧To sSt G h G' h'∧G'.W=G.W∧StAt G' h' M sb db { X with D:=D' }∧MgrOk N D'∧
 ((c=5∧D'=X.D) ∨∃ (j:Nat) (t:TxS),X.D.txs[j]? = some t∧t.state=1∧hd=((j+1:Nat):Int)∧c=0∧D'=X.D.set j (endT t 4 0)):=by
 obtain⟨lb,mb,ts,em,bk,am,q,tb,x⟩:=x
 apply wc139
 unfold vc139
 refine(sDead_spec x).mono ?_
 rintro _ _ ⟨rfl,hh⟩
 obtain rfl:=hh
 refine⟨_,rfl,.no hoff ⟨_,rfl,_,x.row.get rfl,(mAbort_spec t x.mgr hd).mono ?_⟩⟩
 rintro _ h2 ⟨G2,c,D',j,rfl,y2,ew,m,hc⟩
 have hl:D'.last=X.D.last:=by rcases hc with ⟨_,rfl⟩ | ⟨j,t,_,_,_,_,rfl⟩ <;> rfl
 refine⟨_,rfl,G2,c,D',rfl,y2.mono sEnd_st,ew,⟨lb,mb,ts,em,bk,am,q,tb,x.mg y2 sO_end (by rw[hl];exact m)⟩,?_,hc⟩
 rcases hc with ⟨_,rfl⟩ | ⟨j,t,ht,h1,_,_,rfl⟩
 ·exact o
 ·exact o.set ht h1 (by simp[endT]) (by simp[endT])
theorem MgrIn.novers{mb:Nat}{D:MgrD}{em bk am:Nat}{q:Sl}{tb:Nat→Nat}{V:Prop}(x:MgrIn G h M mb V D em bk am q tb)(hV:¬ V):NoVers h em:=by
 obtain⟨vm,vl,vc,la,r,k,e,w,v,hv⟩:=x.ext.map
 have:vl = []:=Classical.byContradiction fun hn=>hV (hv hn)
 subst this
 intro vm' vl' vc' h1 h2
 have e1:hY h ((⟨em,0,none⟩:Addr).add 1)=some (.map (some vm)):=r.get rfl
 rw[e1]at h1
 injection h1 with h1
 injection h1 with h1
 injection h1 with h1
 subst h1
 rw[e]at h2
 injection h2 with h2
 exact(mapO_inj h2).1.symm
theorem sCommit_spec(t:HT G h)(x:StAt G h M sb db X)(hoff:X.off=false)(hM:M≤1000000){N:Nat}(o:MgrOk N X.D)(hd:Int):HC Tryz.prog 190 #[pv sb,.int .i64 hd] h fun r h'=>∃ (G':Gh) (c:Int) (D':MgrD),r=.int .i64 c∧To sSt G h G' h'∧G'.W=G.W∧StAt G' h' M sb db { X with D:=D' }∧MgrOk N D'∧CommitR X.D hd D' c∧
 (∀ (j:Nat) (t:TxS),X.D.txs[j]? = some t→t.state=1→hd=((j+1:Nat):Int)→t.P ≠ []→X.D.read=false→X.D.last=0→X.D.queue = []→X.D.given<1099511627776→c=0):=by
 obtain⟨lb,mb,ts,em,bk,am,q,tb,x⟩:=x
 apply wc190
 unfold vc190
 refine(sDead_spec x).mono ?_
 rintro _ _ ⟨rfl,hh⟩
 obtain rfl:=hh
 have hq:=x.mgr.q16 o
 refine⟨_,rfl,.no hoff ⟨_,rfl,_,x.row.get rfl,(mCommit_spec t x.mgr hM o.qok (by omega) (fun j t ht=>by have:=(x.mgr.plen j t ht).1;omega) o.given.1 hd).mono ?_⟩⟩
 rintro _ h2 ⟨G2,c,D',q',j,rfl,y2,ew,m,hc,hx⟩
 have hl:D'.last=X.D.last:=by rcases hc with ⟨_,rfl,_⟩ | ⟨j,t,_,_,_,⟨_,_,rfl⟩ | ⟨_,_,rfl⟩ | ⟨_,_,_,rfl⟩⟩ <;> rfl
 refine⟨_,rfl,G2,c,D',rfl,y2.mono sCommit_st,ew,⟨lb,mb,ts,em,bk,am,q',tb,x.mg y2 sO_commit (by rw[hl];exact m)⟩,o.commit hc,hc,fun j t h1 h2 h3 h4 h5 h6 h7 h8=>?_⟩
 exact hx j t h1 h2 h3 h4 h5 (x.mgr.novers (by omega)) h7 h8
theorem sResult_spec(x:StAt G h M sb db X)(hd:Int):HC Tryz.prog 189 #[pv sb,.int .i64 hd] h fun r h'=>h'=h∧((r=.tuple #[.int .i64 0,.int .i64 0,.int .i64 0]∧¬ ∃ j:Nat,j<X.D.txs.length∧hd=((j+1:Nat):Int)) ∨∃ (j:Nat) (t:TxS),X.D.txs[j]? = some t∧hd=((j+1:Nat):Int)∧r=.tuple #[.int .i64 (t.state:Int),.int .i64 t.time,.int .i64 t.code]):=by
 obtain⟨lb,mb,ts,em,bk,am,q,tb,x⟩:=x
 apply wc189
 unfold vc189
 refine(sManager_spec x).mono ?_
 rintro _ _ ⟨rfl,hh⟩
 obtain rfl:=hh
 refine⟨_,rfl,(mResult_spec x.mgr hd).mono ?_⟩
 rintro _ _ ⟨hh,hr⟩
 obtain rfl:=hh
 rcases hr with ⟨rfl,hn⟩ | ⟨j,t,h1,h2,rfl⟩
 ·exact⟨_,_,_,rfl,rfl,.inl ⟨rfl,hn⟩⟩
 ·exact⟨_,_,_,rfl,rfl,.inr ⟨j,t,h1,h2,rfl⟩⟩
theorem sReadOnly_spec(t:HT G h)(x:StAt G h M sb db X){N:Nat}(o:MgrOk N X.D)(yes:Bool):HC Tryz.prog 55 #[pv sb,.bool yes] h fun r h'=>∃ G':Gh,r=.tuple #[]∧To sSt G h G' h'∧G'.W=G.W∧StAt G' h' M sb db { X with D:={ X.D with read:=yes } }∧MgrOk N { X.D with read:=yes }:=by
 obtain⟨lb,mb,ts,em,bk,am,q,tb,x⟩:=x
 apply wc55
 unfold vc55
 refine(sManager_spec x).mono ?_
 rintro _ _ ⟨rfl,hh⟩
 obtain rfl:=hh
 refine⟨_,rfl,(mReadOnly_spec t x.mgr yes).mono ?_⟩
 rintro _ h2 ⟨rfl,y2,m⟩
 exact⟨rfl,G,rfl,y2.mono s3_st,rfl,⟨lb,mb,ts,em,bk,am,q,tb,x.mg y2 sO_3 m⟩,⟨o.len,o.qok,o.nodup,o.st,o.out,o.last,o.given,o.tq⟩⟩
theorem sClean_spec(t:HT G h)(x:StAt G h M sb db X)(hoff:X.off=false)(hM:M≤1000000):HC Tryz.prog 54 #[pv sb] h fun r h'=>∃ (G':Gh) (n:Int),r=.int .i64 n∧To sSt G h G' h'∧G'.W=G.W∧StAt G' h' M sb db X:=by
 obtain⟨lb,mb,ts,em,bk,am,q,tb,x⟩:=x
 apply wc54
 unfold vc54
 refine(sDead_spec x).mono ?_
 rintro _ _ ⟨rfl,hh⟩
 obtain rfl:=hh
 refine⟨_,rfl,.no hoff ⟨_,rfl,_,x.row.get rfl,(mPrune_spec t x.mgr hM).mono ?_⟩⟩
 rintro _ h2 ⟨G2,n,rfl,y2,ew,m⟩
 exact⟨_,rfl,G2,n,rfl,y2.mono sExt_st,ew,lb,mb,ts,em,bk,am,q,tb,x.mg y2 sO_ext m⟩
theorem sHistory_spec(t:HT G h)(x:StAt G h M sb db X)(hM:M≤1000000)(hd:Int):HC Tryz.prog 38 #[pv sb,.int .i64 hd] h fun r h'=>∃ (G':Gh) (rs ps:Sl) (st bg tm:Int) (P:List PutD),r=histV st bg tm 0 0 rs ps∧To (fun _=>False) G h G' h'∧G'.W=G.W∧SlA G' (.reads 0) rs∧rs.len≤M∧SlP G' ps P∧P.length≤16∧StAt G' h' M sb db X∧
 ∀ (j:Nat) (t:TxS),X.D.txs[j]? = some t→hd=((j+1:Nat):Int)→st=t.state∧P=t.P:=by
 obtain⟨lb,mb,ts,em,bk,am,q,tb,x⟩:=x
 apply wc38
 unfold vc38
 intro h1
 have e1:Ext h h1:=alc_ext _ _ _
 have r1:Row h1 h.size [.int .i64 (0:Int),.int .i64 (0:Int),.int .i64 (0:Int),.int .i64 (0:Int),.int .i64 (0:Int),.slice Sl.nil.base Sl.nil.len Sl.nil.cap,.slice Sl.nil.base Sl.nil.len Sl.nil.cap]:=Row.alc _ _ _
 have s1:h1.size=h.size+1:=size_alc _ _ _
 have x1:=x.pure (e1.to t)
 refine(sManager_spec x1).mono ?_
 rintro _ _ ⟨rfl,hh⟩
 obtain rfl:=hh
 refine⟨_,rfl,(mHistory_spec (t.ext e1) x1.mgr hM hd).mono ?_⟩
 rintro _ h2 ⟨G2,rs,ps,st,bg,tm,P,rfl,y2,ew,ha,hl,hp,hP,hx⟩
 have e2:=y2.toExt
 have r2:=r1.ext e2
 refine⟨_,_,_,_,_,rs,ps,rfl,out7 r2 rfl _ _ _ _ _ _ _ fun h3 on s3 r3=>?_⟩
 have e3:To (fun _=>False) G h G2 h3:=by
  refine⟨y2.le,fun b hb=>y2.old b (by omega),by have:=y2.size;omega,fun b hb _=>?_,?_⟩
  ·rw[on.block b (by have:=y2.size;omega) (by omega),e2.block b (by omega),e1.block b hb]
  ·refine y2.ht.other (b:=h.size) ?_ (by omega) fun k hk hne=>on.block k hk hne
   rw[y2.old _ (by omega),t.fresh (Nat.le_refl _)];exact fun h=>h
 exact⟨G2,rs,ps,st,bg,tm,P,rfl,e3,ew,ha,hl,hp,hP,⟨lb,mb,ts,em,bk,am,q,tb,x.pure e3⟩,hx⟩
end
end Go.Proofs.YtdpdkpfnfllipaaGreatDoor
