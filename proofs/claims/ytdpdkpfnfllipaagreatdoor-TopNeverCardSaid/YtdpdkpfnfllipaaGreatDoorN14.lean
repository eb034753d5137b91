/- A part of the proof, no condition. -/
import Derived.Test.YtdpdkpfnfllipaaGreatDoorN5
import Derived.Test.YtdpdkpfnfllipaaGreatDoorN6
import Derived.Test.YtdpdkpfnfllipaaGreatDoorN11
import Derived.Test.YtdpdkpfnfllipaaGreatDoorN13
set_option linter.unusedVariables false
set_option linter.unusedSimpArgs false
namespace Go.Proofs.YtdpdkpfnfllipaaGreatDoor
def Dv.add(d:Dv)(z:Zn):Dv:={ d with zs:=d.zs ++ [z] }
theorem Dv.add_z(d:Dv)(z:Zn)(j:Nat)(hj:j≤d.zs.length):(d.add z).z j=if j=d.zs.length then z else d.z j:=by
 simp only[Dv.z,Dv.add,List.getD_eq_getElem?_getD]
 split
 ·rename_i e;subst e;simp
 ·rw[List.getElem?_append_left (by omega)]
theorem DevIn.addZone{lo e ty:Nat}{zc:Array Value}{F:Nat→Nat}{h:Hp}{db b:Nat}{d:Dv}{zs:Sl}{zb:List Nat}{z:Zn}{K:Sl→Hp→Prop}(hzc:zc.size=1)(x:DevIn lo F h db d zs zb)(hlo:lo≤h.size)(hz:ZoneAt F h d.zs.length b z)(hlen:d.zs.length≤1000)
 (hK:∀ r h3,h.size≤h3.size→Row h3 db (dvV d zs)→StOk h3 ((⟨db,0,none⟩:Addr).add 2)→(∀ h4,h4=hset h3 ((⟨db,0,none⟩:Addr).add 2) (.slice r.base r.len r.cap) →∃ F',DevIn lo F' h4 db (d.add z) r (zb ++ [b])∧(∀ c,c<h.size→F' c=F c)∧Chg F h h4)→K r h3) :
 AppC e 1 8 zc zs (Sl.mk (some (nw h)) 1 1) (alc h [pv b] ty) K:=by
 have e1:Ext h (alc h [pv b] ty):=alc_ext _ _ _
 have hzl:zs.len=d.zs.length:=by have:=x.own.len;have:=x.len;simp at *;omega
 have s1:(alc h [pv b] ty).size=h.size+1:=size_alc _ _ _
 refine AppC_own5 (news:=[pv b]) (l:=zb.map pv) hzc (x.own.ext e1) (Nat.zero_le _) rfl (RdC.alc h _ ty) (fun v hv=>by simp at hv;subst hv;rfl) (by rw[hzl];simp;omega) (by rw[hzl];simp;omega) fun r h3 o3 l3 k3 x3 b3=>?_
 have s3:=k3.size
 have same:∀ c,c<h.size→F c≠2→h3[c]? = h[c]?:=fun c hc h2=>by
  rw[x3 c (by omega) fun a ha e=>h2 (by rw[e,x.arr a ha]),e1.block c hc]
 have hdb:=(x.dom db (by rw[x.role];omega)).2
 have r3:Row h3 db (dvV d zs):=x.row.eq (same db hdb (by rw[x.role];omega))
 obtain⟨ok,r4,o4,s4⟩:=r3.set (i:=2) (by simp[dvV]) (.slice r.base r.len r.cap)
 refine hK r h3 (by omega) r3 ok ?_
 rintro h4 rfl
 obtain⟨F',f1,f2,f3,f4⟩:=addF (n:=h.size) (fun c hc=>(x.dom c hc).2) r.base 2 (by omega) (fun a ha=>by
  rcases b3 a ha with h | h
  ·exact .inr (x.arr a h)
  ·exact .inl (by omega))
 have hrb:∀ a,r.base=some a→a.block<h3.size:=fun a ha=>(o3.lt ha).2
 have all:∀ c,c<h.size→F c≠2→F c≠1→(hset h3 ((⟨db,0,none⟩:Addr).add 2) (.slice r.base r.len r.cap))[c]? = h[c]?:=fun c hc h2 h1=>by
  rw[o4 c fun e=>h1 (by rw[e,x.role]),same c hc h2]
 refine⟨F',⟨fun c hc=>?_,by rw[f4 _ (by rw[x.role];omega),x.role],r4,?_,f2,by simp[Dv.add,x.len],fun k hk=>?_⟩,f1,⟨by omega,fun c hc hF=>all c hc (by omega) (by omega)⟩⟩
 ·rcases f3 c hc with h | ⟨a,ha,rfl⟩
  ·have:=x.dom c h;exact⟨this.1,by omega⟩
  ·have:=hrb a ha
   rcases b3 a ha with h | h
   ·have:=x.dom _ (by rw[x.arr a h];omega);exact⟨this.1,by omega⟩
   ·exact⟨by omega,by omega⟩
 ·have e:(zb ++ [b]).map pv=zb.map pv ++ [pv b]:=by simp
  rw[e]
  refine o3.eq fun a ha=>o4 _ fun e=>?_
  have h1:=f2 a ha
  rw[e,f4 _ (by rw[x.role];omega),x.role]at h1;omega
 ·have hkl:k≤d.zs.length:=by have:=x.len;simp at hk;omega
  rw[d.add_z z k hkl]
  have mv:∀ {j c:Nat} {y:Zn},ZoneAt F h j c y→ZoneAt F' (hset h3 ((⟨db,0,none⟩:Addr).add 2) (.slice r.base r.len r.cap)) j c y:=fun {j c y} hy=>hy.move f4 fun q hq=>all q (x.dom q (by omega)).2 (by omega) (by omega)
  split
  ·rename_i e;subst e
   have:(zb ++ [b])[d.zs.length]'hk=b:=by simp[← x.len]
   rw[this];exact mv hz
  ·have hk':k<zb.length:=by rw[x.len];omega
   rw[List.getElem_append_left hk']
   exact mv (x.zone k hk')
def Dv.new(n size:Nat):Dv:=⟨n,size,List.replicate n ⟨[],0⟩,0,0,false,0,false⟩
theorem Dv.new_wf{n size:Nat}(hn:8≤n∧n≤64)(hs:96≤size∧size≤192):(Dv.new n size).Wf:=
 ⟨by simp[Dv.new],hn,hs,by show 0<_;omega,fun z hz=>by
  rw[List.eq_of_mem_replicate hz]
  exact⟨Nat.zero_le _,Nat.zero_le _,fun p hp=>by simp at hp⟩⟩
theorem Dv.new_z(n size j:Nat):(Dv.new n size).z j=⟨[],0⟩:=by
 unfold Dv.z Dv.new
 simp only[List.getD_eq_getElem?_getD,List.getElem?_replicate]
 split <;> rfl
def geoOk(n size:Int):Prop:=(8≤n∧n≤64)∧(96≤size∧size≤192)
theorem New_spec(n size:Int)(h:Hp):HC Tryz.prog 52 #[.agg #[.int .i64 n,.int .i64 size]] h fun r h'=>Ext h h'∧
 (¬ geoOk n size∧r=.tuple #[.pointer none,.int .i64 1]∨geoOk n size∧∃ F b,r=.tuple #[dp b,.int .i64 0]∧DevAt h.size F h' b (Dv.new n.toNat size.toNat)):=by
 apply wc52
 unfold vc52
 intro h1
 have e1:Ext h h1:=alc_ext _ _ _
 have r1:Row h1 h.size [.int .i64 n,.int .i64 size]:=Row.alc _ _ _
 refine⟨_,r1.get0 rfl,IfB.dec (fun hh=>⟨e1,.inl ⟨fun ok=>by have:=ok.1;omega,rfl⟩⟩) (fun h1'=>⟨_,r1.get0 rfl,IfB.dec (fun hh=>⟨e1,.inl ⟨fun ok=>by have:=ok.1;omega,rfl⟩⟩) (fun h2'=>⟨_,r1.get rfl,IfB.dec (fun hh=>⟨e1,.inl ⟨fun ok=>by have:=ok.2;omega,rfl⟩⟩) (fun h3'=>⟨_,r1.get rfl,IfB.dec (fun hh=>⟨e1,.inl ⟨fun ok=>by have:=ok.2;omega,rfl⟩⟩) (fun h4'=>?_)⟩)⟩)⟩)⟩
 have ok:geoOk n size:=⟨by omega,by omega⟩
 refine r1.get2 ?_
 obtain⟨n,rfl⟩:∃ k:Nat,n=k:=⟨n.toNat,by omega⟩
 obtain⟨size,rfl⟩:∃ k:Nat,size=k:=⟨size.toNat,by omega⟩
 intro h2
 have e2:Ext h1 h2:=alc_ext _ _ _
 have r2:Row h2 h1.size [.int .i64 (n:Int),.int .i64 (size:Int),.slice Sl.nil.base Sl.nil.len Sl.nil.cap,.int .i64 (0:Int),.int .i64 (0:Int),.bool false,.int .i64 (0:Int),.bool false]:=Row.alc _ _ _
 have s1:h1.size=h.size+1:=size_alc _ _ _
 have s2:h2.size=h1.size+1:=size_alc _ _ _
 refine⟨_,(r1.ext e2).get0 rfl,?_⟩
 rw[Int.toNat_natCast,Int.toNat_natCast]
 refine⟨fun i m h'=>∃ (j:Nat) (F:Nat→Nat) (zs:Sl) (zb:List Nat),i=j∧m+j=n∧DevIn h.size F h' h1.size { Dv.new n size with zs:=List.replicate j ⟨[],0⟩ } zs zb∧Ext h h',n,⟨0,fun b=>if b=h1.size then 1 else 0,Sl.nil,[],rfl,rfl,⟨?_,by simp,r2,Own.nil _ _ _,fun a ha=>(by cases ha),rfl,fun k hk=>by simp at hk⟩,e1.trans e2⟩,?_⟩
 ·intro b hb
  split at hb
  ·subst b;omega
  ·exact absurd rfl hb
 rintro _ _ m h3 ⟨j,F,zs,zb,rfl,hm,x,e3⟩
 refine IfB.dec (fun hlt=>?_) (fun hge=>?_)
 ·refine⟨_,rfl,zs,x.row.get rfl,?_⟩
  intro h4 h5
  have e4:Ext h3 h4:=alc_ext _ _ _
  have r4:Row h4 h3.size (znV Sl.nil 0):=Row.alc _ _ _
  have s4:h4.size=h3.size+1:=size_alc _ _ _
  have hs3:=e3.size
  obtain⟨F',f1,f2,f3,f4⟩:=addF (n:=h3.size) (fun c hc=>(x.dom c hc).2) (some ⟨h3.size,0,none⟩) (4+2*j) (by omega) (fun a ha=>.inl (by cases ha;exact Nat.le_refl _))
  have x4:DevIn h.size F' h4 h1.size { Dv.new n size with zs:=List.replicate j ⟨[],0⟩ } zs zb:=x.move f4 (fun b hb=>by
   rcases f3 b hb with h | ⟨a,ha,rfl⟩
   ·have:=x.dom b h;exact⟨this.1,by omega⟩
   ·cases ha;exact⟨hs3,by show h3.size<h4.size;omega⟩) fun c hc=>e4.block c (x.dom c hc).2
  have hzl:(List.replicate j (⟨[],0⟩:Zn)).length=j:=by simp
  refine x4.addZone (z:=⟨[],0⟩) (b:=h3.size) rfl (by omega) ⟨Sl.nil,[],⟨by simp only[hzl];exact f2 _ rfl,r4,Own.nil _ _ _,fun a ha=>(by cases ha),rfl,fun p hp=>by simp at hp,fun p hp=>by simp at hp⟩⟩ (by simp;omega) fun r h6 s6 r6 ok6 g=>⟨_,rfl,ok6,?_⟩
  obtain⟨F6,x6,g1,g2⟩:=g _ rfl
  refine⟨m-1,by omega,j+1,F6,r,zb ++ [h3.size],by rw[iAdd64 (by omega)];push_cast;rfl,by omega,?_,?_⟩
  ·have:({ Dv.new n size with zs:=List.replicate j ⟨[],0⟩ }:Dv).add ⟨[],0⟩ = { Dv.new n size with zs:=List.replicate (j+1) ⟨[],0⟩ }:=by
    simp[Dv.add,List.replicate_succ']
   rw[← this];exact x6
  ·refine g2.ext (e3.trans e4) fun b hb=>?_
   rw[f1 b (by omega)]
   rcases Nat.eq_zero_or_pos (F b) with h | h
   ·exact h
   ·have:=(x.dom b (by omega)).1;omega
 ·have hj:j=n:=by omega
  subst hj
  exact⟨e3,.inr ⟨ok,F,h1.size,rfl,Dv.new_wf (by have:=ok.1;omega) (by have:=ok.2;omega),zs,zb,x⟩⟩
theorem own_spec{h:Hp}{s:Sl}{rows:List (Sl × List UInt8)}(hr:RdC h s.base (rows.map fun p=>slV p.1))(hl:s.len=rows.length)(each:∀ p∈rows,Rd 1 h p.1 (p.2.map bv))(h64:∀ p∈rows,p.2.length≤1000000)(hmax:rows.length≤1000000) :
 HC Tryz.prog 63 #[.slice s.base s.len s.cap] h fun r h'=>∃ t rows',r=slV t∧OwnRows h.size h' t rows'∧rows'.map (·.2)=rows.map (·.2)∧Ext h h':=by
 apply wc63
 unfold vc63
 refine⟨fun out i m h'=>∃ (j:Nat) (rows':List (Sl × List UInt8)),i=j∧m+j=rows.length∧OwnRows h.size h' out rows'∧rows'.map (·.2)=(rows.take j).map (·.2)∧Ext h h',rows.length,⟨0,[],rfl,rfl,OwnRows.nil _ _,rfl,.refl _⟩,?_⟩
 rintro _ out _ m h1 ⟨j,rows',rfl,hm,o1,q1,e1⟩
 refine IfB.dec (fun hlt=>?_) (fun hge=>?_)
 ·have hj:j<rows.length:=by omega
  have hmem:rows[j]∈rows:=List.getElem_mem hj
  refine ixS (hr.ext e1) hl j rfl hj ?_
  refine(slClone_spec ((each _ hmem).ext e1) (by have:=h64 _ hmem;omega)).mono ?_
  rintro _ h2 ⟨u,rfl,ou,lu,e2⟩
  refine⟨u,rfl,?_⟩
  intro h3
  have hlen:rows'.length=j:=by have:=congrArg List.length q1;simp at this;omega
  refine OwnRows.push rfl o1 e1.size e2 ou (by omega) (fun r h4 o4 l4 k4 x4 b4=>?_) (by omega)
  refine⟨m-1,by omega,j+1,_,by rw[iAdd64 (by omega)];push_cast;rfl,by omega,o4,?_,(e1.toKeep.trans k4).ext⟩
  rw[List.map_append,q1,List.take_succ_eq_append_getElem hj,List.map_append];rfl
 ·have hj:j=rows.length:=by omega
  subst hj
  rw[List.take_length]at q1
  exact⟨out,rows',rfl,o1,q1,e1⟩
theorem tear_spec{h:Hp}{p:Sl}{q:List UInt8}(rp:Rd 1 h p (q.map bv))(h64:q.length=64) :
 HC Tryz.prog 64 #[.slice p.base p.len p.cap] h (NewB h (tornL q)):=by
 apply wc64
 unfold vc64
 refine(slClone_spec rp (by omega)).mono ?_
 rintro _ h1 ⟨s,rfl,o6,l6,e06⟩
 have hs:s.len=64:=by rw[l6];omega
 refine⟨s,rfl,?_⟩
 have torn32:q.take 32++((q.drop 32).map (· ^^^ 85)).take 0++q.drop 32=q:=by simp
 refine⟨fun i m h'=>∃ j:Nat,i=((32+j:Nat):Int)∧m+j=32∧Ext h h'∧Own h.size 1 h' s ((q.take 32++((q.drop 32).map (· ^^^ 85)).take j++q.drop (32+j)).map bv),32,⟨0,rfl,rfl,e06,by rw[Nat.add_zero,torn32];exact o6⟩,?_⟩
 rintro _ _ m h7 ⟨j,rfl,hm,e7,o7⟩
 have hl7:=o7.toRd.lenB
 refine IfB.dec (fun hlt=>?_) (fun hge=>?_)
 ·have hj:32+j<q.length:=by omega
  refine ixB o7.rd hl7 (32+j) rfl (by omega) ?_
  have hg:(q.take 32++((q.drop 32).map (· ^^^ 85)).take j++q.drop (32+j))[32+j]'(by omega)=q[32+j]:=by
   have hx:(q.take 32++((q.drop 32).map (· ^^^ 85)).take j).length=32+j:=by simp;omega
   rw[List.getElem_append_right (by omega),List.getElem_drop]
   congr 1;omega
  rw[hg]
  obtain⟨b,hb,_⟩:=o7.rd.get (i:=0) (by rw[List.length_map];omega)
  obtain⟨ok1,o8,k8,_,s8⟩:=o7.set hb (k:=32+j) (by rw[List.length_map];omega) (bv (q[32+j] ^^^ 85))
  refine⟨b,hb,by omega,hlt,?_⟩
  have hv:Value.int .u8 (iXor .u8 (q[32+j].toNat:Int) (85:Int))=bv (q[32+j] ^^^ 85):=by
   have:=xor_bv q[32+j] 85
   exact congrArg (Value.int .u8) this
  rw[hv]
  simp only[Int.toNat_natCast,Nat.mul_one]
  refine⟨ok1,m-1,by omega,j+1,by rw[iAdd64 (by omega)];push_cast;omega,by omega,(e7.toKeep.trans k8).ext,?_⟩
  have hset:(q.take 32++((q.drop 32).map (· ^^^ 85)).take j++q.drop (32+j)).set (32+j) (q[32+j] ^^^ 85)=q.take 32++((q.drop 32).map (· ^^^ 85)).take (j+1)++q.drop (32+(j+1)):=by
   have hx:(q.take 32++((q.drop 32).map (· ^^^ 85)).take j).length=32+j:=by simp;omega
   rw[List.set_append_right _ _ (by omega),hx,Nat.sub_self,List.drop_eq_getElem_cons hj,List.set_cons_zero]
   rw[List.take_succ_eq_append_getElem (i:=j) (by simp;omega)]
   simp only[List.getElem_map,List.getElem_drop,List.append_assoc,List.cons_append,List.nil_append]
   rfl
  rw[← hset,List.map_set];exact o8
 ·have hj:j=32:=by omega
  subst hj
  have he:q.take 32++((q.drop 32).map (· ^^^ 85)).take 32++q.drop (32+32)=tornL q:=by
   unfold tornL
   have hnil:q.drop (32+32) = []:=List.drop_eq_nil_of_le (by omega)
   rw[List.take_of_length_le (l:=(q.drop 32).map (· ^^^ 85)) (by simp;omega),hnil,List.append_nil]
  rw[he]at o7
  exact⟨s,rfl,o7,o7.toRd.lenB.symm,e7⟩
def pickL(l:List Int)(k:Nat):Option Int:=if l.length=0 then none else l[k % l.length]?
theorem pick_spec{h:Hp}{s:Sl}{l:List Int}(hl:l.length=s.len)(hr:RdC h s.base (l.map (Value.int .i64)))(k:Nat) :
 HC Tryz.prog 61 #[.slice s.base s.len s.cap,.int .i64 (k:Int)] h fun r h'=>h'=h∧(pickL l k=none∧r=.tuple #[.int .i64 0,.bool false] ∨∃ x,pickL l k=some x∧r=.tuple #[.int .i64 x,.bool true]):=by
 apply wc61
 unfold vc61 pickL
 refine IfB.eq (fun h0=>⟨rfl,.inl ⟨by rw[if_pos (by omega)],rfl⟩⟩) (fun h0=>⟨h0,?_⟩)
 have hpos:0<l.length:=by omega
 have hm:k % l.length<l.length:=Nat.mod_lt _ hpos
 have er:iRem (k:Int) (s.len:Int)=((k % l.length:Nat):Int):=by rw[iRem_nn (by omega),hl];push_cast;rfl
 rw[er,if_neg (by omega)]
 refine ix1 hr (by simpa using hl) (k % l.length) rfl (by simpa using hm) fun a _ hc=>⟨l[k % l.length],by simpa using hc,rfl,.inr ⟨_,List.getElem?_eq_getElem hm,rfl⟩⟩
theorem rest_spec(n m:Int)(hm:0<m)(hm2:m≤9223372036854775807)(h:Hp):HC Tryz.prog 62 #[.int .i64 n,.int .i64 m] h fun r h'=>h'=h∧r=.int .i64 (n % m):=by
 apply wc62
 unfold vc62
 have e:=emod_of_tmod (k:=n) hm
 have h1:=Int.emod_nonneg n (show m≠0 by omega)
 have h2:=Int.emod_lt_of_pos n hm
 refine⟨by omega,?_⟩
 unfold iRem
 refine IfB.dec (fun hlt=>?_) (fun hge=>?_)
 ·rw[if_pos hlt]at e
  rw[iAdd64 (by omega)]
  exact⟨rfl,by rw[e]⟩
 ·rw[if_neg hge]at e
  exact⟨rfl,by rw[e]⟩
theorem roleNew{lo:Nat}{F:Nat→Nat}{h h1:Hp}{bs:Sl}{rows:List (Sl × List UInt8)}(hd:∀ c,F c≠0→lo≤c∧c<h.size)(hlo:lo≤h.size)(e1:Ext h h1)(o:OwnRows h.size h1 bs rows)(k:Nat) :
 ∃ F':Nat→Nat,(∀ c,c<h.size→F' c=F c)∧(∀ c,F' c≠0→lo≤c∧c<h1.size)∧(∀ a,bs.base=some a→F' a.block=5+2*k)∧(∀ p∈rows,∀ a,p.1.base=some a→F' a.block=3)∧(∀ c,F c≠0→F' c=F c):=by
 have hs:=e1.size
 refine⟨fun c=>if c<h.size then F c else if c<h1.size then (if bs.base.map (·.block)=some c then 5+2*k else 3) else 0,fun c hc=>if_pos hc,fun c hc=>?_,fun a ha=>?_,fun p hp a ha=>?_,fun c hc=>if_pos (hd c hc).2⟩
 ·have hc:(if c<h.size then F c else if c<h1.size then (if bs.base.map (·.block)=some c then 5+2*k else 3) else 0)≠0:=hc
  by_cases h1:c<h.size
  ·rw[if_pos h1]at hc;have:=hd c hc;exact⟨this.1,by omega⟩
  ·rw[if_neg h1]at hc
   split at hc
   ·exact⟨by omega,by assumption⟩
   ·exact absurd rfl hc
 ·have:=o.own.lt ha
  show(if a.block<h.size then _ else _)=_
  rw[if_neg (by omega),if_pos this.2,ha];simp
 ·obtain⟨h1,h2,h3⟩:=o.base p hp a ha
  show(if a.block<h.size then _ else _)=_
  rw[if_neg (by omega),if_pos h2,if_neg]
  intro e
  obtain⟨a',ha',hab⟩:=Option.map_eq_some_iff.1 e
  exact h3 a' ha' hab.symm
theorem DevIn.zsetNew{lo:Nat}{F:Nat→Nat}{h:Hp}{db:Nat}{d:Dv}{zs:Sl}{zb:List Nat}(x:DevIn lo F h db d zs zb)(hlo:lo≤h.size){k:Nat}(hk:k<zb.length){h1:Hp}(e1:Ext h h1){bs:Sl}{rows:List (Sl × List UInt8)}(o:OwnRows h.size h1 bs rows){g:Nat}{K:Hp→Prop}
 (hK:∀ h2 F',DevIn lo F' h2 db (d.setZ k ⟨rows.map (·.2),g⟩) zs zb→(∀ c,c<h.size→F' c=F c)→Chg F h h2→K h2):stCells ⟨zb[k],0,none⟩ 0 [.slice bs.base bs.len bs.cap,.int .i64 (g:Int)] h1 K:=by
 obtain⟨F',f1,f2,f3,f4,f5⟩:=roleNew x.dom hlo e1 o k
 have x1:DevIn lo F' h1 db d zs zb:=x.move f5 f2 fun c hc=>e1.block c (x.dom c hc).2
 obtain⟨bs0,rows0,y⟩:=x1.zone k hk
 obtain⟨_,_,y0⟩:=x.zone k hk
 refine y.row.put (vs:=znV bs g) rfl (by simp[znV,cellOk]) fun h2 r2 s2 o2=>?_
 refine hK h2 F' (x1.zset hk (z:=⟨rows.map (·.2),g⟩) r2 s2 o2 (o.own.weak (Nat.zero_le _)) f3 rfl o.each f4) f1 ⟨by rw[s2];exact e1.size,fun c hc hF=>?_⟩
 rw[o2 c fun e=>by rw[e,y0.role]at hF;omega,e1.block c hc]
def Zn.keep(z:Zn)(px:Option Int):Nat:=
 match px with
 | none=>z.good
 | some x=>z.good+(x % ((z.rows.length-z.good+1:Nat):Int)).toNat
open Classical in
noncomputable def Zn.tornT (z:Zn) (n:Nat) (tx:Option Int):List (List UInt8):=
 match tx with
 | none=>[]
 | some x=>if n<z.rows.length∧x.tmod 2≠0 then [tornL (z.rows.getD n [])] else []
noncomputable def Zn.crash(z:Zn)(px tx:Option Int):Zn:=
 ⟨z.rows.take (z.keep px)++z.tornT (z.keep px) tx,(z.rows.take (z.keep px)++z.tornT (z.keep px) tx).length⟩
theorem Zn.keep_le{size:Nat}{z:Zn}(w:z.Wf size)(px:Option Int):z.good≤z.keep px∧z.keep px≤z.rows.length:=by
 have:=w.good
 cases px with
 | none=>exact⟨Nat.le_refl _,this⟩
 | some x=>
   simp only[Zn.keep]
   have h1:=Int.emod_nonneg x (show((z.rows.length-z.good+1:Nat):Int)≠0 by omega)
   have h2:=Int.emod_lt_of_pos x (show(0:Int)<((z.rows.length-z.good+1:Nat):Int) by omega)
   omega
theorem tornL_length{q:List UInt8}(h:q.length=64):(tornL q).length=64:=by simp[tornL,h]
theorem Zn.crash_wf{size:Nat}{z:Zn}(w:z.Wf size)(px tx:Option Int):(z.crash px tx).Wf size:=by
 obtain⟨h1,h2⟩:=z.keep_le w px
 have hr:=w.rows
 have ht:(z.tornT (z.keep px) tx).length≤z.rows.length-z.keep px∧∀ p∈z.tornT (z.keep px) tx,p.length=64:=by
  unfold Zn.tornT
  cases tx with
  | none=>exact⟨Nat.zero_le _,fun p hp=>by simp at hp⟩
  | some x=>
    simp only
    split
    ·rename_i hh
     refine⟨by simp;omega,fun p hp=>?_⟩
     simp only[List.mem_cons,List.not_mem_nil,or_false]at hp
     subst hp
     apply tornL_length
     rw[List.getD_eq_getElem?_getD,List.getElem?_eq_getElem hh.1]
     exact w.each _ (List.getElem_mem _)
    ·exact⟨Nat.zero_le _,fun p hp=>by simp at hp⟩
 refine⟨?_,Nat.le_refl _,fun p hp=>?_⟩
 ·simp only[Zn.crash,List.length_append,List.length_take];omega
 ·rcases List.mem_append.1 hp with hp | hp
  ·exact w.each p (List.mem_of_mem_take hp)
  ·exact ht.2 p hp
def mkZ(n:Nat)(f:Nat→Zn):List Zn:=(List.range n).map f
theorem mkZ_length(n:Nat)(f:Nat→Zn):(mkZ n f).length=n:=by simp[mkZ]
theorem mkZ_get{n:Nat}{f:Nat→Zn}{k:Nat}(hk:k<n):(mkZ n f)[k]? = some (f k):=by simp[mkZ,hk]
theorem mkZ_set{n:Nat}{f:Nat→Zn}{j:Nat}(v:Zn):(mkZ n f).set j v=mkZ n fun k=>if k=j then v else f k:=by
 apply List.ext_getElem?
 intro k
 rw[List.getElem?_set,mkZ_length]
 by_cases hk:k<n
 ·rw[mkZ_get hk,mkZ_get hk]
  by_cases e:j=k
  ·subst e;simp[hk]
  ·rw[if_neg e,if_neg (Ne.symm e)]
 ·rw[List.getElem?_eq_none (by rw[mkZ_length];omega),List.getElem?_eq_none (by rw[mkZ_length];omega)]
  split
  ·rw[if_neg (by omega)]
  ·rfl
noncomputable def Dv.crash(d:Dv)(picks torn:List Int):Dv:={ Dv.new d.n d.size with zs:=mkZ d.n fun k=>(d.z k).crash (pickL picks k) (pickL torn k) }
theorem Dv.crash_z(d:Dv)(picks torn:List Int){k:Nat}(hk:k<d.n):(d.crash picks torn).z k=(d.z k).crash (pickL picks k) (pickL torn k):=by
 unfold Dv.z Dv.crash
 simp only[List.getD_eq_getElem?_getD,mkZ_get hk];rfl
theorem Dv.Wf.crash{d:Dv}(w:d.Wf)(picks torn:List Int):(d.crash picks torn).Wf:=
 ⟨(mkZ_length _ _).symm,w.zones,w.size,by show 0<_;omega,fun z hz=>by
  obtain⟨k,hk,rfl⟩:=List.mem_map.1 hz
  exact Zn.crash_wf (w.zone k) _ _⟩
noncomputable def Dv.crashN(d:Dv)(picks torn:List Int)(j:Nat):Dv:={ Dv.new d.n d.size with zs:=mkZ d.n fun k=>if k<j then (d.z k).crash (pickL picks k) (pickL torn k) else ⟨[],0⟩ }
theorem Dv.crashN_succ(d:Dv)(picks torn:List Int)(j:Nat):d.crashN picks torn (j+1)=(d.crashN picks torn j).setZ j ((d.z j).crash (pickL picks j) (pickL torn j)):=by
 unfold Dv.crashN Dv.setZ
 simp only[mkZ_set]
 congr 2
 funext k
 by_cases e:k=j
 ·subst e;simp
 ·rw[if_neg e]
  by_cases hk:k<j
  ·rw[if_pos hk,if_pos (by omega)]
  ·rw[if_neg hk,if_neg (by omega)]
theorem Crash_spec{lo:Nat}{F:Nat→Nat}{h:Hp}{db:Nat}{d:Dv}(x:DevAt lo F h db d){s t:Sl}{picks torn:List Int}(hs:picks.length=s.len)(rs:RdC h s.base (picks.map (Value.int .i64)))(ht:torn.length=t.len)(rt:RdC h t.base (torn.map (Value.int .i64))) :
 HC Tryz.prog 34 #[dp db,.slice s.base s.len s.cap,.slice t.base t.len t.cap] h fun r h'=>Ext h h'∧∃ F' b,r=dp b∧DevAt h.size F' h' b (d.crash picks torn):=by
 obtain⟨w,zs,zb,x⟩:=x
 apply wc34
 unfold vc34
 refine(goneA_spec w x).mono ?_
 rintro _ h ⟨rfl,rfl⟩
 refine⟨_,rfl,.ff ⟨_,rfl,_,_,x.row.get0 rfl,x.row.get rfl,?_⟩⟩
 refine(New_spec _ _ h).mono ?_
 rintro _ h1 ⟨e1,⟨hno,_⟩ | ⟨_,Fo,ob,rfl,wo,zo,zbo,xo⟩⟩
 ·exfalso
  refine hno ⟨?_,?_⟩
  ·have:=w.zones;omega
  ·have:=w.size;omega
 rw[Int.toNat_natCast,Int.toNat_natCast]at xo
 have hzn:=w.n
 have hzl:zs.len=d.n:=by have:=x.own.len;have:=x.len;simp at *;omega
 have hz64:=w.zones
 have hxl:=x.len
 refine⟨_,_,rfl,_,rfl,zs,(x.ext e1).row.get rfl,?_⟩
 refine⟨fun i m h'=>∃ (j:Nat) (F':Nat→Nat) (zs':Sl) (zb':List Nat),i=j∧m+j=d.n∧DevIn h.size F' h' ob (d.crashN picks torn j) zs' zb'∧Ext h h',d.n,⟨0,Fo,zo,zbo,rfl,rfl,?_,e1⟩,?_⟩
 ·have:d.crashN picks torn 0=Dv.new d.n d.size:=by
   unfold Dv.crashN Dv.new mkZ
   simp only[Nat.not_lt_zero,if_false]
   congr 1
   apply List.ext_getElem <;> simp
  rw[this];exact xo
 rintro _ _ m h2 ⟨j,F2,zs2,zb2,rfl,hm,x2,e2⟩
 have hs2:=e2.size
 refine IfB.dec (fun hlt=>?_) (fun hge=>?_)
 ·have hj:j<d.n:=by omega
  have hk:j<zb.length:=by rw[x.len];omega
  have hk2:j<zb2.length:=by rw[x2.len];simp[Dv.crashN,mkZ_length];exact hj
  have xd:=x.ext e2
  have wz:=w.zone j
  have hsz:=w.size
  have hwr:=wz.rows
  have hwg:=wz.good
  refine ix1 xd.own.rd (by simp;omega) j rfl (by simpa using hk) fun a _ hc=>⟨some ⟨zb[j],0,none⟩,by simpa [pv] using hc,?_⟩
  obtain⟨bs,rows,y⟩:=xd.zone j hk
  have hyl:=y.slen
  refine⟨_,rfl,_,y.row.get rfl,_,rfl,bs,y.row.get0 rfl,?_⟩
  have hkeep:=(d.z j).keep_le wz (pickL picks j)
  refine⟨fun n h'=>h'=h2∧n=(((d.z j).keep (pickL picks j):Nat):Int),?_,?_⟩
  ·refine(pick_spec hs (rs.ext e2) j).mono ?_
   rintro _ h3 ⟨rfl,⟨hn,rfl⟩ | ⟨v,hv,rfl⟩⟩
   ·exact⟨_,_,rfl,.ff ⟨rfl,by rw[hn];rfl⟩⟩
   ·refine⟨_,_,rfl,.tt ?_⟩
    have e:iAdd .i64 (iSub .i64 (bs.len:Int) ((d.z j).good:Int)) 1=(((d.z j).rows.length-(d.z j).good+1:Nat):Int):=by
     rw[iSub64 (by omega),iAdd64 (by omega)];omega
    rw[e]
    refine(rest_spec v _ (by omega) (by omega) h3).mono ?_
    rintro _ h4 ⟨rfl,rfl⟩
    have h1:=Int.emod_nonneg v (show(((d.z j).rows.length-(d.z j).good+1:Nat):Int)≠0 by omega)
    have h2:=Int.emod_lt_of_pos v (show(0:Int)<(((d.z j).rows.length-(d.z j).good+1:Nat):Int) by omega)
    refine⟨_,rfl,rfl,?_⟩
    rw[iAdd64 (by omega),hv]
    simp only[Zn.keep];omega
  rintro _ _ h3 ⟨rfl,rfl⟩
  generalize hkp:(d.z j).keep (pickL picks j)=n at *
  have hcap:=y.own.le
  refine⟨_,rfl,bs,y.row.get0 rfl,by omega,by omega,by omega,by omega,?_⟩
  have hcut:=y.own.toRd.cut (lo:=0) (hi:=n) (m:=bs.cap) (by omega) (by omega) (by omega)
  have hcl:(cutSl bs ((0:Nat):Int) (n:Int) (bs.cap:Int) 1).len=(rows.take n).length:=by rw[cut_len];simp;omega
  have hcr:RdC h3 (cutSl bs ((0:Nat):Int) (n:Int) (bs.cap:Int) 1).base ((rows.take n).map fun p=>slV p.1):=by
   have:=hcut.rd
   simpa [List.map_take] using this
  refine(own_spec hcr hcl (fun p hp=>y.each p (List.mem_of_mem_take hp)) (fun p hp=>?_) (by simp;omega)).mono ?_
  ·have:=wz.each p.2 (by rw[y.eq];exact List.mem_map_of_mem (List.mem_of_mem_take hp))
   omega
  rintro _ h4 ⟨t4,rows4,rfl,o4,q4,e4⟩
  refine⟨t4,rfl,?_⟩
  have e24:=e2.trans e4
  have hrows4:rows4.map (·.2)=(d.z j).rows.take n:=by rw[q4,List.map_take,y.eq]
  have hl4:rows4.length=n:=by have:=congrArg List.length hrows4;simp at this;omega
  refine⟨fun l h'=>Ext h3 h'∧∃ rows',OwnRows h3.size h' l rows'∧rows'.map (·.2)=((d.z j).crash (pickL picks j) (pickL torn j)).rows,?_,?_⟩
  ·have plain:(d.z j).tornT n (pickL torn j) = []→Ext h3 h4∧∃ rows',OwnRows h3.size h4 t4 rows'∧rows'.map (·.2)=((d.z j).crash (pickL picks j) (pickL torn j)).rows:=fun hnil=>by
    refine⟨e4,rows4,o4,?_⟩
    simp only[Zn.crash,hkp,hnil,List.append_nil];exact hrows4
   refine(pick_spec ht (rt.ext e24) j).mono ?_
   rintro _ h5 ⟨rfl,⟨hn,rfl⟩ | ⟨v,hv,rfl⟩⟩
   ·exact⟨_,_,rfl,.ff (plain (by rw[hn];rfl))⟩
   ·refine⟨_,_,rfl,.tt (IfB.dec (fun hlt=>⟨by omega,IfB.ne (fun hodd=>?_) (fun heven=>plain ?_)⟩) (fun hge=>plain ?_))⟩
    ·have xd5:=xd.ext e4
     obtain⟨bs',rows',y'⟩:=xd5.zone j hk
     have hyl':=y'.slen
     refine⟨_,rfl,bs',y'.row.get0 rfl,?_⟩
     have hn':n<rows'.length:=by omega
     refine ixS y'.own.rd hyl'.2 n rfl hn' ?_
     have hmem:rows'[n]∈rows':=List.getElem_mem hn'
     have hl64:(rows'[n]).2.length=64:=wz.each _ (by rw[y'.eq];exact List.mem_map_of_mem hmem)
     refine(tear_spec (y'.each _ hmem) hl64).mono ?_
     rintro _ h6 ⟨u,rfl,ou,lu,e6⟩
     refine⟨u,rfl,?_⟩
     intro h7
     refine OwnRows.push rfl o4 e4.size e6 ou (by omega) (fun r h8 o8 l8 k8 x8 b8=>?_) (by omega)
     refine⟨(e4.toKeep.trans k8).ext,_,o8,?_⟩
     have hcond:n<(d.z j).rows.length∧v.tmod 2≠0:=⟨by omega,hodd⟩
     simp only[Zn.crash,hkp,Zn.tornT,hv,if_pos hcond,List.map_append,hrows4]
     congr 1
     rw[List.getD_eq_getElem?_getD,y'.eq]
     simp[hn']
    ·rw[hv];simp only[Zn.tornT];rw[if_neg (fun hc=>hc.2 heven)]
    ·rw[hv];simp only[Zn.tornT];rw[if_neg (fun hc=>by omega)]
  ·rintro _ l h5 ⟨e5,rows5,o5,q5⟩
   have x5:=x2.ext e5
   have hk2':=hk2
   have hl2:zs2.len=d.n:=by have:=x2.own.len;have h9:=x2.len;simp[Dv.crashN,mkZ_length]at *;omega
   refine⟨_,rfl,zs2,x5.row.get rfl,?_⟩
   refine ix1 x5.own.rd (by simp[x2.len,Dv.crashN,mkZ_length,hl2]) j rfl (by simpa using hk2) fun a _ hc=>⟨some ⟨zb2[j],0,none⟩,by simpa [pv] using hc,_,rfl,?_⟩
   have hl5:l.len=rows5.length:=o5.len
   refine x2.zsetNew hs2 hk2 e5 o5 fun h6 F6 x6 f6 c6=>?_
   refine⟨m-1,by omega,j+1,F6,zs2,zb2,by rw[iAdd64 (by omega)];push_cast;rfl,by omega,?_,c6.ext e2 fun b hb=>?_⟩
   ·rw[Dv.crashN_succ]
    have:(⟨rows5.map (·.2),l.len⟩:Zn)=(d.z j).crash (pickL picks j) (pickL torn j):=by
     have hlen:l.len=((d.z j).crash (pickL picks j) (pickL torn j)).rows.length:=by rw[← q5];simp;exact hl5
     rw[q5,hlen];rfl
    rw[← this];exact x6
   ·rcases Nat.eq_zero_or_pos (F2 b) with h | h
    ·exact h
    ·have:=(x2.dom b (by omega)).1;omega
 ·have hj:j=d.n:=by omega
  subst hj
  refine⟨e2,F2,ob,rfl,w.crash picks torn,zs2,zb2,?_⟩
  have:d.crashN picks torn d.n=d.crash picks torn:=by
   have hz:(mkZ d.n fun k=>if k<d.n then (d.z k).crash (pickL picks k) (pickL torn k) else ⟨[],0⟩)=mkZ d.n fun k=>(d.z k).crash (pickL picks k) (pickL torn k):=
    List.map_congr_left fun k hk=>by rw[if_pos (by simpa using hk)]
   unfold Dv.crashN Dv.crash
   rw[hz]
  rw[← this];exact x2
def blkAt(k:Int)(i:Nat):UInt8:=UInt8.ofNat ((iAdd .i64 (iAdd .i64 (iMul .i64 (i:Int) (i:Int)) (iMul .i64 k (7:Int))) (1:Int)) % 251).toNat
def blockL(n:Nat)(k:Int):List UInt8:=(List.range n).map (blkAt k)
theorem blockL_length(n:Nat)(k:Int):(blockL n k).length=n:=by simp[blockL]
theorem Block_spec(n:Int)(k:Int)(hn:n≤1000000)(h:Hp):HC Tryz.prog 45 #[.int .i64 n,.int .i64 k] h (NewB h (blockL n.toNat k)):=by
 apply wc45
 unfold vc45
 obtain⟨m,hm,hm2⟩:∃ m:Nat,(if n<0 then (0:Int) else n)=m∧n.toNat=m:=by
  by_cases h0:n<0
  ·exact⟨0,by rw[if_pos h0];rfl,by omega⟩
  ·exact⟨n.toNat,by rw[if_neg h0];omega,rfl⟩
 rw[hm,hm2]
 have hmb:m≤1000000:=by omega
 refine MkC_own (by omega) (by omega) ?_
 have o0:Own h.size 1 (alc h (List.replicate m (.int .u8 (0:Int))) 5) ⟨some (nw h),m,m⟩ (((blockL m k).take 0++List.replicate (m-0) 0).map bv):=by
  have:=Own.alc h (List.replicate m (.int .u8 (0:Int))) 5 m 1 (by simp)
  simpa [bv] using this
 refine⟨fun i q h'=>∃ j:Nat,i=j∧q+j=m∧Ext h h'∧Own h.size 1 h' ⟨some (nw h),m,m⟩ (((blockL m k).take j++List.replicate (m-j) 0).map bv),m,⟨0,rfl,rfl,alc_ext _ _ _,o0⟩,?_⟩
 rintro _ _ q h1 ⟨j,rfl,hq,e1,o1⟩
 refine IfB.dec (fun hlt=>?_) (fun hge=>?_)
 ·have hj:j<m:=by simp only at hlt;omega
  refine(Round_spec _ 251 (by omega) (by omega) h1).mono ?_
  rintro _ _ ⟨rfl,rfl⟩
  refine⟨_,rfl,_,rfl,by omega,hlt,?_⟩
  have hlen:((((blockL m k).take j++List.replicate (m-j) 0)).map bv).length=m:=by simp[blockL_length];omega
  obtain⟨ok,o2,k2,_,_⟩:=o1.set (a:=nw h) rfl (k:=j) (by rw[hlen];exact hj) (bv (blkAt k j))
  have hv:Value.int .u8 (iConv .u8 ((iAdd .i64 (iAdd .i64 (iMul .i64 (j:Int) (j:Int)) (iMul .i64 k (7:Int))) (1:Int)) % 251))=bv (blkAt k j):=by
   unfold blkAt
   rw[← bv_conv]
   congr 2
   have:=Int.emod_nonneg (iAdd .i64 (iAdd .i64 (iMul .i64 (j:Int) (j:Int)) (iMul .i64 k (7:Int))) (1:Int)) (show(251:Int)≠0 by omega)
   omega
  rw[hv]
  simp only[Int.toNat_natCast,Nat.mul_one]
  refine⟨ok,q-1,by omega,j+1,by rw[iAdd64 (by omega)];push_cast;rfl,by omega,(e1.toKeep.trans k2).ext,?_⟩
  have hset:((((blockL m k).take j++List.replicate (m-j) 0)).map bv).set j (bv (blkAt k j))=(((blockL m k).take (j+1)++List.replicate (m-(j+1)) 0)).map bv:=by
   rw[← List.map_set]
   congr 1
   have hjl:((blockL m k).take j).length=j:=by simp[blockL_length];omega
   rw[List.set_append_right _ _ (by omega),hjl,Nat.sub_self,show m-j=(m-(j+1))+1 by omega,List.replicate_succ,List.set_cons_zero]
   rw[List.take_succ_eq_append_getElem (by rw[blockL_length];exact hj)]
   simp[blockL]
  rw[← hset];exact o2
 ·have hj:j=m:=by simp only at hge;omega
  subst hj
  rw[Nat.sub_self,List.replicate_zero,List.append_nil,List.take_of_length_le (by rw[blockL_length];omega)]at o1
  exact⟨⟨some (nw h),j,j⟩,rfl,o1,by rw[blockL_length],e1⟩
def DevL(h0 h:Hp)(db:Nat)(d:Dv):Prop:=(∃ F,DevAt h0.size F h db d)∧Ext h0 h
theorem ptrL{h0 h:Hp}{db:Nat}{d:Dv}(x:DevL h0 h db d)(k:Nat)(hk:k<d.n){K:Int→Int→Hp→Prop}(hK:K ((d.z k).rows.length:Int) 0 h) :
 HC Tryz.prog 105 #[dp db,.int .i64 (k:Int)] h fun r2 vh2=>∃ c:Int,∃ c1:Int,r2=.tuple #[.int .i64 c,.int .i64 c1]∧K c c1 vh2:=by
 obtain⟨⟨F,x⟩,e0⟩:=x
 refine(Pointer_spec x _).mono ?_
 rintro _ h2 ⟨rfl,⟨hn,rfl⟩ | ⟨k',hk1,hk2,rfl⟩⟩
 ·exfalso;omega
 ·obtain rfl:k=k':=by omega
  exact⟨_,_,rfl,hK⟩
def Live(d:Dv):Prop:=d.cut=false∧d.off=false
theorem Live.dead{d:Dv}(l:Live d):d.dead=false:=by simp[Dv.dead,l.1,l.2]
theorem Live.tick{d:Dv}(l:Live d):Live d.tick:=⟨l.1,l.dead⟩
theorem Live.setZ{d:Dv}(l:Live d)(k:Nat)(z:Zn):Live (d.setZ k z):=l
theorem append_live{d:Dv}(l:Live d){k:Nat}(hk:k<d.n){p:List UInt8}(hp:p.length=64) :
 d.append (k:Int) p=if d.size≤(d.z k).rows.length then (((0:Int),(9:Int)),d.tick) else ((((d.z k).rows.length:Int),(0:Int)),d.tick.setZ k ⟨(d.z k).rows ++ [p],(d.z k).good⟩):=by
 unfold Dv.append
 rw[if_neg (by omega),if_neg (by omega),if_neg (by simp[l.dead]),Int.toNat_natCast]
theorem reset_live{d:Dv}(l:Live d){k:Nat}(hk:k<d.n):d.reset (k:Int)=(0,d.tick.setZ k ⟨[],0⟩):=by
 unfold Dv.reset
 rw[if_neg (by omega),if_neg (by simp[l.dead]),Int.toNat_natCast]
theorem flush_live{d:Dv}(l:Live d):d.flush=(0,d.tick.flushed):=by
 unfold Dv.flush
 rw[if_neg (by simp[l.dead])]
theorem Dv.flushed_z(d:Dv)(k:Nat):d.flushed.z k=⟨(d.z k).rows,(d.z k).rows.length⟩:=by
 unfold Dv.z Dv.flushed
 simp only[List.getD_eq_getElem?_getD,List.getElem?_map]
 cases d.zs[k]? <;> rfl
theorem new_live(n size:Nat):Live (Dv.new n size):=⟨rfl,rfl⟩
theorem OwnRows.pushG{lo e ty by_:Nat}{h:Hp}{t u:Sl}{rows:List (Sl × List UInt8)}{l:List UInt8}{zc:Array Value}{K:Sl→Hp→Prop}(hz:zc.size=1)(o:OwnRows lo h t rows)(hlo:lo≤h.size)(ru:Rd 1 h u (l.map bv))
 (bu:∀ a,u.base=some a→lo≤a.block∧a.block<h.size∧∀ a',t.base=some a'→a.block≠a'.block)
 (hb:(rows.length+1)*by_≤140737488355328) (hby:1≤by_) (hK:∀ r h',OwnRows lo h' r (rows ++ [(u,l)])→r.len=rows.length+1→Keep lo h h'→(∀ b,b<h.size→(∀ a,t.base=some a→b≠a.block)→h'[b]? = h[b]?)→K r h') :
 AppC e 1 by_ zc t (Sl.mk (some (nw h)) 1 1) (alc h [slV u] ty) K:=by
 have hlen:=o.len
 have hle:(rows.length+1)*1≤(rows.length+1)*by_:=Nat.mul_le_mul_left _ hby
 refine AppC_own5 (news:=[slV u]) (l:=rows.map fun p=>slV p.1) hz (o.own.ext (alc_ext h _ ty)) (by rw[size_alc];omega) rfl (RdC.alc h _ ty) (fun v hv=>by simp at hv;subst hv;rfl) (by rw[hlen];simpa using hb) (by rw[hlen];simp only;omega) fun r h' o' l' k' x' b'=>?_
 have s2:(alc h [slV u] ty).size=h.size+1:=size_alc _ _ _
 have same:∀ b,b<h.size→(∀ a,t.base=some a→b≠a.block)→h'[b]? = h[b]?:=fun b hb hne=>by rw[x' b (by omega) hne,alc_old _ _ _ hb]
 have kp:Keep lo h h':=⟨by have:=k'.size;omega,fun b hb=>by rw[k'.block b hb,alc_old _ _ _ (by omega)]⟩
 have hsz:=kp.size
 have hrb:∀ a',r.base=some a'→t.base=some a'∨h.size≤a'.block:=fun a' ha'=>by
  rcases b' a' ha' with h | h
  ·exact .inl h
  ·exact .inr (by omega)
 refine hK r h' ⟨by simpa using o',fun p hp=>?_,fun p hp a ha=>?_⟩ (by rw[l',hlen]) kp same
 ·rcases List.mem_append.1 hp with hp | hp
  ·exact(o.each p hp).eq fun a ha=>same _ (o.base p hp a ha).2.1 (o.base p hp a ha).2.2
  ·simp only[List.mem_cons,List.not_mem_nil,or_false]at hp
   subst hp
   exact ru.eq fun a ha=>same _ (bu a ha).2.1 (bu a ha).2.2
 ·have q:lo≤a.block∧a.block<h.size∧∀ a',t.base=some a'→a.block≠a'.block:=by
   rcases List.mem_append.1 hp with hp | hp
   ·exact o.base p hp a ha
   ·simp only[List.mem_cons,List.not_mem_nil,or_false]at hp
    subst hp;exact bu a ha
  refine⟨q.1,by omega,fun a' ha'=>?_⟩
  rcases hrb a' ha' with h | h
  ·exact q.2.2 a' h
  ·omega
theorem Row.chg{F:Nat→Nat}{h h':Hp}{b:Nat}{l:List Value}(r:Row h b l)(c:Chg F h h')(hF:F b=0):Row h' b l:=r.eq (c.block b r.lt hF)
theorem Chg.tr{F:Nat→Nat}{a b c:Hp}(x:Chg F a b)(y:Chg F b c):Chg F a c:=x.trans (fun _ _=>rfl) y
theorem DevTo.trans{lo:Nat}{F F':Nat→Nat}{h h1 h2:Hp}{db:Nat}{d2:Dv}(g:∀ b,b<h.size→F' b=F b)(c:Chg F h h1)(t:DevTo lo F' h1 h2 db d2):DevTo lo F h h2 db d2:=by
 obtain⟨F2,x2,g2,c2⟩:=t
 exact⟨F2,x2,fun b hb=>by rw[g2 b (Nat.lt_of_lt_of_le hb c.size),g b hb],c.trans g c2⟩
def goodB(p:List UInt8):Prop:=p.length=64∧goodP p
def zRows(d:Dv):Nat→Nat→List (List UInt8)
 | _,0=>[]
 | z,k+1=>(d.z z).rows++if (d.z z).rows.length<d.size then [] else zRows d (z+1) k
theorem zRows_len{d:Dv}(w:d.Wf)(z k:Nat):(zRows d z k).length≤k*192:=by
 induction k generalizing z with
 | zero=>simp[zRows]
 | succ k ih=>
   have h1:=(w.zone z).rows
   have h2:=w.size
   have h3:=ih (z+1)
   simp only[zRows]
   split
   ·simp;omega
   ·simp;omega
def withReads(d:Dv)(q:Int):Dv:={ d with reads:=q }
theorem Dv.Wf.reads{d:Dv}(w:d.Wf)(q:Int):(withReads d q).Wf:=⟨w.n,w.zones,w.size,w.left,w.each⟩
theorem zRows_reads(d:Dv)(q:Int)(z k:Nat):zRows (withReads d q) z k=zRows d z k:=by
 induction k generalizing z with
 | zero=>rfl
 | succ k ih=>simp only[zRows];rw[ih];rfl
theorem zRows_congr{d d':Dv}(hs:d'.size=d.size)(k z:Nat)(h:∀ j,z≤j→j<z+k→(d'.z j).rows=(d.z j).rows):zRows d' z k=zRows d z k:=by
 induction k generalizing z with
 | zero=>rfl
 | succ k ih=>simp only[zRows];rw[h z (by omega) (by omega),hs,ih (z+1) fun j h1 h2=>h j (by omega) (by omega)]
theorem zRows_nil{d:Dv}(k z:Nat)(h:∀ j,z≤j→j<z+k→(d.z j).rows = []):zRows d z k = []:=by
 induction k generalizing z with
 | zero=>rfl
 | succ k ih=>simp only[zRows];rw[h z (by omega) (by omega),ih (z+1) fun j h1 h2=>h j (by omega) (by omega)];simp
theorem DevAt.low{lo lo':Nat}{F:Nat→Nat}{h:Hp}{db:Nat}{d:Dv}(x:DevAt lo F h db d)(hl:lo'≤lo):DevAt lo' F h db d:=by
 obtain⟨w,zs,zb,x⟩:=x
 exact⟨w,zs,zb,fun b hb=>⟨Nat.le_trans hl (x.dom b hb).1,(x.dom b hb).2⟩,x.role,x.row,x.own,x.arr,x.len,x.zone⟩
theorem DevAt.free{lo:Nat}{F:Nat→Nat}{h:Hp}{db:Nat}{d:Dv}(x:DevAt lo F h db d){b:Nat}(hb:h.size≤b):F b=0:=by
 rcases Nat.eq_zero_or_pos (F b) with h0 | h0
 ·exact h0
 ·have:=(x.dom b (by omega)).2;omega
structure OkD(d e:Dv):Prop where
 live:Live e
 wf:e.Wf
 n:e.n=d.n
 size:e.size=d.size
theorem OkD.trans{a b c:Dv}(x:OkD a b)(y:OkD b c):OkD a c:=⟨y.live,y.wf,y.n.trans x.n,y.size.trans x.size⟩
noncomputable def Dv.clear(d:Dv):Nat→Nat→Int × Dv
 | _,0=>(0,d)
 | z,k+1=>if (d.z z).rows.length=0 then Dv.clear d (z+1) k else if (d.reset z).1≠0 then d.reset z else Dv.clear (d.reset z).2 (z+1) k
noncomputable def Dv.puts(d:Dv)(base size:Nat):Nat→List (List UInt8)→Int × Dv
 | _,[]=>(0,d)
 | k,p::r=>if (d.append ((base+k / size:Nat):Int) p).1.2≠0 then ((d.append ((base+k / size:Nat):Int) p).1.2,(d.append ((base+k / size:Nat):Int) p).2) else Dv.puts (d.append ((base+k / size:Nat):Int) p).2 base size (k+1) r
theorem reset_n(d:Dv)(i:Int):(d.reset i).2.n=d.n:=by
 unfold Dv.reset;split
 ·rfl
 ·split <;> rfl
theorem clear_live:∀ (k:Nat) (d:Dv) (z:Nat),Live d→d.Wf→z+k≤d.n→(d.clear z k).1=0∧OkD d (d.clear z k).2∧∀ j,(d.clear z k).2.z j=if z≤j∧j<z+k then ⟨[],0⟩ else d.z j:=by
 intro k
 induction k with
 | zero=>intro d z l w h;exact⟨rfl,⟨l,w,rfl,rfl⟩,fun j=>by rw[if_neg (by omega)];rfl⟩
 | succ k ih=>
   intro d z l w h
   have hzn:z<d.zs.length:=by have:=w.n;omega
   rw[Dv.clear]
   by_cases hz:(d.z z).rows.length=0
   ·rw[if_pos hz]
    obtain⟨h1,h2,h3⟩:=ih d (z+1) l w (by omega)
    refine⟨h1,h2,fun j=>?_⟩
    rw[h3]
    by_cases hj:j=z
    ·subst hj
     rw[if_neg (by omega),if_pos (by omega)]
     have hg:=(w.zone j).good
     have hr:(d.z j).rows = []:=List.eq_nil_of_length_eq_zero hz
     cases hd:d.z j with
     | mk rows good=>rw[hd]at hr hg;simp only at hr hg;subst hr;simp at hg;subst hg;rfl
    ·by_cases hc:z+1≤j∧j<z+1+k
     ·rw[if_pos hc,if_pos (by omega)]
     ·rw[if_neg hc,if_neg (by omega)]
   ·rw[if_neg hz,reset_live l (by omega)]
    rw[if_neg (by simp)]
    have w1:(d.tick.setZ z ⟨[],0⟩).Wf:=w.tick.setZ z ⟨Nat.zero_le _,Nat.zero_le _,fun p hp=>by simp at hp⟩
    obtain⟨h1,h2,h3⟩:=ih (d.tick.setZ z ⟨[],0⟩) (z+1) (l.tick.setZ _ _) w1 (by show z+1+k≤d.n;omega)
    refine⟨h1,OkD.trans ⟨l.tick.setZ _ _,w1,rfl,rfl⟩ h2,fun j=>?_⟩
    show(Dv.clear (d.tick.setZ z ⟨[],0⟩) (z+1) k).2.z j=_
    rw[h3,d.tick.z_set hzn]
    by_cases hj:j=z
    ·subst hj;rw[if_neg (by omega),if_pos rfl,if_pos (by omega)]
    ·rw[if_neg hj]
     by_cases hc:z+1≤j∧j<z+1+k
     ·rw[if_pos hc,if_pos (by omega)]
     ·rw[if_neg hc,if_neg (by omega)];rfl
def part(size:Nat)(ps:List (List UInt8))(m:Nat):List (List UInt8):=(ps.drop (m*size)).take size
theorem part_snoc{size:Nat}{ps:List (List UInt8)}{k:Nat}(hs:1≤size)(hk:k<ps.length)(m:Nat):part size (ps.take (k+1)) m=if m=k / size then part size (ps.take k) m ++ [ps[k]] else part size (ps.take k) m:=by
 have hkl:(ps.take k).length=k:=by simp;omega
 have hdm:=Nat.div_add_mod k size
 have hmod:=Nat.mod_lt k (show 0<size by omega)
 have hcomm:size*(k / size)=(k / size)*size:=Nat.mul_comm _ _
 rw[List.take_succ_eq_append_getElem hk]
 unfold part
 rcases Nat.lt_trichotomy m (k / size) with h | h | h
 ·rw[if_neg (by omega)]
  have h1:(m+1)*size≤(k / size)*size:=Nat.mul_le_mul_right _ (by omega)
  rw[Nat.add_mul,Nat.one_mul]at h1
  rw[List.drop_append_of_le_length (by omega),List.take_append_of_le_length (by rw[List.length_drop];omega)]
 ·rw[if_pos h]
  subst h
  rw[List.drop_append_of_le_length (by omega),List.take_append,List.take_of_length_le (l:=(ps.take k).drop _) (by rw[List.length_drop];omega)]
  congr 1
  rw[List.take_of_length_le (by simp[List.length_drop];omega)]
 ·rw[if_neg (by omega)]
  have h1:(k / size+1)*size≤m*size:=Nat.mul_le_mul_right _ (by omega)
  rw[Nat.add_mul,Nat.one_mul]at h1
  rw[List.drop_of_length_le (by simp;omega),List.drop_of_length_le (by omega)]
theorem part_len{size:Nat}{ps:List (List UInt8)}{k:Nat}(hs:1≤size)(hk:k<ps.length):(part size (ps.take k) (k / size)).length<size:=by
 have hdm:=Nat.div_add_mod k size
 have hmod:=Nat.mod_lt k (show 0<size by omega)
 have hcomm:size*(k / size)=(k / size)*size:=Nat.mul_comm _ _
 unfold part
 rw[List.length_take,List.length_drop,List.length_take]
 omega
theorem puts_live{base cnt:Nat}{ps:List (List UInt8)}(h64:∀ p∈ps,p.length=64):∀ (r:List (List UInt8)) (d:Dv) (k:Nat),Live d→d.Wf→base+cnt≤d.n→ps.length≤cnt*d.size→ps.drop k=r→k≤ps.length→(∀ m,m<cnt→(d.z (base+m)).rows=part d.size (ps.take k) m) →
 (d.puts base d.size k r).1=0∧OkD d (d.puts base d.size k r).2∧(∀ m,m<cnt→((d.puts base d.size k r).2.z (base+m)).rows=part d.size ps m)∧∀ j,(j<base∨base+cnt≤j)→(d.puts base d.size k r).2.z j=d.z j:=by
 intro r
 induction r with
 | nil=>
   intro d k l w hn hc hr hk hz
   have hkl:k=ps.length:=by have:=congrArg List.length hr;simp at this;omega
   subst hkl
   rw[List.take_length]at hz
   exact⟨rfl,⟨l,w,rfl,rfl⟩,hz,fun j _=>rfl⟩
 | cons p r ih=>
   intro d k l w hn hc hr hk hz
   have hkl:k<ps.length:=by have:=congrArg List.length hr;simp at this;omega
   have hs:=w.size
   have hpk:ps[k]=p:=by
    have:=List.drop_eq_getElem_cons hkl
    rw[hr]at this
    exact(List.cons.inj this).1.symm
   have hr':ps.drop (k+1)=r:=by
    have:=List.drop_eq_getElem_cons hkl
    rw[hr]at this
    exact(List.cons.inj this).2.symm
   have hq:k / d.size<cnt:=by
    rw[Nat.div_lt_iff_lt_mul (by omega)];omega
   have hzq:=hz _ hq
   have hlt:=part_len (size:=d.size) (ps:=ps) (k:=k) (by omega) hkl
   have hb:base+k / d.size<d.zs.length:=by have:=w.n;omega
   have happ:=append_live l (k:=base+k / d.size) (by have:=w.n;omega) (h64 p (by rw[← hpk];exact List.getElem_mem hkl))
   rw[if_neg (by rw[hzq];omega)]at happ
   rw[Dv.puts,happ,if_neg (by simp)]
   have hzw:=w.zone (base+k / d.size)
   let d':=d.tick.setZ (base+k / d.size) ⟨(d.z (base+k / d.size)).rows ++ [p],(d.z (base+k / d.size)).good⟩
   have w':d'.Wf:=w.tick.setZ _ ⟨by rw[List.length_append,hzq];simp;show _≤d.size;omega,by have:=hzw.good;simp;omega,fun y hy=>by
    rcases List.mem_append.1 hy with hy | hy
    ·exact hzw.each y hy
    ·simp only[List.mem_cons,List.not_mem_nil,or_false]at hy
     subst hy;exact h64 y (by rw[← hpk];exact List.getElem_mem hkl)⟩
   have hz':∀ m,m<cnt→(d'.z (base+m)).rows=part d'.size (ps.take (k+1)) m:=fun m hm=>by
    show((d.tick.setZ _ _).z (base+m)).rows=part d.size _ m
    rw[part_snoc (by omega) hkl,d.tick.z_set hb,hpk]
    by_cases e:m=k / d.size
    ·subst e;rw[if_pos rfl,if_pos rfl,hzq]
    ·rw[if_neg (by omega),if_neg e];exact hz m hm
   obtain⟨h1,h2,h3,h4⟩:=ih d' (k+1) (l.tick.setZ _ _) w' hn hc hr' hkl hz'
   refine⟨h1,OkD.trans ⟨l.tick.setZ _ _,w',rfl,rfl⟩ h2,h3,fun j hj=>?_⟩
   show(Dv.puts d' base d'.size (k+1) r).2.z j=_
   rw[h4 j hj]
   show(d.tick.setZ _ _).z j=_
   rw[d.tick.z_set hb,if_neg (by have h0:base≤base+k / d.size:=Nat.le_add_right _ _;omega)];rfl
theorem zRows_part{d:Dv}{base cnt:Nat}{ps:List (List UInt8)}(hs:1≤d.size)(hl:ps.length≤cnt*d.size)(hz:∀ m,m<cnt→(d.z (base+m)).rows=part d.size ps m):zRows d base cnt=ps:=by
 have go:∀ k m,m+k=cnt→zRows d (base+m) k=ps.drop (m*d.size):=by
  intro k
  induction k with
  | zero=>
    intro m hm
    obtain rfl:m=cnt:=by omega
    rw[List.drop_of_length_le hl];rfl
  | succ k ih=>
    intro m hm
    rw[zRows,hz m (by omega)]
    have hlen:(part d.size ps m).length=min d.size (ps.length-m*d.size):=by unfold part;simp
    split
    ·rename_i hlt
     rw[List.append_nil]
     unfold part
     rw[List.take_of_length_le (by rw[List.length_drop];omega)]
    ·have:=ih (m+1) (by omega)
     rw[show base+m+1=base+(m+1) by omega,this]
     unfold part
     rw[show(m+1)*d.size=m*d.size+d.size by rw[Nat.add_mul,Nat.one_mul],← List.drop_drop,List.take_append_drop]
 simpa using go cnt 0 (by omega)
def AllGood(d:Dv):Prop:=∀ j,(d.z j).good=(d.z j).rows.length
def tailL(t:List UInt8):List UInt8:=leB 4 t.length++leB 4 (crcN t)
open Classical in
noncomputable def readGo:List (List UInt8)→Nat→List UInt8→Nat→List UInt8 × Nat
 | [],_,_,_=>([],0)
 | p::r,i,t,n=>
   if ¬ goodB p then ([],0) else
   if i=0∧dK p=3 then readGo r (i+1) t (dS p) else
   if i=0∨dS p≠n then ([],0) else
   if dK p=1 then readGo r (i+1) (t++dB p) n else
   if dK p=2∧dL p+1=i∧dB p=tailL t then (t,n) else ([],0)
noncomputable def readS(l:List (List UInt8)):List UInt8 × Nat:=readGo l 0 [] 0
theorem tail_spec{h:Hp}{s:Sl}{l:List UInt8}(r:Rd 1 h s (l.map bv))(hm:l.length<2 ^ 32):HC Tryz.prog 176 #[.slice s.base s.len s.cap] h (NewB h (tailL l)):=by
 apply wc176
 unfold vc176
 have ll:=r.lenB
 have e1:iConv .u32 (s.len:Int)=((l.length:Nat):Int):=by
  rw[← ll,iConv_nat (by rfl),Nat.mod_eq_of_lt (by simpa [IntKind.bits] using hm)]
 rw[e1]
 refine(Put32_spec _ hm h).mono ?_
 rintro _ h1 ⟨u,rfl,ou,lu,e1⟩
 refine⟨u,rfl,?_⟩
 refine(crcOf_spec ll (r.ext e1).rd (by omega)).mono ?_
 rintro _ h2 ⟨rfl,e2⟩
 refine⟨_,rfl,?_⟩
 refine(Put32_spec _ (crcN_lt l) h2).mono ?_
 rintro _ h3 ⟨v,rfl,ov,lv,e3⟩
 refine⟨v,rfl,?_⟩
 intro h4
 have e4:Ext h3 h4:=alc_ext _ _ _
 refine(slConcat_spec (s:=Sl.mk (some (nw h3)) 2 2) (rows:=[(u,leB 4 l.length),(v,leB 4 (crcN l))]) rfl (RdC.alc h3 _ _) ?_ (by show 2≤1000000;omega) ?_).mono ?_
 ·intro p hp
  simp only[List.mem_cons,List.not_mem_nil,or_false]at hp
  rcases hp with rfl | rfl
  ·exact ou.toRd.ext ((e2.trans e3).trans e4)
  ·exact ov.toRd.ext e4
 ·simp[catS,leB_length]
 rintro _ h5 ⟨w,rfl,ow,lw,e5⟩
 have hs:h.size≤h4.size:=(((e1.trans e2).trans e3).trans e4).size
 have hc:catS [(u,leB 4 l.length),(v,leB 4 (crcN l))]=tailL l:=by simp[catS,tailL]
 rw[hc]at ow lw
 exact⟨w,rfl,w,rfl,ow.weak hs,lw,(((e1.trans e2).trans e3).trans e4).trans e5⟩
theorem read_spec{h:Hp}{s:Sl}{rows:List (Sl × List UInt8)}(hr:RdC h s.base (rows.map fun p=>slV p.1))(hl:s.len=rows.length)(each:∀ p∈rows,Rd 1 h p.1 (p.2.map bv))(hmax:rows.length≤1000000) :
 HC Tryz.prog 120 #[.slice s.base s.len s.cap] h fun r h'=>Ext h h'∧∃ t:Sl,r=.tuple #[.slice t.base t.len t.cap,.int .i64 ((readS (rows.map (·.2))).2:Int)]∧Own h.size 1 h' t ((readS (rows.map (·.2))).1.map bv):=by
 apply wc120
 unfold vc120
 generalize hV:readS (rows.map (·.2))=V
 have none:∀ {h':Hp},Ext h h'→V=([],0)→Ext h h'∧∃ t:Sl,Value.tuple #[.slice Sl.nil.base Sl.nil.len Sl.nil.cap,.int .i64 (0:Int)]=.tuple #[.slice t.base t.len t.cap,.int .i64 (V.2:Int)]∧Own h.size 1 h' t (V.1.map bv):=by
  intro h' e hv
  subst hv
  exact⟨e,Sl.nil,rfl,Own.nil _ _ _⟩
 refine⟨fun text n i m h'=>∃ (k nn:Nat) (tx:List UInt8),i=k∧n=nn∧m+k=rows.length∧Ext h h'∧Own h.size 1 h' text (tx.map bv)∧tx.length≤k*64∧readGo ((rows.map (·.2)).drop k) k tx nn=V,rows.length,
  ⟨0,0,[],rfl,rfl,rfl,.refl h,Own.nil _ _ _,by simp,hV⟩,?_⟩
 rintro _ text _ _ m h1 ⟨k,nn,tx,rfl,rfl,hm,e1,ot,htl,hgo⟩
 have s1:=e1.size
 refine IfB.dec (fun hlt=>?_) (fun hge=>?_)
 ·have hk:k<rows.length:=by omega
  have hmem:rows[k]∈rows:=List.getElem_mem hk
  have hkm:k<(rows.map (·.2)).length:=by simpa using hk
  refine ixS (hr.ext e1) hl k rfl hk ?_
  refine(Decode_spec ((each _ hmem).ext e1)).mono ?_
  rw[List.drop_eq_getElem_cons hkm,List.getElem_map,readGo]at hgo
  generalize hp:rows[k].2=p at *
  rintro v2 h2 d2
  obtain⟨e2,kk,e,sq,lba,t,c,rfl,dn,db,dg⟩:=d2.shape
  refine⟨_,_,_,_,t,c,rfl,?_⟩
  intro h3
  refine put5 fun h4 e4 r4=>?_
  have e24:=e2.trans e4
  have e04:=e1.trans e24
  have s24:=e24.size
  refine IfB.ne (fun hne=>none e04 ?_) (fun h0=>?_)
  ·rw[← hgo,if_pos]
   intro hg
   exact hne (dg hg.1 hg.2).1
  have hg:goodB p:=by
   by_cases h64:p.length=64
   ·by_cases hg:goodP p
    ·exact⟨h64,hg⟩
    ·have:=db h64 hg;omega
   ·have:=dn h64;omega
  obtain⟨_,rfl,rfl,rfl,rfl,od⟩:=dg hg.1 hg.2
  rw[if_neg (fun hn=>hn hg)]at hgo
  have hdb:(dB p).length≤64:=by
   have:(dB p).length≤p.length:=by unfold dB;simp[List.length_take,List.length_drop];omega
   have:=hg.1;omega
  have ek:iAdd .i64 (k:Int) (1:Int)=((k+1:Nat):Int):=by rw[iAdd64 (by omega)];push_cast;rfl
  have od4:=od.ext e4
  have lod:=od4.toRd.lenB
  have lot:=ot.toRd.lenB
  rw[ek]
  have rest:¬ (k=0∧dK p=3)→k≠0 →∃ c17:Int,hY h4 ((nw h2).add 2)=some (.int .i64 c17)∧
   IfB (c17 !=(nn:Int)) (Ext h h4∧∃ t:Sl,Value.tuple #[.slice Sl.nil.base Sl.nil.len Sl.nil.cap,.int .i64 (0:Int)]=.tuple #[.slice t.base t.len t.cap,.int .i64 (V.2:Int)]∧Own h.size 1 h4 t (V.1.map bv))
   (∃ c18:Int,hY h4 (nw h2)=some (.int .i64 c18)∧
    IfB (c18 ==(1:Int)) (∃ c19:Sl,hY h4 ((nw h2).add 4)=some (.slice c19.base c19.len c19.cap)∧
     AppC 5 1 1 #[.int .u8 (0:Int)] text c19 h4 fun s1 vh7=>
     ∃ n2,n2<m∧∃ (k' nn':Nat) (tx:List UInt8),((k+1:Nat):Int)=k'∧(nn:Int)=nn'∧n2+k'=rows.length∧Ext h vh7∧Own h.size 1 vh7 s1 (tx.map bv)∧tx.length≤k'*64∧readGo ((rows.map (·.2)).drop k') k' tx nn'=V)
    (∃ c20:Int,hY h4 (nw h2)=some (.int .i64 c20)∧
     IfB (c20 ==(2:Int)) (∃ c21:Int,hY h4 ((nw h2).add 3)=some (.int .i64 c21)∧
      IfB (c21 ==(iSub .i64 (k:Int) (1:Int))) (∃ c22:Sl,hY h4 ((nw h2).add 4)=some (.slice c22.base c22.len c22.cap)∧
       HC Tryz.prog 176 #[.slice text.base text.len text.cap] h4 fun r3 vh8=>
       ∃ c23:Sl,r3=.slice c23.base c23.len c23.cap∧
       Ext h4 vh8∧
       HC Tryz.prog 175 #[.slice c22.base c22.len c22.cap,.slice c23.base c23.len c23.cap] vh8 fun r4 vh9=>
       ∃ c24:Bool,r4=.bool c24∧
       Ext h4 vh9∧
       IfB c24 (Ext h vh9∧∃ t:Sl,Value.tuple #[.slice text.base text.len text.cap,.int .i64 (nn:Int)]=.tuple #[.slice t.base t.len t.cap,.int .i64 (V.2:Int)]∧Own h.size 1 vh9 t (V.1.map bv))
       (Ext h vh9∧∃ t:Sl,Value.tuple #[.slice Sl.nil.base Sl.nil.len Sl.nil.cap,.int .i64 (0:Int)]=.tuple #[.slice t.base t.len t.cap,.int .i64 (V.2:Int)]∧Own h.size 1 vh9 t (V.1.map bv)))
      (Ext h h4∧∃ t:Sl,Value.tuple #[.slice Sl.nil.base Sl.nil.len Sl.nil.cap,.int .i64 (0:Int)]=.tuple #[.slice t.base t.len t.cap,.int .i64 (V.2:Int)]∧Own h.size 1 h4 t (V.1.map bv)))
     (Ext h h4∧∃ t:Sl,Value.tuple #[.slice Sl.nil.base Sl.nil.len Sl.nil.cap,.int .i64 (0:Int)]=.tuple #[.slice t.base t.len t.cap,.int .i64 (V.2:Int)]∧Own h.size 1 h4 t (V.1.map bv)))):=by
   intro hn3 hk0
   rw[if_neg hn3]at hgo
   refine⟨_,r4.get rfl,IfB.ne (fun hne=>none e04 (by rw[← hgo,if_pos (.inr (by omega))])) (fun heq=>?_)⟩
   rw[if_neg (by omega)]at hgo
   refine⟨_,r4.get0 rfl,IfB.eq (fun h1=>⟨t,r4.get rfl,?_⟩) (fun h1=>⟨_,r4.get0 rfl,IfB.eq (fun h2=>⟨_,r4.get rfl,?_⟩) (fun h2=>none e04 (by rw[← hgo,if_neg (by omega),if_neg (by omega)]))⟩)⟩
   ·rw[if_pos (by omega)]at hgo
    refine AppC_own5 (news:=(dB p).map bv) rfl (ot.ext e24) (by omega) (by simpa using lod) od4.rd (cellOk_bv _) (by omega) (by omega) fun r h5 o5 l5 k5 _ _=>?_
    rw[← List.map_append]at o5
    refine⟨m-1,by omega,k+1,nn,tx++dB p,rfl,rfl,by omega,?_,o5,by simp;omega,hgo⟩
    exact(e04.toKeep.trans (k5.le (by omega))).ext
   ·rw[if_neg (by omega)]at hgo
    rw[iSub64 (by omega)]
    refine IfB.eq (fun h3=>⟨t,r4.get rfl,?_⟩) (fun h3=>none e04 (by rw[← hgo,if_neg (by omega)]))
    refine(tail_spec (ot.ext e24).toRd (by omega)).mono ?_
    rintro _ h5 ⟨w,rfl,ow,lw,e5⟩
    refine⟨w,rfl,e5,?_⟩
    refine(slEqual_spec (od4.toRd.ext e5) ow.toRd (by omega)).mono ?_
    rintro _ h6 ⟨rfl,hh6⟩
    obtain rfl:=hh6.symm
    refine⟨_,rfl,e5,IfB.dec (fun heq=>?_) (fun hne=>none (e04.trans e5) (by rw[← hgo,if_neg (fun hh=>hne hh.2.2)]))⟩
    rw[if_pos ⟨by omega,by omega,heq⟩]at hgo
    rw[← hgo]
    exact⟨e04.trans e5,text,rfl,(ot.ext e24).ext e5⟩
  refine IfB.eq (fun hk0=>⟨_,r4.get0 rfl,IfB.eq (fun h3=>?_) (fun h3=>IfB.eq (fun _=>none e04 ?_) (fun hh=>absurd hk0 hh))⟩) (fun hk0=>IfB.eq (fun hh=>absurd hh hk0) (fun _=>rest (by omega) (by omega)))
  ·rw[if_pos (by omega)]at hgo
   exact⟨_,r4.get rfl,m-1,by omega,k+1,dS p,tx,rfl,rfl,by omega,e04,ot.ext e24,by omega,hgo⟩
  ·rw[← hgo,if_neg (by omega),if_pos (.inl (by omega))]
 ·have hk:k=rows.length:=by omega
  subst hk
  rw[List.drop_of_length_le (by simp),readGo]at hgo
  exact none e1 hgo.symm
theorem rowsContains_spec{f:Nat}{p:List UInt8→Bool}{h:Hp}{s:Sl}{rows:List (Sl × List UInt8)}(hr:RdC h s.base (rows.map fun p=>slV p.1))(hl:s.len=rows.length)(each:∀ x∈rows,Rd 1 h x.1 (x.2.map bv))(hmax:rows.length≤1000000)
 (hf:∀ x∈rows,∀ c:Sl,Rd 1 h c (x.2.map bv)→HC Tryz.prog f #[.slice c.base c.len c.cap] h fun r h'=>r=.bool (p x.2)∧h'=h) :
 HC Tryz.prog 71 #[.slice s.base s.len s.cap,.func (.func f) #[] #[]] h fun r h'=>r=.bool (rows.any fun x=>p x.2)∧h'=h:=by
 apply wc71
 unfold vc71
 have ix:HC Tryz.prog 124 #[.slice s.base s.len s.cap,.func (.func f) #[] #[]] h fun r h'=>(∃ c:Int,r=.int .i64 c∧decide (c ≥ 0)=rows.any fun x=>p x.2)∧h'=h:=by
  apply wc124
  unfold vc124
  refine⟨fun i m h'=>h=h'∧∃ k:Nat,i=k∧m+k=rows.length∧(rows.take k).any (fun x=>p x.2)=false,rows.length,⟨rfl,0,rfl,rfl,rfl⟩,?_⟩
  rintro _ _ m _ ⟨rfl,k,rfl,hm,ht⟩
  refine IfB.dec (fun hlt=>?_) (fun hge=>?_)
  ·have hk:k<rows.length:=by omega
   refine ixS hr hl k rfl hk ?_
   refine(hf _ (List.getElem_mem hk) _ (each _ (List.getElem_mem hk))).mono ?_
   rintro _ h1 ⟨rfl,hh⟩
   obtain rfl:=hh.symm
   refine⟨_,rfl,IfB.intro (fun hp=>⟨⟨_,rfl,?_⟩,rfl⟩) (fun hp=>⟨m-1,by omega,rfl,k+1,by rw[iAdd64 (by omega)];push_cast;rfl,by omega,?_⟩)⟩
   ·have:(rows.any fun x=>p x.2)=true:=List.any_eq_true.2 ⟨rows[k],List.getElem_mem hk,hp⟩
    rw[this];simp
   ·rw[List.take_succ_eq_append_getElem hk,List.any_append,ht];simp[hp]
  ·rw[List.take_of_length_le (by omega)]at ht
   exact⟨⟨_,rfl,by rw[ht];rfl⟩,rfl⟩
 refine ix.mono ?_
 rintro _ h1 ⟨⟨c,rfl,hc⟩,hh⟩
 obtain rfl:=hh.symm
 exact⟨_,rfl,by rw[hc],rfl⟩
structure SlV where
 f0:Nat
 f1:Nat
 f2:Nat
 size:Nat
 inn:Nat
 count:Nat
 off:Bool
def SlV.f(S:SlV)(i:Nat):Nat:=if i=0 then S.f0 else if i=1 then S.f1 else S.f2
def slC(db:Nat)(S:SlV)(ts:Sl):List Value:=[dp db,.int .i64 (S.f0:Int),.int .i64 (S.f1:Int),.int .i64 (S.f2:Int),.int .i64 (S.size:Int),.int .i64 (S.inn:Int),.slice ts.base ts.len ts.cap,.int .i64 (S.count:Int),.bool S.off]
theorem slC_f{h:Hp}{sb db:Nat}{S:SlV}{ts:Sl}(r:Row h sb (slC db S ts)){i:Int}(k:Nat)(hi:i=k)(hk:k<3){K:Int→Prop}(hK:K (S.f k:Int)) :
 0≤i∧i<((3:Nat):Int)∧∃ c:Int,hY h (((⟨sb,0,none⟩:Addr).add 1).add (i.toNat*1))=some (.int .i64 c)∧K c:=by
 subst hi
 refine⟨by omega,by omega,_,?_,hK⟩
 rw[add_add,Int.toNat_natCast,Nat.mul_one]
 match k,hk with
 | 0,_=>exact r.get rfl
 | 1,_=>exact r.get rfl
 | 2,_=>exact r.get rfl
theorem blocks_spec{lo:Nat}{F:Nat→Nat}{h:Hp}{db sb:Nat}{d:Dv}{S:SlV}{ts:Sl}(x:DevAt lo F h db d)(row:Row h sb (slC db S ts))(hF:F sb=0)(i:Nat)(hi:i<2)(hr:S.f i≤S.f (i+1))(hn:S.f (i+1)≤d.n)(hsz:S.size=d.size) :
 HC Tryz.prog 118 #[.pointer (some ⟨sb,0,none⟩),.int .i64 (i:Int)] h fun r h'=>∃ (out:Sl) (rows:List (Sl × List UInt8)) (q:Int),r=.slice out.base out.len out.cap∧OwnRows h.size h' out rows∧rows.map (·.2)=zRows d (S.f i) (S.f (i+1)-S.f i)∧DevAt lo F h' db (withReads d q)∧Chg F h h':=by
 apply wc118
 unfold vc118
 have w:=x.1
 have hnz:=w.zones
 have hsz2:=w.size
 refine⟨_,rfl,slC_f row i rfl (by omega) ?_⟩
 have ei:iAdd .i64 (i:Int) (1:Int)=((i+1:Nat):Int):=by rw[iAdd64 (by omega)];push_cast;rfl
 refine⟨fun out z m h'=>∃ (j:Nat) (rows:List (Sl × List UInt8)) (q:Int),z=((S.f i+j:Nat):Int)∧m+j=S.f (i+1)-S.f i∧OwnRows h.size h' out rows∧rows.map (·.2)++zRows d (S.f i+j) (S.f (i+1)-S.f i-j)=zRows d (S.f i) (S.f (i+1)-S.f i)∧rows.length≤j*192∧DevAt lo F h' db (withReads d q)∧Chg F h h',S.f (i+1)-S.f i,
  ⟨0,[],d.reads,rfl,rfl,OwnRows.nil _ _,by simp,by simp,x,.refl _ _⟩,?_⟩
 rintro _ out _ m h1 ⟨j,rows,q,rfl,hm,o1,hrows,hlen,x1,c1⟩
 have row1:=row.chg c1 hF
 have s1:=c1.size
 refine⟨_,rfl,?_⟩
 rw[ei]
 refine slC_f row1 (i+1) rfl (by omega) (IfB.dec (fun hlt=>?_) (fun hge=>?_))
 ·refine⟨_,rfl,_,row1.get0 rfl,?_⟩
  refine(Pointer_spec x1 _).mono ?_
  rintro _ h1' ⟨hh1,⟨hno,_⟩ | ⟨k',hk',hkn,rfl⟩⟩
  ·exact absurd ⟨by omega,by show((S.f i+j:Nat):Int)<(d.n:Int);omega⟩ hno
  obtain rfl:=hh1.symm
  obtain rfl:k'=S.f i+j:=by omega
  refine⟨_,_,rfl,?_⟩
  have hzr:=(w.zone (S.f i+j)).rows
  refine⟨fun out t m h'=>∃ (k:Nat) (rows':List (Sl × List UInt8)) (q:Int),t=k∧m+k=(d.z (S.f i+j)).rows.length∧OwnRows h.size h' out rows'∧rows'.map (·.2)=rows.map (·.2)++(d.z (S.f i+j)).rows.take k∧DevAt lo F h' db (withReads d q)∧Chg F h h',(d.z (S.f i+j)).rows.length,
   ⟨0,rows,q,rfl,rfl,o1,by simp,x1,c1⟩,?_⟩
  rintro _ out2 _ m2 h2 ⟨k,rows2,q2,rfl,hm2,o2,hrows2,x2,c2⟩
  have row2:=row.chg c2 hF
  have s2:=c2.size
  have hl2:rows2.length=rows.length+min k (d.z (S.f i+j)).rows.length:=by have:=congrArg List.length hrows2;simpa using this
  refine IfB.dec (fun hlt2=>?_) (fun hge2=>?_)
  ·have hk:k<(d.z (S.f i+j)).rows.length:=by
    have:((withReads d q).z (S.f i+j)).rows.length=(d.z (S.f i+j)).rows.length:=rfl
    omega
   refine⟨_,rfl,_,row2.get0 rfl,?_⟩
   refine(Read_spec x2 _ _).mono ?_
   have hrd:(withReads d q2).read ((S.f i+j:Nat):Int) (k:Int)=(((d.z (S.f i+j)).rows.getD k [],0),(withReads d q2).read1):=by
    unfold Dv.read
    rw[if_neg (not_not_intro ⟨by omega,by show _<(d.n:Int);omega⟩),if_neg (not_not_intro ⟨by omega,by show(k:Int)<(((d.z (((S.f i+j:Nat):Int)).toNat).rows.length:Nat):Int);rw[Int.toNat_natCast];omega⟩)]
    rfl
   rw[hrd]
   rintro _ h3 ⟨u,rfl,ou,lu,x3,c3⟩
   refine⟨u,_,rfl,?_⟩
   intro h4
   have s3:=c3.size
   have F0:∀ b,h.size≤b→b<h2.size→h3[b]? = h2[b]?:=fun b hb1 hb2=>by
    refine c3.block b hb2 ?_
    rcases Nat.eq_zero_or_pos (F b) with h0 | h0
    ·exact h0
    ·have:=(x.dom b (by omega)).2;omega
   refine OwnRows.pushG rfl (o2.eq s3 F0) (by omega) ou.toRd (fun a ha=>⟨by have:=(ou.lt ha).1;omega,(ou.lt ha).2,fun a' ha'=>by have:=(ou.lt ha).1;have:=(o2.own.lt ha').2;omega⟩) (by omega) (by omega) fun r h5 o5 l5 k5 y5=>?_
   have hF5:∀ b,F b≠0→h5[b]? = h3[b]?:=fun b hb=>k5.block b (x.dom b hb).2
   refine⟨m2-1,by omega,k+1,_,_,by rw[iAdd64 (by omega)];push_cast;rfl,by omega,o5,?_,x3.keep k5.size hF5,?_⟩
   ·rw[List.map_append,hrows2,List.take_succ_eq_append_getElem hk,List.append_assoc]
    simp[List.getD_eq_getElem?_getD,hk]
   ·have c23:=c2.tr c3
    exact⟨by have:=k5.size;omega,fun b hb hFb=>by rw[k5.block b hb,c23.block b hb hFb]⟩
  ·have hk:k=(d.z (S.f i+j)).rows.length:=by
    have:((withReads d q).z (S.f i+j)).rows.length=(d.z (S.f i+j)).rows.length:=rfl
    omega
   subst hk
   rw[List.take_length]at hrows2
   refine⟨_,rfl,_,row2.get rfl,?_⟩
   have hsub:S.f (i+1)-S.f i-j=(S.f (i+1)-S.f i-(j+1))+1:=by omega
   rw[hsub,zRows]at hrows
   refine IfB.dec (fun hlt3=>?_) (fun hge3=>?_)
   ·rw[if_pos (by have:((withReads d q).z (S.f i+j)).rows.length=(d.z (S.f i+j)).rows.length:=rfl;omega),List.append_nil]at hrows
    exact⟨out2,rows2,q2,rfl,o2,by rw[hrows2,hrows],x2,c2⟩
   ·rw[if_neg (by have:((withReads d q).z (S.f i+j)).rows.length=(d.z (S.f i+j)).rows.length:=rfl;omega),← List.append_assoc,← hrows2]at hrows
    refine⟨m-1,by omega,j+1,rows2,q2,by rw[iAdd64 (by omega)];push_cast;rfl,by omega,o2,?_,by omega,x2,c2⟩
    exact hrows
 ·have hj:S.f (i+1)-S.f i-j=0:=by omega
  rw[hj]at hrows
  simp only[zRows,List.append_nil]at hrows
  exact⟨out,rows,q,rfl,o1,hrows,x1,c1⟩
def oddB(p:List UInt8):Bool:=decide ((p.getD 0 0).toNat<1∨3<(p.getD 0 0).toNat)
theorem odd_spec{h:Hp}{s:Sl}{p:List UInt8}(r:Rd 1 h s (p.map bv))(h0:0<p.length):HC Tryz.prog 119 #[.slice s.base s.len s.cap] h fun r h'=>r=.bool (oddB p)∧h'=h:=by
 apply wc119
 unfold vc119
 have hl:=r.lenB
 have hg:p[0].toNat=(p.getD 0 0).toNat:=by rw[List.getD_eq_getElem?_getD,List.getElem?_eq_getElem h0];rfl
 refine ixB r.rd hl 0 rfl h0 (IfB.dec (fun h1=>⟨?_,rfl⟩) (fun h1=>ixB r.rd hl 0 rfl h0 ⟨?_,rfl⟩))
 ·unfold oddB;rw[decide_eq_true (.inl (by omega))]
 ·unfold oddB;rw[Value.bool.injEq,decide_eq_decide];omega
end Go.Proofs.YtdpdkpfnfllipaaGreatDoor
