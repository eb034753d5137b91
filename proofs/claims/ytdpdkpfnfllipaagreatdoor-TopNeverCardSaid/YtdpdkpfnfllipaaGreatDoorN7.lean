/- A part of the proof, no condition. -/
import Derived.Shelf.SlIterI.Nil
import Derived.Shelf.SortM.Plain
import Derived.Shelf.SortM.SortNone
import Derived.Test.YtdpdkpfnfllipaaGreatDoorN4
import Derived.Test.YtdpdkpfnfllipaaGreatDoorN5
import Derived.Test.YtdpdkpfnfllipaaGreatDoorN6
set_option linter.unusedVariables false
set_option linter.unusedSimpArgs false
namespace Go.Proofs.YtdpdkpfnfllipaaGreatDoor
structure OwnK(k:Kd)(sz:Nat)(G:Gh)(h:Hp)(s:Sl)(l:List Value):Prop where
 own:Own 0 sz h s l
 kd:∀ a,s.base=some a→G.k a.block=k
theorem OwnK.nil(k:Kd)(sz:Nat)(G:Gh)(h:Hp):OwnK k sz G h Sl.nil []:=⟨Own.nil _ _ _,fun a ha=>by cases ha⟩
theorem OwnK.to{k:Kd}{sz:Nat}{S:Kd→Prop}{G G':Gh}{h h':Hp}{s:Sl}{l:List Value}(o:OwnK k sz G h s l)(x:To S G h G' h')(hS:¬ S k):OwnK k sz G' h' s l:=
 ⟨o.own.eq fun a ha=>x.fr _ (o.own.lt ha).2 (by rw[o.kd a ha];exact fun h=>hS h.2),fun a ha=>by rw[x.old _ (o.own.lt ha).2];exact o.kd a ha⟩
theorem OwnG.kind{k:Kd}(hk:¬ Told k)(hm:k ≠ .any){sz:Nat}{G:Gh}{h:Hp}{s:Sl}{l:List Value}(t:HT G h)(o:OwnG sz G h s l) :
 ∃ G',G.Le G'∧HT G' h∧OwnK k sz G' h s l∧(∀ b,(∀ a,s.base=some a→b≠a.block)→G'.k b=G.k b)∧G'.W=G.W:=by
 rcases o.own.row with ⟨h1,h2⟩ | ⟨b,c,e,h1,h2,h3,h4,h5⟩
 ·exact⟨G,.refl G,t,⟨o.own,fun a ha=>by rw[h1]at ha;cases ha⟩,fun _ _=>rfl,rfl⟩
 ·have hb:G.k b=.any:=o.any _ h1
  refine⟨G.set b k (G.n b),Gh.set_le hb (Nat.le_refl _),t.setOne hb (blk_lt h3) hk,⟨o.own,fun a ha=>?_⟩,fun b' hb'=>Gh.set_ne (hb' _ h1),rfl⟩
  rw[h1]at ha;cases ha;exact Gh.set_k
def PutsOk(P:List PutD):Prop:=(P.map (·.1)).Pairwise (· < ·)∧∀ p∈P,0≤p.1∧p.1<258∧p.2.length=40
structure DM(G:Gh)(dl:List ME)(P:List PutD):Prop where
 keys:∀ k,k∈kS dl↔k∈P.map (·.1)
 each:∀ k v b,(k,v,b)∈dl →∃ (s:Sl) (l:List UInt8),v=.slice s.base s.len s.cap∧SlB G s l∧(k,l)∈P
theorem DM.mono{G G':Gh}(x:G.Le G'){dl:List ME}{P:List PutD}(d:DM G dl P):DM G' dl P:=
 ⟨d.keys,fun k v b h=>by obtain⟨s,l,h1,h2,h3⟩:=d.each k v b h;exact⟨s,l,h1,h2.mono x,h3⟩⟩
theorem DM.nil(G:Gh):DM G [] []:=⟨fun k=>by simp[kS],fun k v b h=>by simp at h⟩
theorem PutsOk.nil:PutsOk []:=⟨by simp,fun p hp=>by simp at hp⟩
theorem PutsOk.nodup{P:List PutD}(o:PutsOk P):(P.map (·.1)).Nodup:=o.1.imp fun h=>by omega
theorem DM.len{G:Gh}{dl:List ME}{c:Nat}{P:List PutD}(d:DM G dl P)(w:MWf dl c)(o:PutsOk P):dl.length=P.length:=by
 have:=(List.perm_ext_iff_of_nodup w.keys o.nodup).2 d.keys
 have:=this.length_eq
 simpa [kS] using this
theorem PutsOk.uniq{P:List PutD}(o:PutsOk P){k:Int}{l l':List UInt8}(h:(k,l)∈P)(h':(k,l')∈P):l=l':=nodup_fst o.nodup h h'
theorem PutsOk.sorted{P:List PutD}(o:PutsOk P){ks:List Int}(hs:ks.Pairwise (· < ·))(hk:∀ k,k∈ks↔k∈P.map (·.1)):ks=P.map (·.1):=by
 refine List.Perm.eq_of_pairwise (le:=(· < ·)) (fun a b _ _ h1 h2=>by omega) hs o.1 ?_
 exact(List.perm_ext_iff_of_nodup (hs.imp fun h=>by omega) o.nodup).2 hk
def putP(P:List PutD)(k:Int)(l:List UInt8):List PutD:=(P.filter fun p=>decide (p.1<k))++(k,l)::P.filter fun p=>decide (k<p.1)
theorem putP_mem{P:List PutD}{k:Int}{l:List UInt8}{p:PutD}:p∈putP P k l↔p=(k,l)∨(p∈P∧p.1≠k):=by
 unfold putP
 simp only[List.mem_append,List.mem_cons,List.mem_filter,decide_eq_true_eq]
 constructor
 ·rintro(⟨h1,h2⟩ | rfl | ⟨h1,h2⟩)
  ·exact .inr ⟨h1,by omega⟩
  ·exact .inl rfl
  ·exact .inr ⟨h1,by omega⟩
 ·rintro(rfl | ⟨h1,h2⟩)
  ·exact .inr (.inl rfl)
  ·rcases Int.lt_or_gt_of_ne h2 with h | h
   ·exact .inl ⟨h1,h⟩
   ·exact .inr (.inr ⟨h1,h⟩)
theorem PutsOk.put{P:List PutD}(o:PutsOk P){k:Int}{l:List UInt8}(hk:0≤k∧k<258)(hl:l.length=40):PutsOk (putP P k l):=by
 refine⟨?_,fun p hp=>?_⟩
 ·unfold putP
  have h1:=o.1
  rw[List.pairwise_map]at h1 ⊢
  rw[List.pairwise_append]
  refine⟨h1.filter _,?_,?_⟩
  ·rw[List.pairwise_cons]
   exact⟨fun p hp=>by simpa using (List.mem_filter.1 hp).2,h1.filter _⟩
  ·intro a ha b hb
   have ha':a.1<k:=by simpa using (List.mem_filter.1 ha).2
   rcases List.mem_cons.1 hb with rfl | hb
   ·exact ha'
   ·have:k<b.1:=by simpa using (List.mem_filter.1 hb).2
    omega
 ·rcases putP_mem.1 hp with rfl | ⟨h,_⟩
  ·exact⟨hk.1,hk.2,hl⟩
  ·exact o.2 p h
theorem DM.put{G:Gh}{dl:List ME}{c:Nat}{P:List PutD}(d:DM G dl P)(w:MWf dl c){k:Int}{l:List UInt8}{s:Sl}(sb:SlB G s l):DM G (mputL dl k (.slice s.base s.len s.cap) c) (putP P k l):=by
 have wk:=(w.put k (.slice s.base s.len s.cap)).keys
 refine⟨fun j=>?_,fun j v b h=>?_⟩
 ·rw[mputL_kS]
  have hp:j∈(putP P k l).map (·.1)↔j=k∨j∈P.map (·.1):=by
   simp only[List.mem_map,putP_mem]
   constructor
   ·rintro⟨p,rfl | ⟨h1,h2⟩,rfl⟩
    ·exact .inl rfl
    ·exact .inr ⟨p,h1,rfl⟩
   ·rintro(rfl | ⟨p,h1,rfl⟩)
    ·exact⟨_,.inl rfl,rfl⟩
    ·by_cases e:p.1=k
     ·exact⟨_,.inl rfl,e.symm⟩
     ·exact⟨p,.inr ⟨h1,e⟩,rfl⟩
  rw[hp,← d.keys]
  split
  ·rename_i h
   constructor
   ·exact .inr
   ·rintro(rfl | h')
    ·exact h
    ·exact h'
  ·simp[or_comm]
 ·rcases mputL_mem h with ⟨h1,h2⟩ | h'
  ·simp only at h1 h2
   subst h1 h2
   exact⟨s,l,rfl,sb,putP_mem.2 (.inl rfl)⟩
  ·obtain⟨s',l',e1,e2,e3⟩:=d.each j v b h'
   by_cases ej:j=k
   ·subst ej
    have g1:=mputL_get dl j (.slice s.base s.len s.cap) c j
    rw[if_pos rfl,(w.put j (.slice s.base s.len s.cap)).get h]at g1
    have hv:v=.slice s.base s.len s.cap:=Option.some.inj g1
    exact⟨s,l,hv,sb,putP_mem.2 (.inl rfl)⟩
   ·exact⟨s',l',e1,e2,putP_mem.2 (.inr ⟨e3,ej⟩)⟩
structure VM(G:Gh)(M:Nat)(vl:List ME):Prop where
 keys:∀ k∈kS vl,0≤k∧k<258
 each:∀ k v b,(k,v,b)∈vl →∃ s:Sl,v=.slice s.base s.len s.cap∧SlA G (.vers k) s∧1≤s.len∧s.len≤M
theorem VM.mono{G G':Gh}(x:G.Le G'){M M':Nat}(hM:M≤M'){vl:List ME}(d:VM G M vl):VM G' M' vl:=
 ⟨d.keys,fun k v b h=>by obtain⟨s,h1,h2,h3,h4⟩:=d.each k v b h;exact⟨s,h1,h2.mono x,h3,by omega⟩⟩
theorem VM.nil(G:Gh)(M:Nat):VM G M []:=⟨fun k h=>by simp[kS]at h,fun k v b h=>by simp at h⟩
theorem VM.put{G:Gh}{M:Nat}{vl:List ME}(d:VM G M vl){k:Int}{s:Sl}{c:Nat}(hk:0≤k∧k<258)(hs:SlA G (.vers k) s)(h1:1≤s.len)(h2:s.len≤M):VM G M (mputL vl k (.slice s.base s.len s.cap) c):=by
 refine⟨fun j hj=>?_,fun j v b h=>?_⟩
 ·rw[mputL_kS]at hj
  split at hj
  ·exact d.keys j hj
  ·rcases List.mem_append.1 hj with h | h
   ·exact d.keys j h
   ·simp at h;subst h;exact hk
 ·rcases mputL_mem h with ⟨e1,e2⟩ | h'
  ·simp only at e1 e2;subst e1 e2;exact⟨s,rfl,hs,h1,h2⟩
  ·exact d.each j v b h'
theorem nodup_ltN:∀ (n:Nat) (l:List Nat),l.Nodup→(∀ k∈l,k<n)→l.length≤n
 | 0,l,_,h=>by
   cases l with
   | nil=>simp
   | cons a r=>have:=h a (by simp);omega
 | n+1,l,hn,h=>by
   have h1:=nodup_ltN n (l.erase n) (hn.erase n) (fun k hk=>by
    have h2:=(hn.mem_erase_iff.1 hk)
    have:=h k h2.2
    omega)
   by_cases hm:n∈l
   ·have:=List.length_erase_of_mem hm
    omega
   ·rw[List.erase_of_not_mem hm]at h1;omega
theorem nodup_lt{l:List Int}(hn:l.Nodup){n:Nat}(h:∀ k∈l,0≤k∧k<n):l.length≤n:=by
 have h1:(l.map Int.toNat).Nodup:=by
  rw[List.Nodup,List.pairwise_map]
  refine hn.imp_of_mem ?_
  intro a b ha hb hne e
  have:=h a ha;have:=h b hb
  omega
 have:=nodup_ltN n (l.map Int.toNat) h1 (fun x hx=>by
  obtain⟨k,hk,rfl⟩:=List.mem_map.1 hx
  have:=h k hk
  omega)
 simpa using this
structure Zn where
 rows:List (List UInt8)
 good:Nat
structure Dv where
 n:Nat
 size:Nat
 zs:List Zn
 ops:Int
 reads:Int
 cut:Bool
 left:Nat
 off:Bool
structure Zn.Wf(size:Nat)(z:Zn):Prop where
 rows:z.rows.length≤size
 good:z.good≤z.rows.length
 each:∀ p∈z.rows,p.length=64
structure Dv.Wf(d:Dv):Prop where
 n:d.n=d.zs.length
 zones:8≤d.n∧d.n≤64
 size:96≤d.size∧d.size≤192
 left:d.left<9223372036854775808
 each:∀ z∈d.zs,z.Wf d.size
def Dv.z(d:Dv)(k:Nat):Zn:=d.zs.getD k ⟨[],0⟩
def Dv.setZ(d:Dv)(k:Nat)(z:Zn):Dv:={ d with zs:=d.zs.set k z }
theorem Dv.z_get(d:Dv){k:Nat}(hk:k<d.zs.length):d.z k=d.zs[k]:=by simp[Dv.z,hk]
theorem Dv.Wf.zone{d:Dv}(w:d.Wf)(k:Nat):(d.z k).Wf d.size:=by
 by_cases hk:k<d.zs.length
 ·rw[d.z_get hk];exact w.each _ (List.getElem_mem hk)
 ·have:d.z k=⟨[],0⟩:=by unfold Dv.z;rw[List.getD_eq_getElem?_getD,List.getElem?_eq_none (by omega)];rfl
  rw[this];exact⟨Nat.zero_le _,Nat.zero_le _,fun p hp=>by simp at hp⟩
theorem Dv.z_set(d:Dv){k j:Nat}(hk:k<d.zs.length)(z:Zn):(d.setZ k z).z j=if j=k then z else d.z j:=by
 simp only[Dv.z,Dv.setZ,List.getD_eq_getElem?_getD,List.getElem?_set]
 by_cases e:k=j
 ·subst e;simp[hk]
 ·rw[if_neg e,if_neg (Ne.symm e)]
theorem Dv.Wf.setZ{d:Dv}(w:d.Wf)(k:Nat){z:Zn}(hz:z.Wf d.size):(d.setZ k z).Wf:=
 ⟨by simp[Dv.setZ,w.n],w.zones,w.size,w.left,fun y hy=>by
  rcases List.mem_or_eq_of_mem_set hy with h | h
  ·exact w.each _ h
  ·subst h;exact hz⟩
def pv(b:Nat):Value := .pointer (some ⟨b,0,none⟩)
def dvV(d:Dv)(zs:Sl):List Value:=[.int .i64 (d.n:Int),.int .i64 (d.size:Int),.slice zs.base zs.len zs.cap,.int .i64 d.ops,.int .i64 d.reads,.bool d.cut,.int .i64 (d.left:Int),.bool d.off]
def znV(bs:Sl)(g:Nat):List Value:=[.slice bs.base bs.len bs.cap,.int .i64 (g:Int)]
structure ZoneIn(F:Nat→Nat)(h:Hp)(k b:Nat)(z:Zn)(bs:Sl)(rows:List (Sl × List UInt8)):Prop where
 role:F b=4+2*k
 row:Row h b (znV bs z.good)
 own:Own 0 1 h bs (rows.map fun p=>slV p.1)
 arr:∀ a,bs.base=some a→F a.block=5+2*k
 eq:z.rows=rows.map (·.2)
 each:∀ p∈rows,Rd 1 h p.1 (p.2.map bv)
 base:∀ p∈rows,∀ a,p.1.base=some a→F a.block=3
def ZoneAt(F:Nat→Nat)(h:Hp)(k b:Nat)(z:Zn):Prop:=∃ bs rows,ZoneIn F h k b z bs rows
structure DevIn(lo:Nat)(F:Nat→Nat)(h:Hp)(db:Nat)(d:Dv)(zs:Sl)(zb:List Nat):Prop where
 dom:∀ b,F b≠0→lo≤b∧b<h.size
 role:F db=1
 row:Row h db (dvV d zs)
 own:Own 0 1 h zs (zb.map pv)
 arr:∀ a,zs.base=some a→F a.block=2
 len:zb.length=d.zs.length
 zone:∀ k (hk:k<zb.length),ZoneAt F h k zb[k] (d.z k)
def DevAt(lo:Nat)(F:Nat→Nat)(h:Hp)(db:Nat)(d:Dv):Prop:=d.Wf∧∃ zs zb,DevIn lo F h db d zs zb
def DevTo(lo:Nat)(F:Nat→Nat)(h h':Hp)(db:Nat)(d:Dv):Prop:=∃ F',DevAt lo F' h' db d∧(∀ b,b<h.size→F' b=F b)∧Chg F h h'
theorem ZoneIn.slen{F:Nat→Nat}{h:Hp}{k b:Nat}{z:Zn}{bs:Sl}{rows:List (Sl × List UInt8)}(x:ZoneIn F h k b z bs rows):bs.len=z.rows.length∧bs.len=rows.length:=by
 have:=x.own.len
 rw[x.eq];simp at this ⊢;omega
theorem ZoneAt.move{F F':Nat→Nat}{h h':Hp}{k b:Nat}{z:Zn}(x:ZoneAt F h k b z)(hF:∀ c,F c≠0→F' c=F c)(hh:∀ c,F c=4+2*k∨F c=5+2*k∨F c=3→h'[c]? = h[c]?):ZoneAt F' h' k b z:=by
 obtain⟨bs,rows,x⟩:=x
 refine⟨bs,rows,by rw[hF _ (by rw[x.role];omega),x.role],x.row.eq (hh _ (.inl x.role)),x.own.eq fun a ha=>hh _ (.inr (.inl (x.arr a ha))),fun a ha=>by rw[hF _ (by rw[x.arr a ha];omega),x.arr a ha],x.eq,
  fun p hp=>(x.each p hp).eq fun a ha=>hh _ (.inr (.inr (x.base p hp a ha))),fun p hp a ha=>by rw[hF _ (by rw[x.base p hp a ha];omega),x.base p hp a ha]⟩
theorem DevIn.move{lo:Nat}{F F':Nat→Nat}{h h':Hp}{db:Nat}{d:Dv}{zs:Sl}{zb:List Nat}(x:DevIn lo F h db d zs zb)(hF:∀ c,F c≠0→F' c=F c)(hd:∀ b,F' b≠0→lo≤b∧b<h'.size)(hh:∀ c,F c≠0→h'[c]? = h[c]?):DevIn lo F' h' db d zs zb:=
 ⟨hd,by rw[hF _ (by rw[x.role];omega),x.role],x.row.eq (hh _ (by rw[x.role];omega)),x.own.eq fun a ha=>hh _ (by rw[x.arr a ha];omega),fun a ha=>by rw[hF _ (by rw[x.arr a ha];omega),x.arr a ha],x.len,
  fun k hk=>(x.zone k hk).move hF fun c hc=>hh c (by omega)⟩
theorem DevIn.ext{lo:Nat}{F:Nat→Nat}{h h':Hp}{db:Nat}{d:Dv}{zs:Sl}{zb:List Nat}(x:DevIn lo F h db d zs zb)(e:Ext h h'):DevIn lo F h' db d zs zb:=
 x.move (fun _ _=>rfl) (fun b hb=>⟨(x.dom b hb).1,Nat.lt_of_lt_of_le (x.dom b hb).2 e.size⟩) fun c hc=>e.block c (x.dom c hc).2
theorem DevAt.ext{lo:Nat}{F:Nat→Nat}{h h':Hp}{db:Nat}{d:Dv}(x:DevAt lo F h db d)(e:Ext h h'):DevAt lo F h' db d:=by
 obtain⟨w,zs,zb,x⟩:=x;exact⟨w,zs,zb,x.ext e⟩
theorem DevAt.keep{lo:Nat}{F:Nat→Nat}{h h':Hp}{db:Nat}{d:Dv}(x:DevAt lo F h db d)(hs:h.size≤h'.size)(hh:∀ c,F c≠0→h'[c]? = h[c]?):DevAt lo F h' db d:=by
 obtain⟨w,zs,zb,x⟩:=x
 exact⟨w,zs,zb,x.move (fun _ _=>rfl) (fun b hb=>⟨(x.dom b hb).1,Nat.lt_of_lt_of_le (x.dom b hb).2 hs⟩) hh⟩
theorem DevAt.dom{lo:Nat}{F:Nat→Nat}{h:Hp}{db:Nat}{d:Dv}(x:DevAt lo F h db d):∀ b,F b≠0→lo≤b∧b<h.size:=by obtain⟨_,_,_,x⟩:=x;exact x.dom
theorem DevTo.of{lo:Nat}{F:Nat→Nat}{h h':Hp}{db:Nat}{d:Dv}(x:DevAt lo F h' db d)(c:Chg F h h'):DevTo lo F h h' db d:=⟨F,x,fun _ _=>rfl,c⟩
theorem DevIn.put{lo:Nat}{F:Nat→Nat}{h h':Hp}{db:Nat}{d d':Dv}{zs:Sl}{zb:List Nat}(x:DevIn lo F h db d zs zb)(hz:d'.zs=d.zs)(hr:Row h' db (dvV d' zs))(hs:h'.size=h.size)(hh:∀ c,c≠db→h'[c]? = h[c]?):DevIn lo F h' db d' zs zb:=by
 have ne:∀ c,F c≠1→c≠db:=fun c hc e=>hc (by rw[e];exact x.role)
 exact⟨fun b hb=>by rw[hs];exact x.dom b hb,x.role,hr,x.own.eq fun a ha=>hh _ (ne _ (by rw[x.arr a ha];omega)),x.arr,by rw[hz];exact x.len,
  fun k hk=>by
   have:d'.z k=d.z k:=by simp[Dv.z,hz]
   rw[this]
   exact(x.zone k hk).move (fun _ _=>rfl) fun c hc=>hh _ (ne _ (by omega))⟩
theorem DevIn.zput{lo:Nat}{F F':Nat→Nat}{h h':Hp}{db:Nat}{d:Dv}{zs:Sl}{zb:List Nat}(x:DevIn lo F h db d zs zb){k:Nat}(hk:k<zb.length){z:Zn}(hF:∀ c,F c≠0→F' c=F c)(hd:∀ b,F' b≠0→lo≤b∧b<h'.size)
 (hz:ZoneAt F' h' k zb[k] z) (hh:∀ c,F c≠0→F c≠4+2*k→F c≠5+2*k→h'[c]? = h[c]?):DevIn lo F' h' db (d.setZ k z) zs zb:=by
 have hkz:k<d.zs.length:=by rw[← x.len];exact hk
 refine⟨hd,by rw[hF _ (by rw[x.role];omega),x.role],x.row.eq (hh _ (by rw[x.role];omega) (by rw[x.role];omega) (by rw[x.role];omega)),x.own.eq fun a ha=>hh _ (by rw[x.arr a ha];omega) (by rw[x.arr a ha];omega) (by rw[x.arr a ha];omega),
  fun a ha=>by rw[hF _ (by rw[x.arr a ha];omega),x.arr a ha],by simp[Dv.setZ,x.len],fun j hj=>?_⟩
 rw[d.z_set hkz]
 by_cases e:j=k
 ·subst e;rw[if_pos rfl];exact hz
 ·rw[if_neg e]
  exact(x.zone j hj).move hF fun c hc=>hh c (by omega) (by omega) (by omega)
def dp(db:Nat):Value := .pointer (some ⟨db,0,none⟩)
theorem gone_spec{lo:Nat}{F:Nat→Nat}{h:Hp}{db:Nat}{d:Dv}{zs:Sl}{zb:List Nat}(x:DevIn lo F h db d zs zb):HC Tryz.prog 56 #[dp db] h fun r h'=>r=.bool (decide (d.zs.length=0))∧h'=h:=by
 apply wc56
 unfold vc56
 refine .no rfl ⟨_,rfl,zs,x.row.get rfl,?_,rfl⟩
 have:=x.own.len
 have hl:=x.len
 simp at this
 congr 1
 by_cases e:d.zs.length=0
 ·rw[decide_eq_true e];simp;omega
 ·rw[decide_eq_false e];simp;omega
theorem goneA_spec{lo:Nat}{F:Nat→Nat}{h:Hp}{db:Nat}{d:Dv}{zs:Sl}{zb:List Nat}(w:d.Wf)(x:DevIn lo F h db d zs zb):HC Tryz.prog 56 #[dp db] h fun r h'=>r=.bool false∧h'=h:=
 (gone_spec x).mono fun _ _ ⟨h1,h2⟩=>⟨by rw[h1,decide_eq_false];have:=w.n;have:=w.zones;omega,h2⟩
theorem at_spec{lo:Nat}{F:Nat→Nat}{h:Hp}{db:Nat}{d:Dv}{zs:Sl}{zb:List Nat}(w:d.Wf)(x:DevIn lo F h db d zs zb)(i:Int):HC Tryz.prog 163 #[dp db,.int .i64 i] h fun r h'=>
 h'=h∧(¬ (0≤i∧i<d.n)∧r=.pointer none ∨∃ k:Nat,∃ hk:k<zb.length,i=k∧k<d.n∧r=pv zb[k]):=by
 apply wc163
 unfold vc163
 have hl:=x.own.len
 have hl2:=x.len
 have hn:=w.n
 simp at hl
 refine(goneA_spec w x).mono ?_
 rintro _ _ ⟨rfl,rfl⟩
 refine⟨_,rfl,.ff (IfB.dec (fun h1=>⟨rfl,.inl ⟨by omega,rfl⟩⟩) (fun h1=>⟨_,rfl,zs,x.row.get rfl,IfB.dec (fun h2=>⟨rfl,.inl ⟨by omega,rfl⟩⟩) (fun h2=>⟨_,rfl,zs,x.row.get rfl,?_⟩)⟩))⟩
 obtain⟨k,rfl⟩:∃ k:Nat,i=k:=⟨i.toNat,by omega⟩
 have hk:k<zb.length:=by omega
 refine ix1 x.own.rd (by simp;omega) k rfl (by simpa using hk) fun a _ hc=>⟨some ⟨zb[k],0,none⟩,by simpa [pv] using hc,rfl,.inr ⟨k,hk,rfl,by omega,rfl⟩⟩
theorem Pointer_spec{lo:Nat}{F:Nat→Nat}{h:Hp}{db:Nat}{d:Dv}(x:DevAt lo F h db d)(i:Int):HC Tryz.prog 105 #[dp db,.int .i64 i] h fun r h'=>
 h'=h∧(¬ (0≤i∧i<d.n)∧r=.tuple #[.int .i64 0,.int .i64 1] ∨∃ k:Nat,i=k∧k<d.n∧r=.tuple #[.int .i64 ((d.z k).rows.length:Int),.int .i64 0]):=by
 obtain⟨w,zs,zb,x⟩:=x
 apply wc105
 unfold vc105
 refine(at_spec w x i).mono ?_
 rintro _ _ ⟨rfl,⟨hn,rfl⟩ | ⟨k,hk,rfl,hkn,rfl⟩⟩
 ·exact⟨_,rfl,.yes rfl ⟨rfl,.inl ⟨hn,rfl⟩⟩⟩
 ·obtain⟨bs,rows,y⟩:=x.zone k hk
  refine⟨_,rfl,.no rfl ⟨_,rfl,bs,y.row.get0 rfl,rfl,.inr ⟨k,rfl,hkn,?_⟩⟩⟩
  rw[y.slen.1]
def Dv.dead(d:Dv):Bool:=d.off || (d.cut && decide (d.left=0))
def Dv.tick(d:Dv):Dv:={ d with ops:=iAdd .i64 d.ops 1,off:=d.dead,left:=if d.dead then d.left else if d.cut then d.left-1 else d.left }
theorem Dv.Wf.tick{d:Dv}(w:d.Wf):d.tick.Wf:=⟨w.n,w.zones,w.size,by
 have:=w.left
 show(if d.dead then d.left else if d.cut then d.left-1 else d.left)<_
 split
 ·exact this
 ·split <;> omega,w.each⟩
theorem begin_spec{lo:Nat}{F:Nat→Nat}{h:Hp}{db:Nat}{d:Dv}{zs:Sl}{zb:List Nat}(w:d.Wf)(x:DevIn lo F h db d zs zb):HC Tryz.prog 164 #[dp db] h fun r h'=>
 r=.bool (!d.dead)∧DevIn lo F h' db d.tick zs zb∧h'.size=h.size∧∀ c,c≠db→h'[c]? = h[c]?:=by
 apply wc164
 unfold vc164
 have hl:=w.left
 obtain⟨ok1,r1,x1,s1⟩:=x.row.set (i:=3) (by simp[dvV]) (.int .i64 (iAdd .i64 d.ops 1))
 refine⟨_,rfl,d.ops,x.row.get rfl,_,rfl,ok1,?_⟩
 generalize hset h ((⟨db,0,none⟩:Addr).add 3) (.int .i64 (iAdd .i64 d.ops 1))=h1 at *
 have r1:Row h1 db (dvV { d with ops:=iAdd .i64 d.ops 1 } zs):=r1
 refine⟨fun h2=>Row h2 db (dvV { d with ops:=iAdd .i64 d.ops 1,off:=d.dead } zs)∧h2.size=h.size∧∀ c,c≠db→h2[c]? = h[c]?,?_,?_⟩
 ·have go:∀ b,b=d.dead→StOk h1 ((⟨db,0,none⟩:Addr).add 7)∧Row (hset h1 ((⟨db,0,none⟩:Addr).add 7) (.bool b)) db (dvV { d with ops:=iAdd .i64 d.ops 1,off:=d.dead } zs)∧(hset h1 ((⟨db,0,none⟩:Addr).add 7) (.bool b)).size=h.size∧∀ c,c≠db→(hset h1 ((⟨db,0,none⟩:Addr).add 7) (.bool b))[c]? = h[c]?:=by
   rintro _ rfl
   obtain⟨ok2,r2,x2,s2⟩:=r1.set (i:=7) (by simp[dvV]) (.bool d.dead)
   exact⟨ok2,r2,by rw[s2,s1],fun c hc=>by rw[x2 c hc,x1 c hc]⟩
  refine⟨_,rfl,d.off,r1.get rfl,IfB.intro (fun h=>?_) (fun h=>?_)⟩
  ·exact⟨_,rfl,go _ (by simp[Dv.dead,h])⟩
  ·refine⟨_,rfl,d.cut,r1.get rfl,IfB.intro (fun h'=>?_) (fun h'=>?_)⟩
   ·refine⟨_,rfl,_,r1.get rfl,_,rfl,?_⟩
    refine go _ ?_
    simp only[Dv.dead,h,h',Bool.false_or,Bool.true_and]
    congr 1
    rw[eq_iff_iff];omega
   ·exact⟨_,rfl,go _ (by simp[Dv.dead,h,h'])⟩
 ·rintro _ h2 ⟨r2,s2,x2⟩
  refine⟨_,rfl,d.dead,r2.get rfl,IfB.intro (fun hd=>?_) (fun hd=>?_)⟩
  ·refine⟨by rw[hd];rfl,x.put (d':=d.tick) rfl ?_ s2 x2,s2,x2⟩
   have:dvV d.tick zs=dvV { d with ops:=iAdd .i64 d.ops 1,off:=d.dead } zs:=by simp[dvV,Dv.tick,hd]
   rw[this];exact r2
  ·refine⟨_,rfl,d.cut,r2.get rfl,IfB.intro (fun hc=>?_) (fun hc=>?_)⟩
   ·have hpos:0<d.left:=by
     rcases Nat.eq_zero_or_pos d.left with h0 | h0
     ·simp[Dv.dead,hc,h0]at hd
     ·exact h0
    obtain⟨ok3,r3,x3,s3⟩:=r2.set (i:=6) (by simp[dvV]) (.int .i64 (iSub .i64 (d.left:Int) 1))
    refine⟨_,rfl,_,r2.get rfl,_,rfl,ok3,by rw[hd];rfl,x.put (d':=d.tick) rfl ?_ (by rw[s3,s2]) (fun c hc=>by rw[x3 c hc,x2 c hc]),by rw[s3,s2],fun c hc=>by rw[x3 c hc,x2 c hc]⟩
    have e:iSub .i64 (d.left:Int) 1=((d.left-1:Nat):Int):=by rw[iSub64 (by omega)];omega
    rw[e]at r3 ⊢
    have:dvV d.tick zs=(dvV { d with ops:=iAdd .i64 d.ops 1,off:=d.dead } zs).set 6 (.int .i64 ((d.left-1:Nat):Int)):=by simp[dvV,Dv.tick,hd,hc]
    rw[this];exact r3
   ·refine⟨by rw[hd];rfl,x.put (d':=d.tick) rfl ?_ s2 x2,s2,x2⟩
    have:dvV d.tick zs=dvV { d with ops:=iAdd .i64 d.ops 1,off:=d.dead } zs:=by simp[dvV,Dv.tick,hd,hc]
    rw[this];exact r2
structure ToB(c:Nat)(G:Gh)(h:Hp)(G':Gh)(h':Hp):Prop where
 le:G.Le G'
 old:∀ b,b<h.size→G'.k b=G.k b
 size:h.size≤h'.size
 fr:∀ b,b<h.size→b≠c→h'[b]? = h[b]?
 ht:HT G' h'
theorem ToB.to{S:Kd→Prop}{c:Nat}{G G':Gh}{h h':Hp}(x:ToB c G h G' h')(hS:Mut (G.k c)∧S (G.k c)):To S G h G' h':=
 ⟨x.le,x.old,x.size,fun b hb hn=>x.fr b hb fun e=>hn (by rw[e];exact hS),x.ht⟩
theorem ToB.new{S:Kd→Prop}{c:Nat}{A G G':Gh}{a h h':Hp}(y:To S A a G h)(x:ToB c G h G' h')(hc:a.size≤c):To S A a G' h':=
 ⟨y.le.trans x.le,fun b hb=>by rw[x.old b (Nat.lt_of_lt_of_le hb y.size),y.old b hb],Nat.le_trans y.size x.size,fun b hb hn=>by rw[x.fr b (Nat.lt_of_lt_of_le hb y.size) (by omega),y.fr b hb hn],x.ht⟩
theorem To.toB{c:Nat}{G G':Gh}{h h':Hp}(x:To (fun _=>False) G h G' h'):ToB c G h G' h':=⟨x.le,x.old,x.size,fun b hb _=>x.fr b hb fun h=>h.2,x.ht⟩
theorem ToB.trans{c:Nat}{A B C:Gh}{a b d:Hp}(x:ToB c A a B b)(y:ToB c B b C d):ToB c A a C d:=
 ⟨x.le.trans y.le,fun k hk=>by rw[y.old k (Nat.lt_of_lt_of_le hk x.size),x.old k hk],Nat.le_trans x.size y.size,fun k hk hne=>by rw[y.fr k (Nat.lt_of_lt_of_le hk x.size) hne,x.fr k hk hne],y.ht⟩
theorem Ext.toB{c:Nat}{G:Gh}{h h':Hp}(e:Ext h h')(t:HT G h):ToB c G h G h':=⟨.refl G,fun _ _=>rfl,e.size,fun b hb _=>e.block b hb,t.ext e⟩
theorem ToB.stab{c:Nat}{G G':Gh}{h h':Hp}(x:ToB c G h G' h')(hc:Mut (G.k c)){k:Nat}(hk:Stab G h k):h'[k]? = h[k]? ∧Stab G' h' k:=
 ⟨x.fr k hk.1 fun e=>hk.2 (e ▸ hc),Nat.lt_of_lt_of_le hk.1 x.size,by rw[x.old k hk.1];exact hk.2⟩
theorem HT.toB{G:Gh}{h h':Hp}(t:HT G h){c:Nat}(hb:¬ Told (G.k c))(hs:h.size≤h'.size)(e:∀ k,k<h.size→k≠c→h'[k]? = h[k]?):ToB c G h G h':=
 ⟨.refl G,fun _ _=>rfl,hs,e,t.other hb hs e⟩
theorem HT.kindNew{G:Gh}{h h1:Hp}(t:HT G h)(e:Ext h h1){b:Nat}(hb:h.size≤b)(hlt:b<h1.size){k:Kd}(hk:¬ Told k):To (fun _=>False) G h (G.set b k 0) h1∧(G.set b k 0).k b=k∧(G.set b k 0).W=G.W:=by
 have hany:G.k b=.any:=t.fresh hb
 have h0:G.n b=0:=t.n0 b hany
 refine⟨⟨Gh.set_le hany (by omega),fun c hc=>Gh.set_ne (by omega),e.size,fun c hc _=>e.block c hc,?_⟩,Gh.set_k,rfl⟩
 have:=(t.ext e).setOne hany hlt hk
 rw[h0]at this;exact this
structure TxS where
 state:Nat
 time:Int
 code:Int
 at_:Int
 P:List PutD
structure BufAt(G:Gh)(h:Hp)(i bb:Nat)(P:List PutD):Prop where
 kd:G.k bb=.tx 2 i
 ok:PutsOk P
 len:P.length≤16
 map:∃ (db:Nat) (dl:List ME) (dc:Nat),Row h bb [.int .i64 258,.int .i64 16,.map (some db)]∧G.k db=.tx 3 i∧h[db]? = some (mapO dl dc)∧MWf dl dc∧DM G dl P
structure SetAt(G:Gh)(h:Hp)(k:Kd)(m sb:Nat):Prop where
 kd:G.k sb=k
 row:∃ es:Sl,Row h sb [.int .i64 (m:Int),.slice es.base es.len es.cap]∧SlA G .exts es∧es.len≤m
structure ViewAt(G:Gh)(h:Hp)(M i em bb vb:Nat)(at_:Int):Prop where
 kd:G.k vb=.tx 4 i
 row:∃ (sb:Nat) (rs:Sl),Row h vb [pv em,pv bb,.int .i64 at_,pv sb,.slice rs.base rs.len rs.cap]∧SlA G (.reads i) rs∧rs.len≤M∧SetAt G h (.tx 5 i) 64 sb
structure TxAt(G:Gh)(h:Hp)(M em i tb:Nat)(t:TxS):Prop where
 kd:G.k tb=.tx 1 i
 row:∃ bb vb:Nat,Row h tb [.int .i64 (t.state:Int),.int .i64 t.time,.int .i64 t.code,.int .i64 t.at_,pv bb,pv vb]∧BufAt G h i bb t.P∧ViewAt G h M i em bb vb t.at_
theorem BufAt.to{S:Kd→Prop}{G G':Gh}{h h':Hp}{i bb:Nat}{P:List PutD}(x:BufAt G h i bb P)(y:To S G h G' h')(h2:¬ S (.tx 2 i))(h3:¬ S (.tx 3 i)):BufAt G' h' i bb P:=by
 obtain⟨db,dl,dc,r,k,e,w,d⟩:=x.map
 exact⟨y.kd x.kd (by simp),x.ok,x.len,db,dl,dc,y.rowK r x.kd h2,y.kd k (by simp),y.blk e (by rw[k];exact h3),w,d.mono y.le⟩
theorem SetAt.to{S:Kd→Prop}{G G':Gh}{h h':Hp}{k:Kd}{m sb:Nat}(x:SetAt G h k m sb)(y:To S G h G' h')(hk:k ≠ .any)(hS:¬ S k):SetAt G' h' k m sb:=by
 obtain⟨es,r,a,l⟩:=x.row
 exact⟨y.kd x.kd hk,es,y.rowK r x.kd hS,a.mono y.le,l⟩
theorem ViewAt.to{S:Kd→Prop}{G G':Gh}{h h':Hp}{M M' i em bb vb:Nat}{at_:Int}(x:ViewAt G h M i em bb vb at_)(y:To S G h G' h')(hM:M≤M')(h4:¬ S (.tx 4 i))(h5:¬ S (.tx 5 i)):ViewAt G' h' M' i em bb vb at_:=by
 obtain⟨sb,rs,r,a,l,s⟩:=x.row
 exact⟨y.kd x.kd (by simp),sb,rs,y.rowK r x.kd h4,a.mono y.le,by omega,s.to y (by simp) h5⟩
theorem TxAt.to{S:Kd→Prop}{G G':Gh}{h h':Hp}{M M' i em tb:Nat}{t:TxS}(x:TxAt G h M em i tb t)(y:To S G h G' h')(hM:M≤M')(hS:∀ n,¬ S (.tx n i)):TxAt G' h' M' em i tb t:=by
 obtain⟨bb,vb,r,b,v⟩:=x.row
 exact⟨y.kd x.kd (by simp),bb,vb,y.rowK r x.kd (hS 1),b.to y (hS 2) (hS 3),v.to y hM (hS 4) (hS 5)⟩
structure MgrD where
 txs:List TxS
 queue:List Nat
 out:Int
 num:Int
 base:Int
 last:Int
 given:Int
 read:Bool
def TxS.live(t:TxS):Prop:=t.state=1∨t.state=2
structure BookAt(G:Gh)(h:Hp)(bk n:Nat)(K:Int→Prop):Prop where
 kd:G.k bk=.one 6
 map:∃ (tm:Nat) (tl:List ME) (tc:Nat),Row h bk [.int .i64 16,.int .i64 (n:Int),.map (some tm)]∧G.k tm=.one 7∧h[tm]? = some (mapO tl tc)∧MWf tl tc∧tl.length≤16∧
  (∀ k,k∈kS tl↔K k)∧(∀ k∈kS tl,1≤k∧k≤(n:Int))∧∀ k v b,(k,v,b)∈tl →∃ n:Int,v=.int .i64 n
structure ExtAt(G:Gh)(h:Hp)(M em:Nat)(W:Prop):Prop where
 kd:G.k em=.one 4
 map:∃ (vm:Nat) (vl:List ME) (vc:Nat) (la:Int),Row h em [.int .i64 258,.map (some vm),.int .i64 la]∧G.k vm=.one 5∧h[vm]? = some (mapO vl vc)∧MWf vl vc∧VM G M vl∧(vl ≠ []→W)
structure MgrIn(G:Gh)(h:Hp)(M mb:Nat)(V:Prop)(D:MgrD)(em bk am:Nat)(q:Sl)(tb:Nat→Nat):Prop where
 kd:G.k mb=.one 3
 row:Row h mb [pv em,pv bk,.map (some am),.slice q.base q.len q.cap,.int .i64 D.out,.int .i64 D.num,.int .i64 D.base,.int .i64 D.last,.int .i64 D.given,.bool D.read]
 ext:ExtAt G h M em V
 book:BookAt G h bk D.txs.length (fun k=>∃ (j:Nat) (t:TxS),D.txs[j]? = some t∧t.live∧k=((j+1:Nat):Int))
 kam:G.k am=.one 9
 all:h[am]? = some (mapO ((List.range D.txs.length).map fun j=>(((j+1:Nat):Int),pv (tb j),j)) D.txs.length)
 que:OwnK (.one 10) 1 G h q (D.queue.map fun(n:Nat)=>.int .i64 (n:Int))
 tx:∀ j t,D.txs[j]? = some t→TxAt G h M em j (tb j) t
structure OwnN(lo sz:Nat)(G:Gh)(h:Hp)(s:Sl)(l:List Value):Prop where
 own:Own lo sz h s l
 any:∀ a,s.base=some a→G.k a.block=.any
theorem OwnN.nil(lo sz:Nat)(G:Gh)(h:Hp):OwnN lo sz G h Sl.nil []:=⟨Own.nil _ _ _,fun a ha=>by cases ha⟩
theorem OwnN.g{lo sz:Nat}{G:Gh}{h:Hp}{s:Sl}{l:List Value}(o:OwnN lo sz G h s l):OwnG sz G h s l:=⟨o.own.weak (Nat.zero_le _),o.any⟩
theorem OwnN.to{lo sz:Nat}{S:Kd→Prop}{G G':Gh}{h h':Hp}{s:Sl}{l:List Value}(o:OwnN lo sz G h s l)(x:To S G h G' h'):OwnN lo sz G' h' s l:=
 ⟨o.own.eq fun a ha=>x.fr _ (o.own.lt ha).2 (by rw[o.any a ha];exact fun h=>h.1),fun a ha=>by rw[x.old _ (o.own.lt ha).2];exact o.any a ha⟩
theorem Own.toN{lo sz:Nat}{G:Gh}{h h':Hp}{s:Sl}{l:List Value}(o:Own h.size sz h' s l)(t:HT G h)(hl:lo≤h.size):OwnN lo sz G h' s l:=⟨o.weak hl,fun a ha=>t.fresh (o.lt ha).1⟩
theorem To.give{S:Kd→Prop}{G0 G G':Gh}{h0 h:Hp}(y:To S G0 h0 G h)(le:G.Le G')(t:HT G' h){s:Sl}(hs:∀ a,s.base=some a→h0.size≤a.block)(e:∀ b,(∀ a,s.base=some a→b≠a.block)→G'.k b=G.k b):To S G0 h0 G' h:=
 ⟨y.le.trans le,fun b hb=>by rw[e b fun a ha he=>by have:=hs a ha;omega,y.old b hb],y.size,y.fr,t⟩
theorem OwnN.bytes{S:Kd→Prop}{G0 G:Gh}{h0 h:Hp}{s:Sl}{l:List UInt8}(y:To S G0 h0 G h)(o:OwnN h0.size 1 G h s (l.map bv)):∃ G',To S G0 h0 G' h∧G.Le G'∧SlB G' s l∧(∀ b,(∀ a,s.base=some a→b≠a.block)→G'.k b=G.k b)∧G'.W=G.W:=by
 obtain⟨G',a,b,c,d,e⟩:=o.g.bytes y.ht
 exact⟨G',y.give a b (fun a ha=>(o.own.lt ha).1) d,a,c,d,e⟩
theorem OwnN.puts{S:Kd→Prop}{G0 G:Gh}{h0 h:Hp}{s:Sl}{L:List ((Int × Sl) × List UInt8)}(y:To S G0 h0 G h)(o:OwnN h0.size 2 G h s (c2 (L.map (·.1))))(ok:∀ x∈L,SlB G x.1.2 x.2):∃ G',To S G0 h0 G' h∧SlP G' s (L.map fun x=>(x.1.1,x.2))∧G'.W=G.W:=by
 obtain⟨G',a,b,c,d,e⟩:=o.g.puts y.ht ok
 exact⟨G',y.give a b (fun a ha=>(o.own.lt ha).1) d,c,e⟩
theorem OwnN.arr{a:AK}{S:Kd→Prop}{G0 G:Gh}{h0 h:Hp}{s:Sl}{l:List Value}(y:To S G0 h0 G h)(o:OwnN h0.size a.sz G h s l)(ok:∀ i,i<s.len→okE G a ((l.drop (i*a.sz)).take a.sz)):∃ G',To S G0 h0 G' h∧SlA G' a s∧G'.W=G.W:=by
 obtain⟨G',a,b,c,d,e⟩:=o.g.arr y.ht ok
 exact⟨G',y.give a b (fun a ha=>(o.own.lt ha).1) d,c,e⟩
theorem OwnN.kind{k:Kd}(hk:¬ Told k)(hm:k ≠ .any){sz:Nat}{S:Kd→Prop}{G0 G:Gh}{h0 h:Hp}{s:Sl}{l:List Value}(y:To S G0 h0 G h)(o:OwnN h0.size sz G h s l):∃ G',To S G0 h0 G' h∧OwnK k sz G' h s l∧G'.W=G.W:=by
 obtain⟨G',a,b,c,d,e⟩:=o.g.kind hk hm y.ht
 exact⟨G',y.give a b (fun a ha=>(o.own.lt ha).1) d,c,e⟩
theorem To.own{S:Kd→Prop}{G0 G:Gh}{h0 h h':Hp}(y:To S G0 h0 G h){s:Sl}(hs:∀ a,s.base=some a→h0.size≤a.block∧G.k a.block=.any)(hz:h.size≤h'.size)(e:∀ b,b<h.size→(∀ a,s.base=some a→b≠a.block)→h'[b]? = h[b]?):To S G0 h0 G h':=by
 have e':∀ b,b<h.size→(∀ a,s.base=some a→b=a.block→False)→h'[b]? = h[b]?:=fun b hb hne=>e b hb fun a ha he=>hne a ha he
 refine⟨y.le,y.old,Nat.le_trans y.size hz,fun b hb hn=>?_,y.ht.keep hz fun b hb=>e' b (y.ht.dom b (by intro hk;rw[hk]at hb;exact hb)) fun a ha he=>?_⟩
 ·rw[e' b (Nat.lt_of_lt_of_le hb y.size) fun a ha he=>by have:=(hs a ha).1;omega,y.fr b hb hn]
 ·rw[he,(hs a ha).2]at hb;exact hb
theorem OwnN.app{e sz by_:Nat}{zc:Array Value}{S:Kd→Prop}{G0 G:Gh}{h0 h:Hp}{s x:Sl}{l news:List Value}{K:Sl→Hp→Prop}(y:To S G0 h0 G h)(hz:zc.size=sz)(o:OwnN h0.size sz G h s l)(hn:news.length=x.len*sz)(hr:RdC h x.base news)(hok:∀ v∈news,cellOk v=true)
 (hb:(s.len+x.len)*by_≤140737488355328) (hl:s.len+x.len<9223372036854775807)
 (hK:∀ r h',To S G0 h0 G h'→OwnN h0.size sz G h' r (l++news)→r.len=s.len+x.len→h.size≤h'.size→(∀ b,b<h.size→(∀ a,s.base=some a→b≠a.block)→h'[b]? = h[b]?)→K r h'):AppC e sz by_ zc s x h K:=
 AppC_own5 hz o.own y.size hn hr hok hb hl fun r h' o' l' k' x' b'=>hK r h' (y.own (fun a ha=>⟨(o.own.lt ha).1,o.any a ha⟩) k'.size x')
  ⟨o',fun a ha=>by
   rcases b' a ha with h | h
   ·exact o.any a h
   ·exact y.ht.fresh (by omega)⟩ l' k'.size x'
theorem OwnN.push{e ty sz by_:Nat}{zc:Array Value}{S:Kd→Prop}{G0 G:Gh}{h0 h:Hp}{s:Sl}{l news:List Value}{K:Sl→Hp→Prop}(y:To S G0 h0 G h)(hz:zc.size=sz)(o:OwnN h0.size sz G h s l)(hn:news.length=sz)(hok:∀ v∈news,cellOk v=true)
 (hb:(s.len+1)*by_≤140737488355328) (hl:s.len+1<9223372036854775807)
 (hK:∀ r h',To S G0 h0 G h'→OwnN h0.size sz G h' r (l++news)→r.len=s.len+1→h.size≤h'.size→(∀ b,b<h.size→(∀ a,s.base=some a→b≠a.block)→h'[b]? = h[b]?)→K r h'):AppC e sz by_ zc s (Sl.mk (some (nw h)) 1 1) (alc h news ty) K:=by
 have e1:=alc_ext h news ty
 refine OwnN.app (y.ext e1) hz (o.to ((To.refl y.ht (S:=fun _=>False)).ext e1)) (by simp[hn]) (RdC.alc h news ty) hok hb hl fun r h' a b c d f=>hK r h' a b c (Nat.le_trans e1.size d) fun k hk hne=>by
  rw[f k (Nat.lt_of_lt_of_le hk e1.size) hne,e1.block k hk]
theorem NewB.typed{G:Gh}{h h':Hp}{l:List UInt8}{r:Value}(t:HT G h)(n:NewB h l r h'):∃ (s:Sl) (G':Gh),r=.slice s.base s.len s.cap∧To (fun _=>False) G h G' h'∧SlB G' s l∧G'.W=G.W∧s.len=l.length:=by
 obtain⟨s,hr,o,hl,e⟩:=n
 obtain⟨G',a,_,b,_,c⟩:=OwnN.bytes (e.to (S:=fun _=>False) t) (o.toN t (Nat.le_refl _))
 exact⟨s,G',hr,a,b,c,hl⟩
theorem cloneB{G:Gh}{h:Hp}{s:Sl}{l:List UInt8}(t:HT G h)(x:SlB G s l)(hm:l.length≤1000000) :
 HC Tryz.prog 80 #[.slice s.base s.len s.cap] h fun r h'=>∃ (u:Sl) (G':Gh),r=.slice u.base u.len u.cap∧To (fun _=>False) G h G' h'∧SlB G' u l∧G'.W=G.W:=
 (slClone_spec (x.rd t) (by omega)).mono fun _ _ n=>by obtain⟨u,G',a,b,c,d,_⟩:=n.typed t;exact⟨u,G',a,b,c,d⟩
theorem cloneR{G:Gh}{h:Hp}{s:Sl}{l:List UInt8}(t:HT G h)(x:Rd 1 h s (l.map bv))(hm:l.length≤1000000) :
 HC Tryz.prog 80 #[.slice s.base s.len s.cap] h fun r h'=>∃ (u:Sl) (G':Gh),r=.slice u.base u.len u.cap∧To (fun _=>False) G h G' h'∧SlB G' u l∧G'.W=G.W:=
 (slClone_spec x (by omega)).mono fun _ _ n=>by obtain⟨u,G',a,b,c,d,_⟩:=n.typed t;exact⟨u,G',a,b,c,d⟩
def filt(P:Nat→Bool)(h:Hp):Hp:=h.mapIdx fun i o=>if P i then o else .cells #[] 0 (0,0)
theorem filt_at{P:Nat→Bool}{h:Hp}{b:Nat}(hb:P b=true):(filt P h)[b]? = h[b]?:=by
 unfold filt
 rw[Array.getElem?_mapIdx]
 simp[hb]
theorem filt_no{P:Nat→Bool}{h:Hp}{b:Nat}(hb:P b=false)(hlt:b<h.size):(filt P h)[b]? = some (.cells #[] 0 (0,0)):=by
 unfold filt
 rw[Array.getElem?_mapIdx,Array.getElem?_eq_getElem hlt]
 simp[hb]
theorem size_filt(P:Nat→Bool)(h:Hp):(filt P h).size=h.size:=by simp[filt]
theorem sub_filt{P:Nat→Bool}{h h':Hp}(e:∀ b,b<h.size→P b=true→h'[b]? = h[b]?):Sub (filt P h) h':=by
 refine⟨fun a v hc=>?_,fun r es c hm=>?_⟩
 ·have hlt:a.block<h.size:=by
   have:=hcell_lt hc
   rwa[size_filt]at this
  by_cases hp:P a.block=true
  ·rw[← hc]
   exact hcell_eq (by rw[e _ hlt hp,filt_at hp])
  ·exfalso
   have:=filt_no (by simpa using hp) hlt
   simp[hY,hw,World.cell?,this]at hc
 ·have hlt:r<h.size:=by
   have:=(Array.getElem?_eq_some_iff.1 hm).1
   rwa[size_filt]at this
  by_cases hp:P r=true
  ·rw[e _ hlt hp,← filt_at hp,hm]
  ·rw[filt_no (by simpa using hp) hlt]at hm;cases hm
theorem Row.filt{P:Nat→Bool}{h:Hp}{b:Nat}{l:List Value}(x:Row h b l)(hb:P b=true):Row (Go.Proofs.YtdpdkpfnfllipaaGreatDoor.filt P h) b l:=x.eq (filt_at hb)
open Classical in
noncomputable def kf (G:Gh) (S:Kd→Prop):Nat→Bool:=fun b=>decide (¬ (Mut (G.k b)∧S (G.k b)))
theorem kf_yes{G:Gh}{S:Kd→Prop}{b:Nat}(h:¬ S (G.k b)):kf G S b=true:=by simp[kf,h]
theorem kf_stab{G:Gh}{S:Kd→Prop}{b:Nat}(h:¬ Mut (G.k b)):kf G S b=true:=by simp[kf,h]
theorem To.kf{S:Kd→Prop}{G G':Gh}{h h':Hp}(x:To S G h G' h'):Sub (filt (kf G S) h) h':=sub_filt fun b hb hp=>x.fr b hb (by simpa [Go.Proofs.YtdpdkpfnfllipaaGreatDoor.kf] using hp)
theorem sub_kf(G:Gh)(S:Kd→Prop)(h:Hp):Sub (filt (kf G S) h) h:=sub_filt fun _ _ _=>rfl
theorem Addr.add_zero(a:Addr):a.add 0=a:=by simp[Addr.add]
theorem SlA.ix{G:Gh}{h:Hp}{a:AK}{s:Sl}(x:SlA G a s)(t:HT G h){i:Int}(k:Nat)(hi:i=k)(hk:k<s.len){K:Addr→Prop}
 (hK:∀ ad vs,okE G a vs→(∀ v,vs[0]? = some v→hY h (ad.add (i.toNat*a.sz))=some v)→(∀ j v,vs[j]? = some v→hY h ((ad.add (i.toNat*a.sz)).add j)=some v)→K ad):∃ ad:Addr,s.base=some ad∧0≤i∧i<(s.len:Int)∧K ad:=by
 obtain⟨ad,vs,h1,h2,h3⟩:=x.get t hk
 subst hi
 refine⟨ad,h1,by omega,by omega,hK ad vs h2 (fun v hv=>?_) fun j v hv=>?_⟩
 ·have:=h3 0 v hv
  simpa using this
 ·rw[add_add];exact h3 j v hv
section
open Go.RowKit Go.Maps Go.Sort Go.Shelf
theorem hw_heap(w:World):∀ {h:Hp},w.heap=h →∀ a,w.cell? a=hY h a:=by rintro _ rfl a;rfl
theorem kS_meOf{k:TypeId}{P:Program}(hk:P.underlying k=some (.int .i64))(R:Value→Option (DataW Unit × List MemPlace))(hR:∀ v,∃ y,R v=some y)(x:ME)(hx:(Lit.int .i64 x.1).wf=true) :
 (∃ y,Go.WideElems.rd P k R (meOf x)=some y)∧Go.intOf (Go.WideElems.rg P k R (meOf x)).1=x.1:=by
 obtain⟨y,hy⟩:=hR (meOf x).val
 have hkey:keyOf P k (meOf x).key=some (.int .i64 x.1):=keyOf_int_mk hk hx
 have:Go.WideElems.rd P k R (meOf x)=some (.int .i64 x.1,y.1):=by
  unfold Go.WideElems.rd
  rw[hkey,hy];rfl
 exact⟨⟨_,this⟩,by unfold Go.WideElems.rg;rw[this];rfl⟩
theorem wf_i64{x:Int}(h1 : -9223372036854775808≤x)(h2:x≤9223372036854775807):(Lit.int .i64 x).wf=true:=by
 simp only[Lit.wf,decide_eq_true_eq,IntKind.min,IntKind.max,IntKind.signed,IntKind.bits]
 simp
 omega
theorem ownsMap_of{P:Program}{k:TypeId}(hk:P.underlying k=some (.int .i64)){w:World}{b:Nat}{l:List ME}{c:Nat}(hb:w.heap[b]? = some (mapO l c))(wf:MWf l c)(hr:∀ x∈kS l,-9223372036854775808≤x∧x≤9223372036854775807)(hl:l.length≤1000000) :
 ∃ D:DataW Unit,w.ownsMap P k (fun _=>some (.nil,[])) b l.length D∧(intKeys D).Perm (kS l)∧Maps.size D=l.length:=by
 have hx:∀ x∈l,(Lit.int .i64 x.1).wf=true:=fun x hx=>by
  have:=hr x.1 (List.mem_map.2 ⟨x,hx,rfl⟩)
  exact wf_i64 this.1 this.2
 refine⟨_,⟨(l.map meOf).toArray,c,hb,⟨?_,⟨?_,?_,?_⟩,?_⟩,by simp,rfl⟩,?_,?_⟩
 ·simp[maxLen];omega
 ·intro e he
  simp only[List.mem_map]at he
  obtain⟨x,hx,rfl⟩:=he
  exact wf.lt x hx
 ·simp only[List.map_map];exact wf.borns
 ·simp only[List.map_map]
  have:=wf.keys
  unfold kS at this
  have e:(MapEntry.key ∘ meOf)=(fun x:Int=>Value.int .i64 x) ∘ (fun e:ME=>e.1):=rfl
  rw[e,← List.map_map]
  refine List.pairwise_map.2 (List.Pairwise.imp (fun {a b} hne e=>hne (by simpa using e)) this)
 ·intro e he
  simp only[List.mem_map]at he
  obtain⟨x,hx',rfl⟩:=he
  exact(kS_meOf hk _ (fun v=>⟨_,rfl⟩) x (hx x hx')).1
 ·show(List.map (fun p:Lit × DataW Unit=>Go.intOf p.1) _).Perm _
  refine((WideShapes.sorted_perm _).map _).trans ?_
  rw[List.map_map,List.map_map]
  refine List.Perm.of_eq (List.map_congr_left fun x hx'=>?_)
  exact(kS_meOf hk _ (fun v=>⟨_,rfl⟩) x (hx x hx')).2
 ·show List.length _=_
  rw[Go.length_sorted];simp
theorem own_of_row{w:World}{base sz n:Nat}{e:TypeId}{v:Value}{xs:List Value}(h:w.ownsRow base e sz v n xs):∃ s:Sl,v=.slice s.base s.len s.cap∧s.len=n∧Own base sz w.heap s xs:=by
 obtain⟨h1,⟨rfl,rfl⟩ | ⟨g,cap,cur,rfl,h2,h3,h4,h5,h6,h7⟩⟩:=h
 ·have:xs = []:=List.eq_nil_of_length_eq_zero (by simpa using h1)
  subst this
  exact⟨Sl.nil,rfl,rfl,Own.nil _ _ _⟩
 ·exact⟨⟨some ⟨g,0,none⟩,n,cap⟩,rfl,rfl,h1,h4,.inr ⟨g,cur,e,rfl,h2,h3,h6,h7⟩⟩
theorem below_same{B:Nat}{w w':World}(b:Go.RowKit.Below B w w'):Same w w':=⟨b.os,b.tape,b.output⟩
theorem sorted_lt{l:List Int}(hn:l.Nodup):(l.mergeSort fun x y=>decide (x≤y)).Pairwise (· < ·):=by
 have h1:=List.pairwise_mergeSort (le:=fun x y:Int=>decide (x≤y)) (fun a b c h1 h2=>by simp only[decide_eq_true_eq]at *;omega) (fun a b=>by simp only[Bool.or_eq_true,decide_eq_true_eq];omega) l
 have h2:(l.mergeSort fun x y=>decide (x≤y)).Nodup:=(List.mergeSort_perm l _).nodup_iff.2 hn
 refine(h1.and h2).imp ?_
 rintro a b ⟨h3,h4⟩
 simp only[decide_eq_true_eq]at h3
 omega
theorem keys_h{P:Program}{ρ:Ren}(L:SlLaysZI.n7 P ρ)(ok:okFn P (ρ.f 7)=true)(m:Option Nat)(h:Hp) :
 HC P (ρ.f 7) #[.map m] h fun r h'=>r=.func (.func (ρ.f 10)) #[] #[.pointer (some ⟨h.size,0,none⟩)]∧h'=alc h [.map m] (ρ.t 23):=by
 refine⟨ok,fun w hw=>?_⟩
 subst hw
 refine(callsIn_wide.1 (AnyZI.keys_in L Fence.wide 5 trivial rfl m w)).mono ?_
 rintro e w' ⟨rfl,rfl⟩
 exact⟨_,rfl,⟨rfl,rfl,rfl⟩,rfl,rfl⟩
theorem sorted_h{P:Program}{ρk ρ:Ren}(Lk:SlLaysZI.n10 P ρk)(L:SlLaysZI.n6 P ρ)(S:∀ m,AnyZI.SortsIn P ρ Fence.wide m)(e9:∀ args w,(callFunc (ρ.f 9) args).run P w=.ok (.enter (ρ.f 9) args) w)(ok:okFn P (ρ.f 6)=true)
 (eg:∀ args w,(callFunc (ρk.f 10) args).run P w=.ok (.enter (ρk.f 10) args) w)
 {h:Hp} {b r t:Nat} {l:List ME} {c:Nat} (hb:h[b]? = some (.cells #[.map (some r)] t (0,0))) (hr:h[r]? = some (mapO l c)) (wf:MWf l c) (hx:∀ x∈kS l,-9223372036854775808≤x∧x≤9223372036854775807) (hl:l.length≤1000000) :
 HC P (ρ.f 6) #[.func (.func (ρk.f 10)) #[] #[.pointer (some ⟨b,0,none⟩)]] h fun v h'=>∃ (s:Sl) (ks:List Int),v=.slice s.base s.len s.cap∧Own h.size 1 h' s (ks.map (.int .i64))∧ks.Pairwise (· < ·)∧(∀ k,k∈ks↔k∈kS l)∧ks.length=l.length∧s.len=l.length∧Ext h h':=by
 refine⟨ok,fun w hw=>?_⟩
 subst hw
 obtain⟨D,hD,hp,hs⟩:=ownsMap_of Lk.t26 hr wf hx hl
 have hY:w.cell? ⟨b,0,none⟩=some (.map (some r)):=by
  rw[hcell_heap,hcell_blk hb];rfl
 have hseq:=AnyZI.keys_gives Lk Fence.wide 2 trivial rfl (by omega) b r l.length D w (blk_lt hb) hY hD
 have hn:Maps.size D≤maxLen:=by rw[hs];simp[maxLen];omega
 refine(callsIn_wide.1 (AnyZI.sorted_in L Fence.wide 5 trivial trivial trivial trivial rfl (by omega) (S _) e9 _ _ trivial eg _ _ hn (by rw[hs];omega) w hseq)).mono ?_
 rintro e w' ⟨v,ss,rfl,hS,hrow,_,hbel⟩
 obtain⟨s,rfl,hlen,o⟩:=own_of_row hrow
 have hpk:ss.Perm (kS l):=hS.trans hp
 refine⟨_,rfl,below_same hbel,s,ss.mergeSort fun x y=>decide (x≤y),rfl,o,sorted_lt (hpk.nodup_iff.2 wf.keys),fun k=>?_,?_,?_,⟨hbel.size,hbel.block⟩⟩
 ·rw[(List.mergeSort_perm ss _).mem_iff,hpk.mem_iff]
 ·rw[(List.mergeSort_perm ss _).length_eq,hpk.length_eq];simp[kS]
 ·rw[hlen,hpk.length_eq];simp[kS]
end
section
open Go.RowKit Go.Maps Go.Sort Go.Shelf
def keysD_ren:Go.Shelf.Ren:=⟨fun | 7=>129 | 10=>182 | n=>n,fun | 23=>149 | 26=>3 | 3=>44 | 28=>212 | 0=>0 | 27=>211 | 33=>235 | 4=>4 | n=>n,fun | n=>n⟩
theorem keysD:Go.Proofs.SlLaysZI.n7 Tryz.prog keysD_ren:=
 { mixed:=by kernel_rfl,f7:=⟨Tryz.f129.name,by decide,Tryz.func129.trans (congrArg some (by kernel_rfl))⟩,f10:=⟨Tryz.f182.name,by decide,Tryz.func182.trans (congrArg some (by kernel_rfl))⟩,t0:=Tryz.underlying0,a0:=Tryz.isAgg0,z0:=Tryz.sizeOf0,v0:=Tryz.zeroValue0,t4:=Tryz.underlying4,a4:=Tryz.isAgg4,z4:=Tryz.sizeOf4,v4:=Tryz.zeroValue4,t23:=Tryz.underlying149,a23:=Tryz.isAgg149,z23:=Tryz.sizeOf149,v23:=Tryz.zeroValue149,t26:=Tryz.underlying3,a26:=Tryz.isAgg3,z26:=Tryz.sizeOf3,v26:=Tryz.zeroValue3,t27:=Tryz.underlying211,a27:=Tryz.isAgg211,z27:=Tryz.sizeOf211,v27:=Tryz.zeroValue211,t28:=Tryz.underlying212,a28:=Tryz.isAgg212,z28:=Tryz.sizeOf212,v28:=Tryz.zeroValue212,t33:=Tryz.underlying235,a33:=Tryz.isAgg235,z33:=Tryz.sizeOf235,v33:=Tryz.zeroValue235 }
def keysV_ren:Go.Shelf.Ren:=⟨fun | 7=>133 | 10=>183 | n=>n,fun | 23=>222 | 26=>3 | 3=>223 | 28=>212 | 0=>0 | 27=>211 | 33=>235 | 4=>4 | n=>n,fun | n=>n⟩
theorem keysV:Go.Proofs.SlLaysZI.n7 Tryz.prog keysV_ren:=
 { mixed:=by kernel_rfl,f7:=⟨Tryz.f133.name,by decide,Tryz.func133.trans (congrArg some (by kernel_rfl))⟩,f10:=⟨Tryz.f183.name,by decide,Tryz.func183.trans (congrArg some (by kernel_rfl))⟩,t0:=Tryz.underlying0,a0:=Tryz.isAgg0,z0:=Tryz.sizeOf0,v0:=Tryz.zeroValue0,t4:=Tryz.underlying4,a4:=Tryz.isAgg4,z4:=Tryz.sizeOf4,v4:=Tryz.zeroValue4,t23:=Tryz.underlying222,a23:=Tryz.isAgg222,z23:=Tryz.sizeOf222,v23:=Tryz.zeroValue222,t26:=Tryz.underlying3,a26:=Tryz.isAgg3,z26:=Tryz.sizeOf3,v26:=Tryz.zeroValue3,t27:=Tryz.underlying211,a27:=Tryz.isAgg211,z27:=Tryz.sizeOf211,v27:=Tryz.zeroValue211,t28:=Tryz.underlying212,a28:=Tryz.isAgg212,z28:=Tryz.sizeOf212,v28:=Tryz.zeroValue212,t33:=Tryz.underlying235,a33:=Tryz.isAgg235,z33:=Tryz.sizeOf235,v33:=Tryz.zeroValue235 }
def keysT_ren:Go.Shelf.Ren:=⟨fun | 7=>184 | 10=>232 | n=>n,fun | 23=>272 | 26=>3 | 3=>3 | 28=>212 | 0=>0 | 27=>211 | 33=>235 | 4=>4 | n=>n,fun | n=>n⟩
theorem keysT:Go.Proofs.SlLaysZI.n7 Tryz.prog keysT_ren:=
 { mixed:=by kernel_rfl,f7:=⟨Tryz.f184.name,by decide,Tryz.func184.trans (congrArg some (by kernel_rfl))⟩,f10:=⟨Tryz.f232.name,by decide,Tryz.func232.trans (congrArg some (by kernel_rfl))⟩,t0:=Tryz.underlying0,a0:=Tryz.isAgg0,z0:=Tryz.sizeOf0,v0:=Tryz.zeroValue0,t4:=Tryz.underlying4,a4:=Tryz.isAgg4,z4:=Tryz.sizeOf4,v4:=Tryz.zeroValue4,t23:=Tryz.underlying272,a23:=Tryz.isAgg272,z23:=Tryz.sizeOf272,v23:=Tryz.zeroValue272,t26:=Tryz.underlying3,a26:=Tryz.isAgg3,z26:=Tryz.sizeOf3,v26:=Tryz.zeroValue3,t27:=Tryz.underlying211,a27:=Tryz.isAgg211,z27:=Tryz.sizeOf211,v27:=Tryz.zeroValue211,t28:=Tryz.underlying212,a28:=Tryz.isAgg212,z28:=Tryz.sizeOf212,v28:=Tryz.zeroValue212,t33:=Tryz.underlying235,a33:=Tryz.isAgg235,z33:=Tryz.sizeOf235,v33:=Tryz.zeroValue235 }
def sortedA_ren:Go.Shelf.Ren:=⟨fun | 6=>128 | 8=>180 | 9=>181 | 11=>229 | 13=>231 | 12=>230 | 23=>280 | 24=>281 | 14=>271 | 15=>272 | 16=>273 | 17=>274 | 18=>275 | 19=>276 | 20=>277 | 21=>278 | 22=>279 | 25=>323 | 26=>324 | 27=>325 | 28=>326 | 29=>327 | 30=>328 | 31=>358 | n=>n,fun | 26=>3 | 28=>212 | 24=>29 | 0=>0 | 3=>3 | 37=>261 | 48=>199 | 50=>196 | 4=>4 | 40=>353 | 39=>352 | 45=>127 | 5=>5 | 9=>9 | 51=>394 | 55=>398 | 57=>435 | 58=>436 | 33=>235 | n=>n,fun | n=>n⟩
theorem sortedA:Go.Proofs.SlLaysZI.n6 Tryz.prog sortedA_ren:=
 { mixed:=by kernel_rfl,f6:=⟨Tryz.f128.name,by decide,Tryz.func128.trans (congrArg some (by kernel_rfl))⟩,f8:=⟨Tryz.f180.name,by decide,Tryz.func180.trans (congrArg some (by kernel_rfl))⟩,f11:=⟨Tryz.f229.name,by decide,Tryz.func229.trans (congrArg some (by kernel_rfl))⟩,t0:=Tryz.underlying0,a0:=Tryz.isAgg0,z0:=Tryz.sizeOf0,v0:=Tryz.zeroValue0,t24:=Tryz.underlying29,a24:=Tryz.isAgg29,z24:=Tryz.sizeOf29,v24:=Tryz.zeroValue29,t26:=Tryz.underlying3,a26:=Tryz.isAgg3,z26:=Tryz.sizeOf3,v26:=Tryz.zeroValue3,t28:=Tryz.underlying212,a28:=Tryz.isAgg212,z28:=Tryz.sizeOf212,v28:=Tryz.zeroValue212,i26:=by kernel_rfl }
def sortA_ren:Go.Shelf.Ren:=⟨fun | 5=>181 | 8=>231 | 7=>230 | 19=>280 | 20=>281 | 10=>271 | 11=>272 | 12=>273 | 13=>274 | 14=>275 | 15=>276 | 16=>277 | 17=>278 | 18=>279 | 30=>323 | 31=>324 | 32=>325 | 33=>326 | 34=>327 | 35=>328 | 40=>358 | n=>n,fun | 23=>29 | 25=>3 | 3=>3 | 32=>261 | 22=>29 | 0=>0 | 44=>199 | 46=>196 | 4=>4 | 36=>353 | 35=>352 | 41=>127 | 5=>5 | 9=>9 | 53=>394 | 57=>398 | 63=>435 | 64=>436 | n=>n,fun | n=>n⟩
theorem sortA:Go.Proofs.SlLaysM.n5 Tryz.prog sortA_ren:=
 { mixed:=by kernel_rfl,f5:=⟨Tryz.f181.name,by decide,Tryz.func181.trans (congrArg some (by kernel_rfl))⟩,f7:=⟨Tryz.f230.name,by decide,Tryz.func230.trans (congrArg some (by kernel_rfl))⟩,f8:=Tryz.func231.trans (congrArg some (by kernel_rfl)),f10:=⟨Tryz.f271.name,by decide,Tryz.func271.trans (congrArg some (by kernel_rfl))⟩,f11:=⟨Tryz.f272.name,by decide,Tryz.func272.trans (congrArg some (by kernel_rfl))⟩,f12:=⟨Tryz.f273.name,by decide,Tryz.func273.trans (congrArg some (by kernel_rfl))⟩,f13:=⟨Tryz.f274.name,by decide,Tryz.func274.trans (congrArg some (by kernel_rfl))⟩,f14:=⟨Tryz.f275.name,by decide,Tryz.func275.trans (congrArg some (by kernel_rfl))⟩,f15:=⟨Tryz.f276.name,by decide,Tryz.func276.trans (congrArg some (by kernel_rfl))⟩,f16:=⟨Tryz.f277.name,by decide,Tryz.func277.trans (congrArg some (by kernel_rfl))⟩,f17:=⟨Tryz.f278.name,by decide,Tryz.func278.trans (congrArg some (by kernel_rfl))⟩,f18:=⟨Tryz.f279.name,by decide,Tryz.func279.trans (congrArg some (by kernel_rfl))⟩,f19:=Tryz.func280.trans (congrArg some (by kernel_rfl)),f20:=Tryz.func281.trans (congrArg some (by kernel_rfl)),f30:=⟨Tryz.f323.name,by decide,Tryz.func323.trans (congrArg some (by kernel_rfl))⟩,f31:=Tryz.func324.trans (congrArg some (by kernel_rfl)),f32:=Tryz.func325.trans (congrArg some (by kernel_rfl)),f33:=⟨Tryz.f326.name,by decide,Tryz.func326.trans (congrArg some (by kernel_rfl))⟩,
    f34:=⟨Tryz.f327.name,by decide,Tryz.func327.trans (congrArg some (by kernel_rfl))⟩,f35:=⟨Tryz.f328.name,by decide,Tryz.func328.trans (congrArg some (by kernel_rfl))⟩,f40:=⟨Tryz.f358.name,by decide,Tryz.func358.trans (congrArg some (by kernel_rfl))⟩,t0:=Tryz.underlying0,a0:=Tryz.isAgg0,z0:=Tryz.sizeOf0,v0:=Tryz.zeroValue0,t3:=Tryz.underlying3,a3:=Tryz.isAgg3,z3:=Tryz.sizeOf3,v3:=Tryz.zeroValue3,t4:=Tryz.underlying4,a4:=Tryz.isAgg4,z4:=Tryz.sizeOf4,v4:=Tryz.zeroValue4,t5:=Tryz.underlying5,a5:=Tryz.isAgg5,z5:=Tryz.sizeOf5,v5:=Tryz.zeroValue5,t9:=Tryz.underlying9,a9:=Tryz.isAgg9,z9:=Tryz.sizeOf9,v9:=Tryz.zeroValue9,t22:=Tryz.underlying29,a22:=Tryz.isAgg29,z22:=Tryz.sizeOf29,v22:=Tryz.zeroValue29,t23:=Tryz.underlying29,a23:=Tryz.isAgg29,z23:=Tryz.sizeOf29,v23:=Tryz.zeroValue29,t25:=Tryz.underlying3,a25:=Tryz.isAgg3,z25:=Tryz.sizeOf3,v25:=Tryz.zeroValue3,t32:=Tryz.underlying261,a32:=Tryz.isAgg261,z32:=Tryz.sizeOf261,v32:=Tryz.zeroValue261,t35:=Tryz.underlying352,a35:=Tryz.isAgg352,z35:=Tryz.sizeOf352,v35:=Tryz.zeroValue352,t36:=Tryz.underlying353,a36:=Tryz.isAgg353,z36:=Tryz.sizeOf353,v36:=Tryz.zeroValue353,t41:=Tryz.underlying127,a41:=Tryz.isAgg127,z41:=Tryz.sizeOf127,v41:=Tryz.zeroValue127,t44:=Tryz.underlying199,a44:=Tryz.isAgg199,z44:=Tryz.sizeOf199,v44:=Tryz.zeroValue199,t46:=Tryz.underlying196,a46:=Tryz.isAgg196,z46:=Tryz.sizeOf196,v46:=Tryz.zeroValue196,
    t53:=Tryz.underlying394,a53:=Tryz.isAgg394,z53:=Tryz.sizeOf394,v53:=Tryz.zeroValue394,t57:=Tryz.underlying398,a57:=Tryz.isAgg398,z57:=Tryz.sizeOf398,v57:=Tryz.zeroValue398,t63:=Tryz.underlying435,a63:=Tryz.isAgg435,z63:=Tryz.sizeOf435,v63:=Tryz.zeroValue435,t64:=Tryz.underlying436,a64:=Tryz.isAgg436,z64:=Tryz.sizeOf436,v64:=Tryz.zeroValue436 }
theorem sorts_A(m:Nat):AnyZI.SortsIn Tryz.prog sortedA_ren Fence.wide m:=
 ⟨fun blk off cap ss W hH hblk hsz=>callsIn_wide.2 (AnyM.slices_Sort_int sortA blk off cap ss W hH hblk hsz),fun p cap W=>callsIn_wide.2 (AnyM.slices_Sort_int_none sortA p cap W)⟩
theorem sortedD{h:Hp}{r:Nat}{l:List ME}{c:Nat}(hr:h[r]? = some (mapO l c))(wf:MWf l c)(hx:∀ x∈kS l,-9223372036854775808≤x∧x≤9223372036854775807)(hl:l.length≤1000000){K:Sl→Hp→Prop}
 (hK:∀ (s:Sl) (ks:List Int) (h':Hp),Own h.size 1 h' s (ks.map (.int .i64))→ks.Pairwise (· < ·)→(∀ k,k∈ks↔k∈kS l)→ks.length=l.length→s.len=ks.length→Ext h h'→K s h') :
 HC Tryz.prog 129 #[.map (some r)] h fun v vh=>∃ c1:Value,v=c1∧HC Tryz.prog 128 #[c1] vh fun v1 vh1=>∃ c2:Sl,v1=.slice c2.base c2.len c2.cap∧K c2 vh1:=by
 have k1:HC Tryz.prog 129 #[.map (some r)] h fun v h'=>v=.func (.func 182) #[] #[.pointer (some ⟨h.size,0,none⟩)]∧h'=alc h [.map (some r)] (keysD_ren.t 23):=keys_h keysD (by kernel_rfl) (some r) h
 refine k1.mono ?_
 rintro _ _ ⟨rfl,rfl⟩
 refine⟨_,rfl,?_⟩
 have e1:Ext h (alc h [.map (some r)] (keysD_ren.t 23)):=alc_ext _ _ _
 have k2:HC Tryz.prog 128 #[.func (.func 182) #[] #[.pointer (some ⟨h.size,0,none⟩)]] (alc h [.map (some r)] (keysD_ren.t 23)) _:=sorted_h { keysD with } sortedA sorts_A (enters_of Tryz.func181 (by kernel_rfl) rfl) (by kernel_rfl) (enters_of Tryz.func182 (by kernel_rfl) rfl) (alc_new h [.map (some r)] _) ((e1.block r (blk_lt hr)).trans hr) wf hx hl
 refine k2.mono ?_
 rintro _ h2 ⟨s,ks,rfl,o,p,m,n,q,e2⟩
 exact⟨s,rfl,hK s ks h2 (o.weak (by rw[size_alc];omega)) p m n (by omega) (e1.trans e2)⟩
theorem sortedV{h:Hp}{r:Nat}{l:List ME}{c:Nat}(hr:h[r]? = some (mapO l c))(wf:MWf l c)(hx:∀ x∈kS l,-9223372036854775808≤x∧x≤9223372036854775807)(hl:l.length≤1000000){K:Sl→Hp→Prop}
 (hK:∀ (s:Sl) (ks:List Int) (h':Hp),Own h.size 1 h' s (ks.map (.int .i64))→ks.Pairwise (· < ·)→(∀ k,k∈ks↔k∈kS l)→ks.length=l.length→s.len=ks.length→Ext h h'→K s h') :
 HC Tryz.prog 133 #[.map (some r)] h fun v vh=>∃ c1:Value,v=c1∧HC Tryz.prog 128 #[c1] vh fun v1 vh1=>∃ c2:Sl,v1=.slice c2.base c2.len c2.cap∧K c2 vh1:=by
 have k1:HC Tryz.prog 133 #[.map (some r)] h fun v h'=>v=.func (.func 183) #[] #[.pointer (some ⟨h.size,0,none⟩)]∧h'=alc h [.map (some r)] (keysV_ren.t 23):=keys_h keysV (by kernel_rfl) (some r) h
 refine k1.mono ?_
 rintro _ _ ⟨rfl,rfl⟩
 refine⟨_,rfl,?_⟩
 have e1:Ext h (alc h [.map (some r)] (keysV_ren.t 23)):=alc_ext _ _ _
 have k2:HC Tryz.prog 128 #[.func (.func 183) #[] #[.pointer (some ⟨h.size,0,none⟩)]] (alc h [.map (some r)] (keysV_ren.t 23)) _:=sorted_h { keysV with } sortedA sorts_A (enters_of Tryz.func181 (by kernel_rfl) rfl) (by kernel_rfl) (enters_of Tryz.func183 (by kernel_rfl) rfl) (alc_new h [.map (some r)] _) ((e1.block r (blk_lt hr)).trans hr) wf hx hl
 refine k2.mono ?_
 rintro _ h2 ⟨s,ks,rfl,o,p,m,n,q,e2⟩
 exact⟨s,rfl,hK s ks h2 (o.weak (by rw[size_alc];omega)) p m n (by omega) (e1.trans e2)⟩
theorem sortedT{h:Hp}{r:Nat}{l:List ME}{c:Nat}(hr:h[r]? = some (mapO l c))(wf:MWf l c)(hx:∀ x∈kS l,-9223372036854775808≤x∧x≤9223372036854775807)(hl:l.length≤1000000){K:Sl→Hp→Prop}
 (hK:∀ (s:Sl) (ks:List Int) (h':Hp),Own h.size 1 h' s (ks.map (.int .i64))→ks.Pairwise (· < ·)→(∀ k,k∈ks↔k∈kS l)→ks.length=l.length→s.len=ks.length→Ext h h'→K s h') :
 HC Tryz.prog 184 #[.map (some r)] h fun v vh=>∃ c1:Value,v=c1∧HC Tryz.prog 128 #[c1] vh fun v1 vh1=>∃ c2:Sl,v1=.slice c2.base c2.len c2.cap∧K c2 vh1:=by
 have k1:HC Tryz.prog 184 #[.map (some r)] h fun v h'=>v=.func (.func 232) #[] #[.pointer (some ⟨h.size,0,none⟩)]∧h'=alc h [.map (some r)] (keysT_ren.t 23):=keys_h keysT (by kernel_rfl) (some r) h
 refine k1.mono ?_
 rintro _ _ ⟨rfl,rfl⟩
 refine⟨_,rfl,?_⟩
 have e1:Ext h (alc h [.map (some r)] (keysT_ren.t 23)):=alc_ext _ _ _
 have k2:HC Tryz.prog 128 #[.func (.func 232) #[] #[.pointer (some ⟨h.size,0,none⟩)]] (alc h [.map (some r)] (keysT_ren.t 23)) _:=sorted_h { keysT with } sortedA sorts_A (enters_of Tryz.func181 (by kernel_rfl) rfl) (by kernel_rfl) (enters_of Tryz.func232 (by kernel_rfl) rfl) (alc_new h [.map (some r)] _) ((e1.block r (blk_lt hr)).trans hr) wf hx hl
 refine k2.mono ?_
 rintro _ h2 ⟨s,ks,rfl,o,p,m,n,q,e2⟩
 exact⟨s,rfl,hK s ks h2 (o.weak (by rw[size_alc];omega)) p m n (by omega) (e1.trans e2)⟩
end
theorem To.sub{S:Kd→Prop}{G G':Gh}{h h':Hp}(x:To (fun _=>False) G h G' h'):To S G h G' h':=x.mono fun _ hk=>hk.elim
theorem DM.at{G:Gh}{dl:List ME}{dc:Nat}{P:List PutD}(d:DM G dl P)(w:MWf dl dc)(o:PutsOk P){p:PutD}(hp:p∈P):∃ s:Sl,mget dl p.1=some (.slice s.base s.len s.cap)∧SlB G s p.2:=by
 obtain⟨e,he,hk⟩:=List.mem_map.1 ((d.keys p.1).2 (List.mem_map.2 ⟨p,hp,rfl⟩))
 obtain⟨k,v,b⟩:=e
 simp only at hk;subst hk
 obtain⟨s,l,rfl,h2,h3⟩:=d.each _ v b he
 rw[o.uniq (k:=p.1) (l:=l) (l':=p.2) h3 hp]at h2
 exact⟨s,w.get he,h2⟩
theorem DM.hasnt{G:Gh}{dl:List ME}{P:List PutD}(d:DM G dl P){k:Int}(hk:k ∉ P.map (·.1)):mget dl k=none:=mget_none.2 fun h=>hk ((d.keys k).1 h)
theorem PutsOk.i64{P:List PutD}(o:PutsOk P){G:Gh}{dl:List ME}(d:DM G dl P):∀ x∈kS dl,-9223372036854775808≤x∧x≤9223372036854775807:=by
 intro x hx
 obtain⟨p,hp,rfl⟩:=List.mem_map.1 ((d.keys x).1 hx)
 have:=o.2 p hp
 omega
theorem bPuts_spec{G:Gh}{h:Hp}{i bb:Nat}{P:List PutD}(t:HT G h)(x:BufAt G h i bb P) :
 HC Tryz.prog 131 #[pv bb] h fun r h'=>∃ (s:Sl) (G':Gh),r=.slice s.base s.len s.cap∧To (fun _=>False) G h G' h'∧SlP G' s P∧G'.W=G.W:=by
 apply wc131
 unfold vc131
 obtain⟨db,dl,dc,r,kd,em,w,d⟩:=x.map
 have hlen:=d.len w x.ok
 have hl16:=x.len
 refine IfB.no rfl ⟨_,rfl,_,r.get rfl,?_⟩
 refine sortedD em w (x.ok.i64 d) (by omega) fun s ks h1 o1 p m n q e1=>?_
 obtain rfl:ks=P.map (·.1):=x.ok.sorted p fun k=>by rw[m,d.keys]
 have hks:s.len=P.length:=by rw[q];simp
 have t1:=t.ext e1
 refine⟨fun out i m h'=>∃ (j:Nat) (G':Gh) (L:List ((Int × Sl) × List UInt8)),i=j∧m+j=P.length∧To (fun _=>False) G h1 G' h'∧OwnN h1.size 2 G' h' out (c2 (L.map (·.1)))∧(∀ x∈L,SlB G' x.1.2 x.2)∧L.map (fun x=>(x.1.1,x.2))=P.take j∧G'.W=G.W,
  P.length,⟨0,G,[],rfl,rfl,.refl t1,OwnN.nil _ _ _ _,fun x hx=>by simp at hx,rfl,rfl⟩,?_⟩
 rintro _ out _ m h2 ⟨j,G2,L,rfl,hm,y2,o2,ok2,hL,hW⟩
 have hLl:L.length=j:=by have:=congrArg List.length hL;rw[List.length_map,List.length_take]at this;omega
 have hol:=o2.own.len
 rw[c2_length,List.length_map]at hol
 refine IfB.dec (fun hlt=>?_) (fun hge=>?_)
 ·have hj:j<P.length:=by omega
  have e2:=y2.toExt
  obtain⟨sv,hg,hb⟩:=d.at w x.ok (List.getElem_mem hj)
  have pj:=x.ok.2 _ (List.getElem_mem hj)
  refine ix1 (o1.rd.ext e2) (by simpa using hks.symm) j rfl (by simpa using hj) fun a _ hc=>⟨P[j].1,by simpa using hc,_,rfl,_,((r.ext e1).ext e2).get rfl,dl,dc,?_,sv,by rw[hg];rfl,?_⟩
  ·exact(e2.block db (Nat.lt_of_lt_of_le (blk_lt em) e1.size)).trans ((e1.block db (blk_lt em)).trans em)
  ·refine(cloneB y2.ht (hb.mono y2.le) (by omega)).mono ?_
   rintro _ h3 ⟨u,G3,rfl,y3,b3,W3⟩
   refine⟨u,rfl,?_⟩
   have y4:=y2.trans y3
   refine OwnN.push (l:=c2 (L.map (·.1))) y4 rfl (o2.to y3) rfl (by simp[cellOk]) (by omega) (by omega) fun r' h5 y5 o5 l5 _ _=>⟨m-1,by omega,j+1,G3,L ++ [((P[j].1,u),P[j].2)],by rw[iAdd64 (by omega)];push_cast;rfl,by omega,y5,?_,?_,?_,W3.trans hW⟩
   ·rw[List.map_append,c2_append];exact o5
   ·intro z hz
    rcases List.mem_append.1 hz with hz | hz
    ·exact(ok2 z hz).mono y3.le
    ·simp only[List.mem_cons,List.not_mem_nil,or_false]at hz;subst hz;exact b3
   ·rw[List.map_append,hL,List.take_succ_eq_append_getElem hj];rfl
 ·obtain rfl:j=P.length:=by omega
  obtain⟨G3,y3,p3,W3⟩:=OwnN.puts y2 o2 ok2
  rw[hL,List.take_length]at p3
  exact⟨out,G3,rfl,(e1.to t).trans y3,p3,W3.trans hW⟩
theorem bLen_spec{G:Gh}{h:Hp}{i bb:Nat}{P:List PutD}(t:HT G h)(x:BufAt G h i bb P):HC Tryz.prog 290 #[pv bb] h fun r h'=>r=.int .i64 (P.length:Int)∧Ext h h':=by
 apply wc290
 unfold vc290
 refine(bPuts_spec t x).mono ?_
 rintro _ h1 ⟨s,G1,rfl,y,p,_⟩
 exact⟨s,rfl,by rw[p.slen],y.toExt⟩
theorem bGet_spec{G:Gh}{h:Hp}{i bb:Nat}{P:List PutD}(t:HT G h)(x:BufAt G h i bb P)(lba:Int):HC Tryz.prog 286 #[pv bb,.int .i64 lba] h fun r h'=>
 ∃ (s:Sl) (b:Bool) (G':Gh) (l:List UInt8),r=.tuple #[.slice s.base s.len s.cap,.bool b]∧To (fun _=>False) G h G' h'∧SlB G' s l∧l.length≤40∧(b=true→l.length=40)∧G'.W=G.W:=by
 apply wc286
 unfold vc286
 obtain⟨db,dl,dc,r,kd,em,w,d⟩:=x.map
 refine IfB.no rfl ⟨_,rfl,_,r.get rfl,dl,dc,em,?_⟩
 by_cases hk:lba∈P.map (·.1)
 ·obtain⟨p,hp,rfl⟩:=List.mem_map.1 hk
  obtain⟨sv,hg,hb⟩:=d.at w x.ok hp
  have pj:=x.ok.2 _ hp
  refine⟨sv,by rw[hg];rfl,(cloneB t hb (by omega)).mono ?_⟩
  rintro _ h3 ⟨u,G3,rfl,y3,b3,W3⟩
  exact⟨u,rfl,u,_,G3,p.2,rfl,y3,b3,by omega,fun _=>pj.2.2,W3⟩
 ·refine⟨Sl.nil,by rw[d.hasnt hk];rfl,(cloneB t (SlB.nil G) (by simp)).mono ?_⟩
  rintro _ h3 ⟨u,G3,rfl,y3,b3,W3⟩
  refine⟨u,rfl,u,_,G3,[],rfl,y3,b3,by simp,fun hb=>?_,W3⟩
  unfold mhas at hb;rw[d.hasnt hk]at hb;cases hb
theorem bNew_spec(h:Hp):HC Tryz.prog 234 #[.int .i64 258,.int .i64 16] h fun r h'=>Ext h h'∧∃ b,r=.tuple #[pv b,.int .i64 0]∧h.size<b∧Row h' b [.int .i64 258,.int .i64 16,.map (some h.size)]∧h'[h.size]? = some (mapO [] 0):=by
 apply wc234
 unfold vc234
 refine IfB.dec (fun hh=>absurd hh (by decide)) fun _=>IfB.dec (fun hh=>absurd hh (by decide)) fun _=>IfB.dec (fun hh=>absurd hh (by decide)) fun _=>?_
 have e1:Ext h (h.push (mapO [] 0)):=Ext.push _ _
 refine⟨e1.trans (alc_ext _ _ _),(h.push (mapO [] 0)).size,rfl,by simp,Row.alc _ _ _,?_⟩
 show(alc _ _ _)[h.size]? = _
 rw[alc_old _ _ _ (by simp)]
 simp
end Go.Proofs.YtdpdkpfnfllipaaGreatDoor
