/- A part of the proof, no condition. -/
import Derived.Test.YtdpdkpfnfllipaaGreatDoorN7
set_option linter.unusedVariables false
set_option linter.unusedSimpArgs false
namespace Go.Proofs.YtdpdkpfnfllipaaGreatDoor
def e2(l:List (Int × Int)):List Value:=l.flatMap fun p=>[.int .i64 p.1,.int .i64 p.2]
theorem e2_cons(p:Int × Int)(r:List (Int × Int)):e2 (p::r)=.int .i64 p.1 :: .int .i64 p.2::e2 r:=rfl
theorem e2_length:∀ l,(e2 l).length=l.length*2
 | []=>rfl
 | p::r=>by rw[e2_cons];simp only[List.length_cons,e2_length r];omega
theorem e2_get0:∀ (l:List (Int × Int)) (i:Nat),(e2 l)[i*2]? =(l[i]?).map fun p=>.int .i64 p.1
 | [],i=>by simp[e2]
 | p::r,0=>rfl
 | p::r,i+1=>by rw[e2_cons,show(i+1)*2=i*2+1+1 by omega];simpa using e2_get0 r i
theorem e2_get1:∀ (l:List (Int × Int)) (i:Nat),(e2 l)[i*2+1]? =(l[i]?).map fun p=>.int .i64 p.2
 | [],i=>by simp[e2]
 | p::r,0=>rfl
 | p::r,i+1=>by rw[e2_cons,show(i+1)*2+1=i*2+1+1+1 by omega];simpa using e2_get1 r i
theorem e2_append(a b:List (Int × Int)):e2 (a++b)=e2 a++e2 b:=by simp[e2]
theorem e2_ok(l:List (Int × Int)):∀ v∈e2 l,cellOk v=true:=by
 intro v hv
 obtain⟨p,_,h⟩:=List.mem_flatMap.1 hv
 simp only[List.mem_cons,List.not_mem_nil,or_false]at h
 rcases h with rfl | rfl <;> rfl
theorem e2_chunk(l:List (Int × Int))(i:Nat)(hi:i<l.length):((e2 l).drop (i*2)).take 2 = [.int .i64 l[i].1,.int .i64 l[i].2]:=by
 apply List.ext_getElem?
 intro j
 rw[List.getElem?_take]
 by_cases hj:j<2
 ·rw[if_pos hj,List.getElem?_drop]
  rcases(by omega:j=0∨j=1) with rfl | rfl
  ·rw[Nat.add_zero,e2_get0,List.getElem?_eq_getElem hi];rfl
  ·rw[e2_get1,List.getElem?_eq_getElem hi];rfl
 ·rw[if_neg hj,List.getElem?_eq_none (by simp;omega)]
theorem ixe{h:Hp}{s:Sl}{l:List (Int × Int)}(r:Rd 2 h s (e2 l)){i:Int}(k:Nat)(hi:i=k)(hk:k<l.length){K:Addr→Prop}
 (hK:∀ a,hY h (a.add (i.toNat*2))=some (.int .i64 l[k].1)→hY h ((a.add (i.toNat*2)).add 1)=some (.int .i64 l[k].2)→K a):∃ a:Addr,s.base=some a∧0≤i∧i<(s.len:Int)∧K a:=by
 subst hi
 have hl:=r.len
 rw[e2_length]at hl
 obtain⟨a,ha,c0⟩:=r.rd (k*2) (.int .i64 l[k].1) (by rw[e2_get0,List.getElem?_eq_getElem hk];rfl)
 obtain⟨a',ha',c1⟩:=r.rd (k*2+1) (.int .i64 l[k].2) (by rw[e2_get1,List.getElem?_eq_getElem hk];rfl)
 obtain rfl:a=a':=by rw[ha]at ha';exact Option.some.inj ha'
 exact⟨a,ha,by omega,by omega,hK a (by simpa using c0) (by rw[add_add];simpa using c1)⟩
theorem Rd.lenE{h:Hp}{s:Sl}{l:List (Int × Int)}(r:Rd 2 h s (e2 l)):s.len=l.length:=by have:=r.len;rw[e2_length]at this;omega
theorem SlA.exts{G:Gh}{h:Hp}(t:HT G h){s:Sl}(x:SlA G .exts s):∃ L:List (Int × Int),Rd 2 h s (e2 L):=by
 obtain⟨l,r,ok⟩:=x.all t
 have key:∀ (n:Nat) (l:List Value),l.length=n*2→(∀ i,i<n→okE G .exts ((l.drop (i*2)).take 2)) →∃ L:List (Int × Int),l=e2 L:=by
  intro n
  induction n with
  | zero=>exact fun l hl _=>⟨[],List.eq_nil_of_length_eq_zero (by omega)⟩
  | succ n ih=>
    intro l hl hok
    match l,hl with
    | a::b::r,hl=>
      obtain⟨x,y,e⟩:=hok 0 (by omega)
      simp at e
      obtain⟨rfl,rfl⟩:=e
      obtain⟨L,rfl⟩:=ih r (by simp at hl;omega) (fun i hi=>by
       have:=hok (i+1) (by omega)
       rw[show(i+1)*2=i*2+2 by omega]at this
       simpa using this)
      exact⟨(x,y)::L,rfl⟩
    | [a],hl=>simp at hl;omega
    | [],hl=>simp at hl
 obtain⟨L,rfl⟩:=key s.len l r.len ok
 exact⟨L,r⟩
def NewE(h:Hp)(L:List (Int × Int))(r:Value)(h':Hp):Prop:=∃ t:Sl,r=.slice t.base t.len t.cap∧Own h.size 2 h' t (e2 L)∧t.len=L.length∧Ext h h'
theorem Own.exts{lo:Nat}{G:Gh}{h:Hp}(t:HT G h){h':Hp}{s:Sl}{L:List (Int × Int)}(e:Ext h h')(o:Own lo 2 h' s (e2 L))(hl:h.size≤lo):∃ G',To (fun _=>False) G h G' h'∧SlA G' .exts s∧G'.W=G.W:=by
 have hlen:s.len=L.length:=o.toRd.lenE
 obtain⟨G',q1,q2,q3,q4,q5⟩:=OwnG.arr (a := .exts) (t.ext e) (o.toG t hl) (fun i hi=>⟨_,_,e2_chunk L i (by omega)⟩)
 exact⟨G',⟨q1,fun b hb=>q4 b fun a ha=>by have:=(o.lt ha).1;omega,e.size,fun b hb _=>e.block b hb,q2⟩,q3,q5⟩
theorem eClone_spec{h:Hp}{s:Sl}{L:List (Int × Int)}(r:Rd 2 h s (e2 L))(hmax:L.length≤1000000):HC Tryz.prog 362 #[.slice s.base s.len s.cap] h (NewE h L):=by
 apply wc362
 unfold vc362
 have ll:=r.lenE
 refine IfB.nilp (fun hn=>?_) (fun a ha=>?_)
 ·have:L = []:=by
   rcases L with _ | ⟨x,l⟩
   ·rfl
   ·obtain⟨a,ha,_⟩:=r.rd 0 (.int .i64 x.1) rfl;rw[hn]at ha;cases ha
  subst this
  exact⟨Sl.nil,rfl,Own.nil _ _ _,rfl,.refl h⟩
 ·have o0:Own h.size 2 (alc h [] 232) ⟨some (nw h),0,0⟩ []:=Own.alc h [] 232 0 2 rfl
  refine AppC_own (news:=e2 L) rfl o0 (by rw[size_alc];omega) (by rw[e2_length,ll]) (r.ext (alc_ext _ _ _)).rd (e2_ok L) (by simp;omega) (by simp;omega) fun t h1 o1 l1 k1 _=>?_
  exact⟨t,rfl,by simpa using o1,by rw[l1];simp;omega,(((alc_ext h [] 232).toKeep).trans k1).ext⟩
theorem eGrow_spec(n:Nat)(hn:n≤1000000)(h:Hp) :
 HC Tryz.prog 365 #[.slice Sl.nil.base Sl.nil.len Sl.nil.cap,.int .i64 (n:Int)] h fun r h'=>∃ t:Sl,r=.slice t.base t.len t.cap∧Own h.size 2 h' t []∧t.len=0∧Ext h h':=by
 apply wc365
 unfold vc365
 have e0:iSub .i64 (n:Int) (iSub .i64 ((Sl.nil.cap:Nat):Int) ((Sl.nil.len:Nat):Int))=(n:Int):=by
  show iSub .i64 (n:Int) (iSub .i64 ((0:Nat):Int) ((0:Nat):Int))=_
  rw[iSub64 (a:=((0:Nat):Int)) (by omega),iSub64 (by omega)];omega
 rw[e0]
 refine IfB.dec (fun hh=>by omega) (fun _=>IfB.dec (fun hpos=>⟨by omega,by simp[Sl.nil],by omega,by omega,?_⟩) (fun _=>⟨Sl.nil,rfl,Own.nil _ _ _,rfl,.refl h⟩))
 have ec:cutSl Sl.nil (0:Int) ((Sl.nil.cap:Nat):Int) ((Sl.nil.cap:Nat):Int) 2=Sl.nil:=rfl
 rw[ec]
 unfold AppZ
 rw[Int.toNat_natCast]
 refine⟨by omega,by simp[Sl.nil];omega,by simp[Sl.nil];omega,by omega,by omega,fun hc=>by simp[Sl.nil]at hc;omega,fun _=>⟨[],rfl,RdC.nil _ _,fun c h1 h2=>?_⟩⟩
 simp only[Sl.nil,Nat.zero_add]at h1 ⊢
 refine⟨by omega,by omega,by omega,by omega,?_⟩
 refine⟨_,rfl,⟨by simp[cutSl],by simp[cutSl],.inr ⟨h.size,_,232,?_,Nat.le_refl _,by simp;rfl,?_,by simp[cutSl]⟩⟩,by simp[cutSl],Ext.push _ _⟩
 ·simp only[cutSl]
  split
  ·rfl
  ·simp[add_none]
 ·simp only[cutSl,Array.size_append,size_zeroCells,List.size_toArray,List.length_nil,Int.toNat_natCast]
  simp only[List.length_cons,List.length_nil,Int.toNat_zero]
  omega
def catE(l:List (Sl × List (Int × Int))):List (Int × Int):=(l.map (·.2)).flatten
theorem catE_snoc{l:List (Sl × List (Int × Int))}{j:Nat}(hj:j<l.length):catE (l.take (j+1))=catE (l.take j)++l[j].2:=by
 unfold catE;rw[List.take_succ_eq_append_getElem hj,List.map_append,List.flatten_append]
 simp only[List.map_cons,List.map_nil,List.flatten_cons,List.flatten_nil,List.append_nil]
theorem catE_take_le(l:List (Sl × List (Int × Int)))(j:Nat):(catE (l.take j)).length≤(catE l).length:=by
 have:catE l=catE (l.take j)++catE (l.drop j):=by
  unfold catE
  rw[← List.flatten_append,← List.map_append,List.take_append_drop]
 rw[this,List.length_append];omega
theorem eConcat_spec{h:Hp}{s:Sl}{rows:List (Sl × List (Int × Int))}(hl:rows.length=s.len)(hr:RdC h s.base (rows.map fun p=>slV p.1))(each:∀ p∈rows,Rd 2 h p.1 (e2 p.2))(hs:s.len≤1000000)(hmax:(catE rows).length≤1000000) :
 HC Tryz.prog 333 #[.slice s.base s.len s.cap] h (NewE h (catE rows)):=by
 apply wc333
 unfold vc333
 have row:∀ {h9:Hp},Ext h h9 →∀ (j:Nat) (hj:j<rows.length) {K:Sl→Prop},K rows[j].1 →∃ a:Addr,s.base=some a∧0≤(j:Int)∧(j:Int)<(s.len:Int)∧∃ c:Sl,hY h9 (a.add ((j:Int).toNat*1))=some (.slice c.base c.len c.cap)∧K c:=fun e9 j hj K hK=>
  ix1 (hr.ext e9) (by simpa using hl) j rfl (by simpa using hj) fun a _ hc=>⟨_,by simpa [slV] using hc,hK⟩
 have ln:∀ (j:Nat) (hj:j<rows.length),rows[j].1.len=rows[j].2.length∧(catE (rows.take j)).length+rows[j].2.length≤(catE rows).length:=fun j hj=>by
  have h1:=(each rows[j] (List.getElem_mem hj)).lenE
  have h2:=catE_take_le rows (j+1)
  rw[catE_snoc hj,List.length_append]at h2
  exact⟨h1,h2⟩
 refine⟨fun n i m h'=>h=h'∧∃ j:Nat,i=j∧m+j=rows.length∧n=((catE (rows.take j)).length:Int),rows.length,⟨rfl,0,rfl,rfl,rfl⟩,?_⟩
 rintro _ _ _ m _ ⟨rfl,j,rfl,hm,rfl⟩
 refine IfB.dec (fun hlt=>?_) (fun hge=>?_)
 ·have hj:j<rows.length:=by omega
  obtain⟨l1,l2⟩:=ln j hj
  refine row (.refl h) j hj ?_
  rw[iAdd64 (by omega)]
  refine IfB.dec (fun hh=>by omega) (fun _=>⟨m-1,by omega,rfl,j+1,by rw[iAdd64 (by omega)];push_cast;rfl,by omega,?_⟩)
  rw[catE_snoc hj,List.length_append,l1];push_cast;rfl
 ·obtain rfl:j=rows.length:=by omega
  rw[List.take_length]
  refine(eGrow_spec _ hmax h).mono ?_
  rintro _ h1 ⟨t,rfl,o1,t0,e1⟩
  refine⟨_,rfl,?_⟩
  refine⟨fun t i m h'=>∃ j:Nat,i=j∧m+j=rows.length∧Ext h h'∧Own h.size 2 h' t (e2 (catE (rows.take j))),rows.length,⟨0,rfl,rfl,e1,by simpa [catE,e2] using o1⟩,?_⟩
  rintro _ t2 _ m2 h2 ⟨q,rfl,hq,e2',o2⟩
  refine IfB.dec (fun hlt2=>?_) (fun hge2=>?_)
  ·have hq':q<rows.length:=by omega
   obtain⟨l1,l2⟩:=ln q hq'
   have hbl:=o2.toRd.lenE
   refine row e2' q hq' ?_
   have hR:=(each rows[q] (List.getElem_mem hq')).ext e2'
   refine AppC_own (news:=e2 rows[q].2) rfl o2 e2'.size hR.len hR.rd (e2_ok _) (by omega) (by omega) fun r h3 o3 l3 k3 _=>?_
   rw[← e2_append,← catE_snoc hq']at o3
   exact⟨m2-1,by omega,q+1,by rw[iAdd64 (by omega)];push_cast;rfl,by omega,(e2'.toKeep.trans k3).ext,o3⟩
  ·obtain rfl:q=rows.length:=by omega
   rw[List.take_length]at o2
   exact⟨t2,rfl,o2,o2.toRd.lenE,e2'⟩
theorem Row.get2i{h:Hp}{b:Nat}{x y:Int}(r:Row h b [.int .i64 x,.int .i64 y]){K:Int→Int→Prop}(hK:K x y) :
 ∃ c:Int,∃ c1:Int,hY h ⟨b,0,none⟩=some (.int .i64 c)∧hY h ((⟨b,0,none⟩:Addr).add 1)=some (.int .i64 c1)∧K c c1:=⟨x,y,r.get0 rfl,r.get rfl,hK⟩
theorem eContains_spec{f:Nat}{fc:Array Value}{h:Hp}{s:Sl}{L:List (Int × Int)}(r:Rd 2 h s (e2 L))(hmax:L.length≤1000000)(hf:∀ x y h1,Ext h h1→HC Tryz.prog f (#[.agg #[.int .i64 x,.int .i64 y]]++fc) h1 fun r h'=>Ext h1 h'∧∃ b,r=.bool b) :
 HC Tryz.prog 359 #[.slice s.base s.len s.cap,.func (.func f) #[] fc] h fun r h'=>Ext h h'∧∃ b,r=.bool b:=by
 apply wc359
 unfold vc359
 have hl:=r.lenE
 have ix:HC Tryz.prog 382 #[.slice s.base s.len s.cap,.func (.func f) #[] fc] h fun r h'=>Ext h h'∧∃ c:Int,r=.int .i64 c:=by
  apply wc382
  unfold vc382
  refine⟨fun i m h'=>∃ k:Nat,i=k∧m+k=L.length∧Ext h h',L.length,⟨0,rfl,rfl,.refl h⟩,?_⟩
  rintro _ _ m h1 ⟨k,rfl,hm,e1⟩
  refine IfB.dec (fun hlt=>?_) (fun hge=>⟨e1,_,rfl⟩)
  have hk:k<L.length:=by omega
  refine ixe (r.ext e1) k rfl hk fun a c0 c1=>⟨_,_,c0,c1,?_⟩
  refine(hf _ _ h1 e1).mono ?_
  rintro _ h2 ⟨e2',b,rfl⟩
  exact⟨b,rfl,IfB.intro (fun _=>⟨e1.trans e2',_,rfl⟩) (fun _=>⟨m-1,by omega,k+1,by rw[iAdd64 (by omega)];push_cast;rfl,by omega,e1.trans e2'⟩)⟩
 refine ix.mono ?_
 rintro _ h1 ⟨e1,c,rfl⟩
 exact⟨_,rfl,e1,_,rfl⟩
theorem may_spec(x y:Int)(h:Hp):HC Tryz.prog 361 #[.agg #[.int .i64 x,.int .i64 y]] h fun r h'=>Ext h h'∧∃ b,r=.bool b:=by
 apply wc361
 unfold vc361
 intro h1
 have e1:Ext h h1:=alc_ext _ _ _
 have r1:Row h1 h.size [.int .i64 x,.int .i64 y]:=Row.alc _ _ _
 have c0:=r1.get0 rfl
 have c1:=r1.get (i:=1) rfl
 refine⟨_,c0,IfB.intro (fun _=>⟨_,c0,IfB.intro (fun _=>⟨_,c1,IfB.intro (fun _=>⟨_,c1,IfB.intro (fun _=>⟨_,c0,_,c1,e1,_,rfl⟩) (fun _=>⟨e1,_,rfl⟩)⟩) (fun _=>⟨e1,_,rfl⟩)⟩) (fun _=>⟨e1,_,rfl⟩)⟩) (fun _=>⟨e1,_,rfl⟩)⟩
theorem all_spec{h:Hp}{s:Sl}{L:List (Int × Int)}(r:Rd 2 h s (e2 L))(hmax:L.length≤1000000):HC Tryz.prog 331 #[.slice s.base s.len s.cap] h fun r h'=>Ext h h'∧∃ b,r=.bool b:=by
 apply wc331
 unfold vc331
 refine(eContains_spec (fc:=#[]) r hmax fun x y h1 _=>?_).mono ?_
 ·show HC Tryz.prog 360 #[.agg #[.int .i64 x,.int .i64 y]] h1 _
  apply wc360
  unfold vc360
  intro h2
  have r2:Row h2 h1.size [.int .i64 x,.int .i64 y]:=Row.alc _ _ _
  refine r2.get2i ?_
  refine(may_spec _ _ _).mono ?_
  rintro _ h3 ⟨e3,b,rfl⟩
  exact⟨b,rfl,(alc_ext _ _ _).trans e3,_,rfl⟩
 ·rintro _ h1 ⟨e1,b,rfl⟩
  exact⟨b,rfl,e1,_,rfl⟩
section
variable{G:Gh}{h:Hp}{M em:Nat}{V:Prop}
theorem eGone_spec(x:ExtAt G h M em V):HC Tryz.prog 132 #[pv em] h fun r h'=>r=.bool false∧h'=h:=by
 apply wc132
 unfold vc132
 obtain⟨vm,vl,vc,la,r,_⟩:=x.map
 exact IfB.no rfl ⟨_,rfl,_,r.get0 rfl,rfl,rfl⟩
theorem eBlocks_spec(x:ExtAt G h M em V):HC Tryz.prog 227 #[pv em] h fun r h'=>r=.int .i64 258∧h'=h:=by
 apply wc227
 unfold vc227
 obtain⟨vm,vl,vc,la,r,_⟩:=x.map
 exact IfB.no rfl ⟨_,rfl,_,r.get0 rfl,rfl,rfl⟩
theorem ExtAt.ext{h':Hp}(x:ExtAt G h M em V)(e:Ext h h'):ExtAt G h' M em V:=by
 obtain⟨vm,vl,vc,la,r,k,m,w⟩:=x.map
 exact⟨x.kd,vm,vl,vc,la,r.ext e,k,by rw[e.block vm (blk_lt m)];exact m,w⟩
theorem ExtAt.to{S:Kd→Prop}{G':Gh}{h':Hp}{M':Nat}{V':Prop}(x:ExtAt G h M em V)(y:To S G h G' h')(hM:M≤M')(hV:V→V')(h4:¬ S (.one 4))(h5:¬ S (.one 5)):ExtAt G' h' M' em V':=by
 obtain⟨vm,vl,vc,la,r,k,m,w,v,n⟩:=x.map
 exact⟨y.kd x.kd (by simp),vm,vl,vc,la,y.rowK r x.kd h4,y.kd k (by simp),y.blk m (by rw[k];exact h5),w,v.mono y.le hM,fun hn=>hV (n hn)⟩
theorem eBlock_spec(x:ExtAt G h M em V)(lba:Int):HC Tryz.prog 171 #[pv em,.int .i64 lba] h fun r h'=>r=.bool (decide (0≤lba∧lba<258))∧h'=h:=by
 apply wc171
 unfold vc171
 refine IfB.dec (fun h1=>?_) (fun h1=>⟨by rw[decide_eq_false];omega,rfl⟩)
 refine(eBlocks_spec x).mono ?_
 rintro _ _ ⟨rfl,rfl⟩
 refine⟨_,rfl,?_,rfl⟩
 congr 1
 by_cases h2:lba<258 <;> simp[h1,h2]
theorem ExtAt.vers(t:HT G h)(x:ExtAt G h M em V)(lba:Int):∃ (vm:Nat) (vl:List ME) (vc:Nat) (s:Sl),hY h ((⟨em,0,none⟩:Addr).add 1)=some (.map (some vm))∧h[vm]? = some (mapO vl vc)∧(mget vl lba).getD (.slice Sl.nil.base Sl.nil.len Sl.nil.cap)=.slice s.base s.len s.cap∧SlA G (.vers lba) s∧s.len≤M:=by
 obtain⟨vm,vl,vc,la,r,k,m,w,v,n⟩:=x.map
 cases hg:mget vl lba with
 | none=>exact⟨vm,vl,vc,Sl.nil,r.get rfl,m,by rw[hg];rfl,SlA.nil _ _,Nat.zero_le _⟩
 | some u=>
   obtain⟨b,hb⟩:=mget_mem hg
   obtain⟨s,rfl,h1,h2,h3⟩:=v.each _ _ _ hb
   exact⟨vm,vl,vc,s,r.get rfl,m,by rw[hg];rfl,h1,h3⟩
theorem eAt_spec(t:HT G h)(x:ExtAt G h M em V)(hM:M≤1000000)(lba time:Int){vm:Nat}{vl:List ME}{vc:Nat}{s:Sl}(hm:hY h ((⟨em,0,none⟩:Addr).add 1)=some (.map (some vm)))(hv:h[vm]? = some (mapO vl vc))(hg:(mget vl lba).getD (.slice Sl.nil.base Sl.nil.len Sl.nil.cap)=.slice s.base s.len s.cap)(hs:SlA G (.vers lba) s)(hl:s.len≤M) :
 HC Tryz.prog 217 #[pv em,.int .i64 lba,.int .i64 time] h fun r h'=>h'=h∧(r=.int .i64 (-1) ∨∃ k:Nat,r=.int .i64 k∧k<s.len):=by
 apply wc217
 unfold vc217
 refine⟨_,rfl,_,hm,vl,vc,hv,s,hg,?_⟩
 refine⟨fun i m h'=>h=h'∧i=(m:Int)-1∧m≤s.len,s.len,⟨rfl,by rw[iSub64 (by omega)],Nat.le_refl _⟩,?_⟩
 rintro _ _ m _ ⟨rfl,rfl,hm'⟩
 refine IfB.dec (fun hge=>?_) (fun hlt=>⟨rfl,.inl (by congr 1;omega)⟩)
 refine hs.ix t (m-1) (by omega) (by omega) fun ad vs ok c0 cj=>?_
 obtain⟨tt,d,bs,rfl,_⟩:=ok
 refine⟨tt,c0 _ rfl,IfB.dec (fun _=>⟨rfl,.inr ⟨m-1,by congr 1;omega,by omega⟩⟩) (fun _=>⟨m-1,by omega,rfl,by rw[iSub64 (by omega)];omega,by omega⟩)⟩
theorem eGet_spec(t:HT G h)(x:ExtAt G h M em V)(hM:M≤1000000)(lba at_:Int):HC Tryz.prog 330 #[pv em,.int .i64 lba,.int .i64 at_] h fun r h'=>
 Ext h h'∧∃ (s:Sl) (l:List UInt8) (tt:Int),r=.tuple #[.slice s.base s.len s.cap,.int .i64 tt]∧Own h.size 1 h' s (l.map bv)∧(0≤lba∧lba<258→l.length=40∧(l=List.replicate 40 0∨G.W lba l))∧l.length≤40:=by
 apply wc330
 unfold vc330
 refine(eBlock_spec x lba).mono ?_
 rintro _ _ ⟨rfl,rfl⟩
 refine⟨_,rfl,IfB.not (IfB.dec (fun hb=>?_) (fun hb=>⟨.refl _,Sl.nil,[],0,rfl,Own.nil _ _ _,fun hh=>absurd hh hb,by simp⟩))⟩
 obtain⟨vm,vl,vc,s,hm,hv,hg,hs,hl⟩:=x.vers t lba
 refine(eAt_spec t x hM lba at_ hm hv hg hs hl).mono ?_
 rintro _ _ ⟨rfl,rfl | ⟨k,rfl,hk⟩⟩
 ·refine⟨_,rfl,IfB.dec (fun _=>?_) (fun hh=>absurd (by omega) hh)⟩
  refine MkC_own (n:=40) (by omega) (by omega) ?_
  refine⟨alc_ext _ _ _,⟨some (nw _),40,40⟩,List.replicate 40 0,0,rfl,?_,fun _=>⟨by simp,.inl rfl⟩,by simp⟩
  rw[List.map_replicate]
  exact Own.alc _ _ _ 40 1 (by simp)
 ·refine⟨_,rfl,IfB.dec (fun hh=>by omega) (fun _=>?_)⟩
  refine⟨_,rfl,_,hm,vl,vc,hv,s,hg,?_⟩
  refine hs.ix t k rfl hk fun ad vs ok c0 cj=>?_
  obtain⟨tt,d,bs,rfl,sb,b40,w⟩:=ok
  refine⟨tt,d,c0 _ rfl,cj 1 _ rfl,?_⟩
  intro h3
  refine loc2 rfl rfl fun h4 e4 r4=>?_
  refine⟨d,r4.get rfl,tt,r4.get0 rfl,?_⟩
  refine(slClone_spec ((sb.rd t).ext e4) (by omega)).mono ?_
  rintro _ h5 ⟨u,rfl,o5,l5,e5⟩
  exact⟨u,rfl,e5,e4.trans e5,u,bs,tt,rfl,o5.weak e4.size,fun _=>⟨b40,.inr w⟩,by omega⟩
theorem eWithin_spec(x:ExtAt G h M em V)(a b:Int):HC Tryz.prog 329 #[pv em,.agg #[.int .i64 a,.int .i64 b]] h fun r h'=>Ext h h'∧∃ c,r=.bool c∧(c=true→0≤a∧1≤b∧a≤258-b∧b≤258):=by
 apply wc329
 unfold vc329
 intro h1
 have e1:Ext h h1:=alc_ext _ _ _
 have r1:Row h1 h.size [.int .i64 a,.int .i64 b]:=Row.alc _ _ _
 have x1:=x.ext e1
 refine⟨_,r1.get0 rfl,IfB.dec (fun ha=>⟨_,r1.get rfl,IfB.dec (fun hb=>⟨_,r1.get rfl,(eBlocks_spec x1).mono ?_⟩) (fun _=>⟨e1,_,rfl,fun h=>by cases h⟩)⟩) (fun _=>⟨e1,_,rfl,fun h=>by cases h⟩)⟩
 rintro _ _ ⟨rfl,rfl⟩
 refine⟨_,rfl,.refl _,IfB.dec (fun hc=>⟨_,r1.get0 rfl,_,r1.get rfl,(eBlocks_spec x1).mono ?_⟩) (fun _=>⟨e1,_,rfl,fun h=>by cases h⟩)⟩
 rintro _ _ ⟨rfl,rfl⟩
 refine⟨_,rfl,.refl _,e1,_,rfl,fun h=>?_⟩
 have:=of_decide_eq_true h
 rw[iSub64 (by omega)]at this
 exact⟨by omega,by omega,by omega,by omega⟩
theorem eRange_spec(t:HT G h)(x:ExtAt G h M em V)(hM:M≤1000000)(a b at_:Int)(hb:b≤16):HC Tryz.prog 284 #[pv em,.agg #[.int .i64 a,.int .i64 b],.int .i64 at_] h fun r h'=>
 Ext h h'∧((∃ s:Sl,r=.tuple #[.slice s.base s.len s.cap,.int .i64 2])∨(0≤a∧1≤b∧a≤258-b)∧∃ (s:Sl) (l:List UInt8),r=.tuple #[.slice s.base s.len s.cap,.int .i64 0]∧Own h.size 1 h' s (l.map bv)∧l.length=40*b.toNat∧∀ j,j<b.toNat→((l.drop (40*j)).take 40=List.replicate 40 0∨G.W (a+j) ((l.drop (40*j)).take 40))):=by
 apply wc284
 unfold vc284
 intro h1
 have e1:Ext h h1:=alc_ext _ _ _
 have r1:Row h1 h.size [.int .i64 a,.int .i64 b]:=Row.alc _ _ _
 have x1:=x.ext e1
 refine r1.get2i ?_
 refine(eWithin_spec x1 a b).mono ?_
 rintro _ h2 ⟨e2,c,rfl,hc⟩
 refine⟨c,rfl,IfB.not (IfB.intro (fun hct=>?_) (fun _=>⟨e1.trans e2,.inl ⟨Sl.nil,rfl⟩⟩))⟩
 obtain⟨ha,hb1,hab,_⟩:=hc hct
 have r2:=r1.ext e2
 refine⟨_,r2.get rfl,?_⟩
 refine⟨fun out i m h'=>∃ (j:Nat) (l:List UInt8),i=j∧m+j=b.toNat∧Ext h2 h'∧Own h2.size 1 h' out (l.map bv)∧l.length=40*j∧∀ q,q<j→((l.drop (40*q)).take 40=List.replicate 40 0∨G.W (a+q) ((l.drop (40*q)).take 40)),b.toNat,⟨0,[],rfl,rfl,.refl _,Own.nil _ _ _,rfl,fun q h=>by omega⟩,?_⟩
 rintro _ out _ m h3 ⟨j,l,rfl,hm,e3,o3,hl,hq⟩
 have hol:out.len=l.length:=by have:=o3.len;simpa using this.symm
 refine IfB.dec (fun hlt=>?_) (fun hge=>⟨(e1.trans e2).trans e3,.inr ⟨⟨ha,hb1,hab⟩,out,l,rfl,o3.weak (e1.trans e2).size,by omega,fun q hq'=>hq q (by omega)⟩⟩)
 have r3:=r2.ext e3
 refine⟨_,r3.get0 rfl,?_⟩
 have e13:=(e1.trans e2).trans e3
 rw[iAdd64 (by omega)]
 refine(eGet_spec (t.ext e13) (x.ext e13) hM _ _).mono ?_
 rintro _ h4 ⟨e4,s4,l4,tt,rfl,o4,h4a,h4b⟩
 obtain⟨h40,hw⟩:=h4a ⟨by omega,by omega⟩
 refine⟨s4,tt,rfl,?_⟩
 have l4':s4.len=40:=by have:=o4.len;simp at this;omega
 refine AppC_own (news:=l4.map bv) rfl (o3.ext e4) (by have:=e3.size;have:=e4.size;omega) (by simp;omega) o4.rd (cellOk_bv l4) (by omega) (by omega) fun r h5 o5 l5 k5 x5=>⟨m-1,by omega,j+1,l++l4,by rw[iAdd64 (by omega)];push_cast;rfl,by omega,?_,by rw[List.map_append];exact o5,by simp;omega,fun q hq'=>?_⟩
 ·exact((e3.trans e4).toKeep.trans k5).ext
 ·by_cases e:q<j
  ·have:=hq q e
   rw[List.drop_append_of_le_length (by omega),List.take_append_of_le_length (by rw[List.length_drop];omega)]
   exact this
  ·obtain rfl:q=j:=by omega
   rw[← hl,List.drop_append_of_le_length (Nat.le_refl _),List.drop_length,List.nil_append,List.take_of_length_le (by omega)]
   exact hw
end
def leftN(l:List ME)(seen:Array Nat):Nat:=(l.filter fun e=>!(seen.toList.contains e.2.2)).length
theorem leftN_push{l:List ME}{seen:Array Nat}{n:Int}{v:Value}{b:Nat}(h:(n,v,b)∈l)(hb:b ∉ seen):leftN l (seen.push b)<leftN l seen:=by
 unfold leftN
 have e:(l.filter fun e=>!((seen.push b).toList.contains e.2.2))=(l.filter fun e=>!(seen.toList.contains e.2.2)).filter fun e=>!(e.2.2 == b):=by
  rw[List.filter_filter]
  congr 1
  funext e
  simp[Array.toList_push]
  by_cases h1:e.2.2∈seen.toList <;> by_cases h2:e.2.2=b <;> simp[h2]
 rw[e]
 refine List.length_filter_lt_length_iff_exists.2 ⟨(n,v,b),?_,by simp⟩
 rw[List.mem_filter]
 exact⟨h,by simp;exact hb⟩
structure Iter(h2:Hp)(it m c:Nat)(seen:Array Nat)(h':Hp):Prop where
 size:h2.size≤h'.size
 same:∀ b,b<h2.size→b≠it→h'[b]? = h2[b]?
 at_:h'[it]? = some (.mapIter (some m) c seen c)
theorem Iter.start(h:Hp)(m c:Nat):Iter (h.push (.mapIter (some m) c #[] c)) h.size m c #[] (h.push (.mapIter (some m) c #[] c)):=⟨Nat.le_refl _,fun _ _ _=>rfl,by simp⟩
theorem Iter.next{h2:Hp}{it m c:Nat}{seen:Array Nat}{h':Hp}(x:Iter h2 it m c seen h')(b:Nat):Iter h2 it m c (seen.push b) (h'.setIfInBounds it (.mapIter (some m) c (seen.push b) c)):=
 ⟨by simpa using x.size,fun k hk hne=>by rw[Array.getElem?_setIfInBounds_ne (Ne.symm hne)];exact x.same k hk hne,by
  have:=blk_lt x.at_
  rw[Array.getElem?_setIfInBounds_self_of_lt this]⟩
theorem Iter.ext{h h2:Hp}{it m c:Nat}{seen:Array Nat}{h':Hp}(x:Iter h2 it m c seen h')(e:Ext h h2)(hit:h.size≤it):Ext h h':=⟨Nat.le_trans e.size x.size,fun b hb=>by rw[x.same b (Nat.lt_of_lt_of_le hb e.size) (by omega),e.block b hb]⟩
theorem eWritten_spec{G:Gh}{h:Hp}{M em:Nat}{V:Prop}(t:HT G h)(x:ExtAt G h M em V)(a b after:Int)(hM:M≤1000000):HC Tryz.prog 368 #[pv em,.agg #[.int .i64 a,.int .i64 b],.int .i64 after] h fun r h'=>
 Ext h h'∧∃ c,r=.bool c∧((∀ vm vl vc,hY h ((⟨em,0,none⟩:Addr).add 1)=some (.map (some vm))→h[vm]? = some (mapO vl vc)→vl = [])→c=false):=by
 apply wc368
 unfold vc368
 intro h1
 have e1:Ext h h1:=alc_ext _ _ _
 have r1:Row h1 h.size [.int .i64 a,.int .i64 b]:=Row.alc _ _ _
 have x1:=x.ext e1
 refine(eGone_spec x1).mono ?_
 rintro _ _ ⟨rfl,rfl⟩
 have no:Ext h h1∧∃ c,Value.bool false=.bool c∧((∀ vm vl vc,hY h ((⟨em,0,none⟩:Addr).add 1)=some (.map (some vm))→h[vm]? = some (mapO vl vc)→vl = [])→c=false):=⟨e1,_,rfl,fun _=>rfl⟩
 refine⟨_,rfl,.ff ⟨_,r1.get0 rfl,IfB.dec (fun _=>no) fun _=>⟨_,r1.get0 rfl,IfB.dec (fun _=>no) fun _=>⟨_,r1.get rfl,IfB.dec (fun _=>no) fun _=>⟨_,r1.get rfl,_,r1.get0 rfl,IfB.dec (fun _=>no) fun _=>⟨_,r1.get rfl,IfB.dec (fun _=>no) fun _=>?_⟩⟩⟩⟩⟩⟩
 obtain⟨vm,vl,vc,la,r,kd,em',w,vmk,_⟩:=x.map
 have emx:h1[vm]? = some (mapO vl vc):=(e1.block vm (blk_lt em')).trans em'
 refine⟨_,rfl,_,(r.ext e1).get rfl,vm,vl,vc,rfl,emx,?_⟩
 have e2:Ext h1 (h1.push (.mapIter (some vm) vc #[] vc)):=Ext.push _ _
 refine⟨fun m h'=>∃ seen,m=leftN vl seen∧Iter (h1.push (.mapIter (some vm) vc #[] vc)) h1.size vm vc seen h',leftN vl #[],⟨#[],rfl,Iter.start _ _ _⟩,?_⟩
 rintro _ m h3 ⟨seen,rfl,I⟩
 have e3:Ext h1 h3:=I.ext e2 (Nat.le_refl _)
 have m3:h3[vm]? = some (mapO vl vc):=(e3.block vm (blk_lt emx)).trans emx
 refine⟨h1.size,vm,vc,seen,vl,rfl,I.at_,m3,w.lt,fun _=>.ff ⟨e1.trans e3,_,rfl,fun _=>rfl⟩,fun n v bo hin hnb=>?_⟩
 have I4:=I.next bo
 have e4:Ext h1 _:=I4.ext e2 (Nat.le_refl _)
 have hlt:=leftN_push hin hnb
 refine .tt ⟨h1.size,vm,vc,vc,seen.push bo,vl,n,v,bo,rfl,I4.at_,by simp,(e4.block vm (blk_lt emx)).trans emx,hin,w.born hin,?_⟩
 obtain⟨s,rfl,sa,l1,l2⟩:=vmk.each _ _ _ hin
 have again:∃ n2,n2<leftN vl seen∧∃ seen',n2=leftN vl seen'∧Iter (h1.push (.mapIter (some vm) vc #[] vc)) h1.size vm vc seen' (Array.setIfInBounds h3 h1.size (.mapIter (some vm) vc (seen.push bo) vc)):=⟨_,hlt,_,rfl,I4⟩
 have r4:=r1.ext e4
 refine⟨s,rfl,_,r4.get0 rfl,IfB.dec (fun _=>⟨_,r4.get0 rfl,_,r4.get rfl,IfB.dec (fun _=>?_) (fun _=>again)⟩) (fun _=>again)⟩
 rw[iSub64 (by omega)]
 refine sa.ix (t.ext (e1.trans e4)) (s.len-1) (by omega) (by omega) fun ad vs ok c0 cj=>?_
 obtain⟨tt,d,bs,rfl,_⟩:=ok
 refine⟨tt,c0 _ rfl,IfB.dec (fun _=>⟨e1.trans e4,true,rfl,fun hno=>?_⟩) (fun _=>again)⟩
 have:=hno vm vl vc (r.get rfl) em'
 subst this;simp at hin
theorem eDump_spec{G:Gh}{h:Hp}{M em:Nat}{V:Prop}(t:HT G h)(x:ExtAt G h M em V)(hM:M≤1000000):HC Tryz.prog 83 #[pv em] h fun r h'=>
 ∃ (s:Sl) (P:List PutD) (G':Gh),r=.slice s.base s.len s.cap∧To (fun _=>False) G h G' h'∧SlP G' s P∧G'.W=G.W∧PutsOk P∧(∀ p∈P,G.W p.1 p.2)∧P.length≤258∧(P ≠ []→V)∧
 ((∀ vm vl vc,hY h ((⟨em,0,none⟩:Addr).add 1)=some (.map (some vm))→h[vm]? = some (mapO vl vc)→vl = [])→P = []):=by
 apply wc83
 unfold vc83
 refine(eGone_spec x).mono ?_
 rintro _ _ ⟨rfl,rfl⟩
 obtain⟨vm,vl,vc,la,r,kd,emx,w,vmk,hV⟩:=x.map
 have hl258:vl.length≤258:=by
  have:=nodup_lt (n:=258) w.keys vmk.keys
  simpa [kS] using this
 refine⟨_,rfl,.ff ⟨_,rfl,_,r.get rfl,?_⟩⟩
 refine sortedV emx w (fun k hk=>by have:=vmk.keys k hk;omega) (by omega) fun s ks h1 o1 p mm n q e1=>?_
 have t1:=t.ext e1
 refine⟨fun out i m h'=>∃ (j:Nat) (G':Gh) (L:List ((Int × Sl) × List UInt8)),i=j∧m+j=ks.length∧To (fun _=>False) G h1 G' h'∧OwnN h1.size 2 G' h' out (c2 (L.map (·.1)))∧(∀ x∈L,SlB G' x.1.2 x.2)∧L.map (·.1.1)=ks.take j∧(∀ x∈L,x.2.length=40∧G.W x.1.1 x.2)∧G'.W=G.W,
  ks.length,⟨0,G,[],rfl,rfl,.refl t1,OwnN.nil _ _ _ _,fun x hx=>by simp at hx,rfl,fun x hx=>by simp at hx,rfl⟩,?_⟩
 rintro _ out _ m h2 ⟨j,G2,L,rfl,hm,y2,o2,ok2,hL,hw,hW⟩
 have hLl:L.length=j:=by have:=congrArg List.length hL;rw[List.length_map,List.length_take]at this;omega
 have hol:=o2.own.len
 rw[c2_length,List.length_map]at hol
 refine IfB.dec (fun hlt=>?_) (fun hge=>?_)
 ·have hj:j<ks.length:=by omega
  have e2:=y2.toExt
  obtain⟨e,he,hk⟩:=List.mem_map.1 ((mm ks[j]).1 (List.getElem_mem hj))
  obtain⟨k,v,b⟩:=e
  simp only at hk
  obtain⟨sv,rfl,sa,l1,l2⟩:=vmk.each _ _ _ he
  have hg:=w.get he
  refine ix1 (o1.rd.ext e2) (by simpa using q.symm) j rfl (by simpa using hj) fun a _ hc=>⟨ks[j],by simpa using hc,_,rfl,_,((r.ext e1).ext e2).get rfl,vl,vc,?_,sv,by rw[← hk,hg];rfl,?_⟩
  ·exact(e2.block vm (Nat.lt_of_lt_of_le (blk_lt emx) e1.size)).trans ((e1.block vm (blk_lt emx)).trans emx)
  ·rw[iSub64 (by omega)]
   refine(sa.mono y2.le).ix y2.ht (sv.len-1) (by omega) (by omega) fun ad vs ok c0 cj=>?_
   obtain⟨tt,d,bs,rfl,sb,b40,wb⟩:=ok
   refine⟨d,cj 1 _ rfl,(cloneB y2.ht sb (by omega)).mono ?_⟩
   rintro _ h3 ⟨u,G3,rfl,y3,b3,W3⟩
   refine⟨u,rfl,?_⟩
   refine OwnN.push (l:=c2 (L.map (·.1))) (y2.trans y3) rfl (o2.to y3) rfl (by simp[cellOk]) (by omega) (by omega) fun r' h5 y5 o5 l5 _ _=>⟨m-1,by omega,j+1,G3,L ++ [((ks[j],u),bs)],by rw[iAdd64 (by omega)];push_cast;rfl,by omega,y5,?_,?_,?_,?_,W3.trans hW⟩
   ·rw[List.map_append,c2_append];exact o5
   ·intro z hz
    rcases List.mem_append.1 hz with hz | hz
    ·exact(ok2 z hz).mono y3.le
    ·simp only[List.mem_cons,List.not_mem_nil,or_false]at hz;subst hz;exact b3
   ·rw[List.map_append,hL,List.take_succ_eq_append_getElem hj];rfl
   ·intro z hz
    rcases List.mem_append.1 hz with hz | hz
    ·exact hw z hz
    ·simp only[List.mem_cons,List.not_mem_nil,or_false]at hz;subst hz
     exact⟨b40,by rw[← hk,← hW];exact wb⟩
 ·obtain rfl:j=ks.length:=by omega
  rw[List.take_length]at hL
  obtain⟨G3,y3,p3,W3⟩:=OwnN.puts y2 o2 ok2
  have hkk:(L.map fun x=>(x.1.1,x.2)).map (·.1)=ks:=by rw[List.map_map,← hL];rfl
  refine⟨out,_,G3,rfl,(e1.to t).trans y3,p3,W3.trans hW,⟨by rw[hkk];exact p,fun z hz=>?_⟩,fun z hz=>?_,by rw[List.length_map];omega,fun hne=>hV fun e0=>?_,fun hno=>?_⟩
  ·obtain⟨x,hx,rfl⟩:=List.mem_map.1 hz
   have hin:x.1.1∈ks:=by rw[← hL];exact List.mem_map.2 ⟨x,hx,rfl⟩
   have:=vmk.keys _ ((mm _).1 hin)
   exact⟨this.1,this.2,(hw x hx).1⟩
  ·obtain⟨x,hx,rfl⟩:=List.mem_map.1 hz
   exact(hw x hx).2
  ·subst e0
   rw[List.length_nil]at n
   exact hne (List.eq_nil_of_length_eq_zero (by rw[List.length_map];omega))
  ·have:=hno vm vl vc (r.get rfl) emx
   subst this
   rw[List.length_nil]at n
   exact List.eq_nil_of_length_eq_zero (by rw[List.length_map];omega)
theorem rise_spec{B:Nat→Prop}{h:Hp}{s:Sl}{P:List PutD}(p:PutsR B h s P)(hP:P.length≤1000000):HC Tryz.prog 170 #[.slice s.base s.len s.cap] h fun r h'=>h'=h∧∃ b,r=.bool b∧(b=true→P ≠ [])∧(P ≠ []∧(P.map (·.1)).Pairwise (· < ·)→b=true):=by
 apply wc170
 unfold vc170
 have hl:=p.len
 refine⟨fun i m h'=>h=h'∧∃ k:Nat,i=(k:Int)+1∧m+k=P.length,P.length,⟨rfl,0,rfl,rfl⟩,?_⟩
 rintro _ _ m _ ⟨rfl,k,rfl,hm⟩
 refine IfB.dec (fun hlt=>?_) (fun hge=>⟨rfl,_,rfl,fun hb e=>?_,fun⟨hne,_⟩=>?_⟩)
 ·have hk:k+1<P.length:=by omega
  refine p.ix (k+1) (by push_cast;rfl) hk fun a d c0 c1 _ _=>⟨P[k+1].1,c0,?_⟩
  refine p.ix k (by rw[iSub64 (by omega)];omega) (by omega) fun a' d' c0' c1' _ _=>⟨P[k].1,c0',?_⟩
  refine IfB.dec (fun hle=>⟨rfl,_,rfl,fun hh=>(by cases hh),fun⟨_,hp⟩=>?_⟩) (fun _=>⟨m-1,by omega,rfl,k+1,by rw[iAdd64 (by omega)];push_cast;rfl,by omega⟩)
  rw[List.pairwise_map]at hp
  have:=List.pairwise_iff_getElem.1 hp k (k+1) (by omega) hk (by omega)
  omega
 ·subst e
  have:=of_decide_eq_true hb
  simp at hl;omega
 ·rw[decide_eq_true_eq]
  have:0<P.length:=List.length_pos_iff.2 hne
  omega
theorem pContains_spec{B:Nat→Prop}{f:Nat}{fc:Array Value}{h:Hp}{s:Sl}{P:List PutD}{p:PutD→Prop}(r:PutsR B h s P)(hmax:P.length≤1000000)
 (hf:∀ x∈P,∀ (d:Sl) h1,Ext h h1→d.len=x.2.length→HC Tryz.prog f (#[.agg #[.int .i64 x.1,.slice d.base d.len d.cap]]++fc) h1 fun r h'=>Ext h1 h'∧∃ b,r=.bool b∧(b=true↔p x)) :
 HC Tryz.prog 172 #[.slice s.base s.len s.cap,.func (.func f) #[] fc] h fun r h'=>Ext h h'∧∃ b,r=.bool b∧(b=true ↔∃ x∈P,p x):=by
 apply wc172
 unfold vc172
 have hl:=r.len
 have ix:HC Tryz.prog 228 #[.slice s.base s.len s.cap,.func (.func f) #[] fc] h fun r h'=>Ext h h'∧∃ c:Int,r=.int .i64 c∧(c ≥ 0 ↔∃ x∈P,p x):=by
  apply wc228
  unfold vc228
  refine⟨fun i m h'=>∃ k:Nat,i=k∧m+k=P.length∧Ext h h'∧∀ j (hj:j<P.length),j<k →¬ p P[j],P.length,⟨0,rfl,rfl,.refl h,fun _ _ h=>by omega⟩,?_⟩
  rintro _ _ m h1 ⟨k,rfl,hm,e1,hno⟩
  refine IfB.dec (fun hlt=>?_) (fun hge=>⟨e1,_,rfl,fun h=>by omega,fun⟨x,hx,hp⟩=>?_⟩)
  ·have hk:k<P.length:=by omega
   refine(r.ext e1).ix k rfl hk fun a d c0 c1 rd _=>⟨_,d,c0,c1,?_⟩
   refine(hf P[k] (List.getElem_mem hk) d h1 e1 (by have:=rd.lenB;omega)).mono ?_
   rintro _ h2 ⟨e2',b,rfl,hb⟩
   exact⟨b,rfl,IfB.intro (fun hbt=>⟨e1.trans e2',_,rfl,fun _=>⟨_,List.getElem_mem hk,hb.1 hbt⟩,fun _=>by omega⟩) (fun hbf=>⟨m-1,by omega,k+1,by rw[iAdd64 (by omega)];push_cast;rfl,by omega,e1.trans e2',fun j hj hjk=>by
    by_cases e:j=k
    ·subst e;intro hp;rw[hb.2 hp]at hbf;cases hbf
    ·exact hno j hj (by omega)⟩)⟩
  ·obtain⟨j,hj,rfl⟩:=List.mem_iff_getElem.1 hx
   exact absurd hp (hno j hj (by omega))
 refine ix.mono ?_
 rintro _ h1 ⟨e1,c,rfl,hc⟩
 exact⟨_,rfl,e1,_,rfl,by rw[← hc];simp⟩
theorem len40_spec{f:Nat}(hf:f=173∨f=288)(x:Int){n:Nat}(d:Sl)(hd:d.len=n)(h:Hp):HC Tryz.prog f #[.agg #[.int .i64 x,.slice d.base d.len d.cap]] h fun r h'=>Ext h h'∧∃ b,r=.bool b∧(b=true↔n≠40):=by
 rcases hf with rfl | rfl
 ·apply wc173
  unfold vc173
  intro h1
  have r1:Row h1 h.size [.int .i64 x,.slice d.base d.len d.cap]:=Row.alc _ _ _
  exact⟨d,r1.get rfl,alc_ext _ _ _,_,rfl,by simp;omega⟩
 ·apply wc288
  unfold vc288
  intro h1
  have r1:Row h1 h.size [.int .i64 x,.slice d.base d.len d.cap]:=Row.alc _ _ _
  exact⟨d,r1.get rfl,alc_ext _ _ _,_,rfl,by simp;omega⟩
def sVers:Kd→Prop
 | .arr (.vers _) _=>True
 | _=>False
def sExt:Kd→Prop
 | .one n=>n=4∨n=5
 | .arr (.vers _) _=>True
 | _=>False
theorem sVers_ext:∀ k,sVers k→sExt k
 | .arr (.vers _) _,_=>trivial
theorem mapO_inj{l l':List ME}{c c':Nat}(h:mapO l c=mapO l' c'):l=l'∧c=c':=by
 simp only[mapO,Obj.map.injEq]at h
 refine⟨?_,h.2⟩
 have h1:l.map meOf=l'.map meOf:=by simpa using congrArg Array.toList h.1
 refine(List.map_inj_right fun a b hab=>?_).1 h1
 obtain⟨a1,a2,a3⟩:=a
 obtain⟨b1,b2,b3⟩:=b
 simp[meOf]at hab
 obtain⟨q1,q2,q3⟩:=hab
 rw[q1,q2,q3]
theorem eApply_spec{G:Gh}{h:Hp}{M em:Nat}{V:Prop}{s:Sl}{P:List PutD}(t:HT G h)(x:ExtAt G h M em V)(time la:Int)(hla:hY h ((⟨em,0,none⟩:Addr).add 2)=some (.int .i64 la))(p:PutsR (Stab G h) h s P)(ok:PutsOk P)(hP:P.length≤1000)(hM:M+P.length≤1000000)(hW:∀ q∈P,G.W q.1 q.2) :
 HC Tryz.prog 116 #[pv em,.agg #[.int .i64 time,.slice s.base s.len s.cap]] h fun r h'=>∃ (G':Gh) (c:Int),r=.int .i64 c∧To sExt G h G' h'∧ExtAt G' h' (M+P.length) em True∧G'.W=G.W∧(P ≠ []∧la<time∧time≤1099511627776→c=0):=by
 apply wc116
 unfold vc116
 intro h1
 have e1:Ext h h1:=alc_ext _ _ _
 have r1:Row h1 h.size [.int .i64 time,.slice s.base s.len s.cap]:=Row.alc _ _ _
 have x1:=x.ext e1
 have early:∀ {h':Hp} {c:Int},Ext h h'→((P ≠ []∧la<time∧time≤1099511627776)→c=0) →∃ (G':Gh) (c':Int),Value.int .i64 c=.int .i64 c'∧To sExt G h G' h'∧ExtAt G' h' (M+P.length) em True∧G'.W=G.W∧(P ≠ []∧la<time∧time≤1099511627776→c'=0):=fun {h' c} e hc=>
  ⟨G,c,rfl,e.to t,(x.ext e).to (To.refl (t.ext e) (S:=fun _=>False)) (by omega) (fun _=>trivial) id id,rfl,hc⟩
 have hlen:=p.len
 refine(eGone_spec x1).mono ?_
 rintro _ _ ⟨rfl,rfl⟩
 refine⟨_,rfl,.ff ⟨_,r1.get0 rfl,_,rfl,la,e1.cell hla,IfB.dec (fun hle=>early e1 fun⟨_,h,_⟩=>by omega) fun hgt=>⟨_,r1.get0 rfl,IfB.dec (fun hle=>early e1 fun⟨_,_,h⟩=>by omega) fun hle=>⟨s,r1.get rfl,?_⟩⟩⟩⟩
 refine(rise_spec (p.ext e1) (by omega)).mono ?_
 rintro _ _ ⟨rfl,c,rfl,hc1,hc2⟩
 refine⟨c,rfl,IfB.not (IfB.intro (fun hct=>?_) (fun hcf=>early e1 fun⟨hne,_⟩=>by rw[hc2 ⟨hne,ok.1⟩]at hcf;cases hcf))⟩
 have hne:=hc1 hct
 have hpos:0<P.length:=List.length_pos_iff.2 hne
 refine⟨s,r1.get rfl,(p.ext e1).ix 0 rfl hpos fun a d c0 _ _ _=>⟨_,c0,(eBlock_spec x1 _).mono ?_⟩⟩
 rintro _ _ ⟨rfl,rfl⟩
 have ok0:=ok.2 _ (List.getElem_mem hpos)
 refine⟨_,rfl,IfB.not (IfB.dec (fun _=>⟨s,r1.get rfl,s,r1.get rfl,?_⟩) (fun hh=>absurd ⟨ok0.1,ok0.2.1⟩ hh))⟩
 refine(p.ext e1).ix (P.length-1) (by rw[iSub64 (by omega)];omega) (by omega) fun a' d' c0' _ _ _=>⟨_,c0',(eBlock_spec x1 _).mono ?_⟩
 rintro _ _ ⟨rfl,rfl⟩
 have okl:=ok.2 _ (List.getElem_mem (show P.length-1<P.length by omega))
 refine⟨_,rfl,IfB.not (IfB.dec (fun _=>⟨s,r1.get rfl,?_⟩) (fun hh=>absurd ⟨okl.1,okl.2.1⟩ hh))⟩
 refine(pContains_spec (fc:=#[]) (p:=fun q=>q.2.length≠40) (p.ext e1) (by omega) fun q _ d h' _ hd=>len40_spec (.inl rfl) _ d hd _).mono ?_
 rintro _ h5 ⟨e5,b,rfl,hb⟩
 have hbf:b=false:=by
  cases b
  ·rfl
  ·obtain⟨q,hq,hq2⟩:=hb.1 rfl
   exact absurd (ok.2 q hq).2.2 hq2
 subst hbf
 have e15:=e1.trans e5
 have r5:=r1.ext e5
 refine⟨_,rfl,.ff ⟨s,r5.get rfl,?_⟩⟩
 have t5:=t.ext e15
 have p5:=(p.ext e15).mono (B':=Stab G h5) fun b hb=>⟨Nat.lt_of_lt_of_le hb.1 e15.size,hb.2⟩
 refine⟨fun i m h'=>∃ (j:Nat) (G':Gh),i=j∧m+j=P.length∧To sExt G h5 G' h'∧ExtAt G' h' (M+j) em True∧G'.W=G.W,P.length,⟨0,G,rfl,rfl,.refl t5,(x.ext e15).to (To.refl t5 (S:=fun _=>False)) (by omega) (fun _=>trivial) id id,rfl⟩,?_⟩
 rintro _ _ m h6 ⟨j,G6,rfl,hm,y6,x6,hW6⟩
 have r6:=y6.row r5 (by rw[t.fresh (b:=h.size) (Nat.le_refl _)];exact id)
 refine IfB.dec (fun hlt=>?_) (fun hge=>?_)
 ·have hj:j<P.length:=by omega
  have p6:=p5.to y6
  have okj:=ok.2 _ (List.getElem_mem hj)
  refine p6.ix j rfl hj fun a3 d3 c0 c1 rd hB=>⟨_,d3,c0,c1,?_⟩
  intro h7
  refine loc2 rfl rfl fun h8 e8 r8=>?_
  have t8:=y6.ht.ext e8
  have y8:=y6.ext e8
  obtain⟨vm,vl,vc,la',r,kd,emx,w,vmk,_⟩:=(x6.ext e8).map
  have k8:G6.k h6.size=.any:=y6.ht.fresh (Nat.le_refl _)
  have kh:G6.k h.size=.any:=by rw[y6.old _ (Nat.lt_of_lt_of_le r1.lt e5.size)];exact t.fresh (Nat.le_refl _)
  refine⟨filt (kf G6 sVers) h8,sub_kf _ _ _,?_⟩
  have rR:=r.filt (P:=kf G6 sVers) (kf_yes (by rw[x6.kd];exact id))
  have r8R:=r8.filt (P:=kf G6 sVers) (kf_yes (by rw[k8];exact id))
  have r6R:=(r6.ext e8).filt (P:=kf G6 sVers) (kf_yes (by rw[kh];exact id))
  have emR:(filt (kf G6 sVers) h8)[vm]? = some (mapO vl vc):=(filt_at (kf_yes (by rw[kd];exact id))).trans emx
  obtain⟨vm',vl',vc',sv,hm',hv',hg',hs',hl'⟩:=(x6.ext e8).vers t8 P[j].1
  obtain rfl:vm'=vm:=by
   have:=r.get (i:=1) rfl
   rw[this]at hm';simpa using hm'.symm
  obtain⟨rfl,rfl⟩:vl'=vl∧vc'=vc:=by
   rw[emx]at hv'
   have:=mapO_inj (Option.some.inj hv')
   exact⟨this.1.symm,this.2.symm⟩
  refine⟨_,rfl,_,rR.get rfl,_,r8R.get0 rfl,_,rfl,_,rR.get rfl,_,r8R.get0 rfl,vl',vc',emR,sv,hg',time,r6R.get0 rfl,d3,r8R.get rfl,?_⟩
  refine(cloneR t8 (rd.ext e8) (by omega)).mono ?_
  rintro _ h9 ⟨u,G9,rfl,y9,b9,W9⟩
  refine⟨u,rfl,y9.sub.kf,?_⟩
  intro h10
  have y10:To (fun _=>False) G6 h8 G9 h10:=y9.ext (alc_ext _ _ _)
  refine⟨y10.sub.kf,?_⟩
  refine AppC_arr1 (S:=sVers) (a := .vers P[j].1) y9.ht rfl (hs'.mono y9.le) (news:=[.int .i64 time,.slice u.base u.len u.cap]) ⟨time,u,P[j].2,rfl,b9,okj.2.2,by rw[W9,hW6];exact hW _ (List.getElem_mem hj)⟩ (by omega) (by omega) (fun _=>trivial) fun r' h11 G11 y11 s11 l11 W11=>?_
  have y811:To sVers G6 h8 G11 h11:=y9.sub.trans y11
  refine⟨y811.kf,vm',vl',vc',rfl,y811.blk emx (by rw[kd];exact id),?_⟩
  have x11:=(x6.ext e8).to (y811.mono sVers_ext) (M':=M+j) (Nat.le_refl _) (V':=True) id
  have em11:h11[vm']? = some (mapO vl' vc'):=y811.blk emx (by rw[kd];exact id)
  have kd11:=y811.kd kd (by simp)
  have y12:To sExt G11 h11 G11 (h11.setIfInBounds vm' (mput vl' P[j].1 (.slice r'.base r'.len r'.cap) vc')):=
   y811.ht.toOther (b:=vm') (by rw[kd11];exact⟨trivial,.inr rfl⟩) (by rw[kd11];exact id) (by simp) fun k hk hne=>Array.getElem?_setIfInBounds_ne (Ne.symm hne)
  refine⟨m-1,by omega,j+1,G11,by rw[iAdd64 (by omega)];push_cast;rfl,by omega,(y8.trans (y811.mono sVers_ext)).trans y12,?_,W11.trans (W9.trans hW6)⟩
  have r12:Row (h11.setIfInBounds vm' (mput vl' P[j].1 (.slice r'.base r'.len r'.cap) vc')) em [.int .i64 258,.map (some vm'),.int .i64 la']:=(y811.rowK r x6.kd id).eq (Array.getElem?_setIfInBounds_ne (fun e=>by subst e;rw[x6.kd]at kd;cases kd))
  refine⟨y811.kd x6.kd (by simp),vm',_,_,la',r12,kd11,?_,w.put _ _,((vmk.mono y811.le (M':=M+(j+1)) (by omega)).put ⟨okj.1,okj.2.1⟩ s11 (by omega) (by omega)),fun _=>trivial⟩
  rw[Array.getElem?_setIfInBounds_self_of_lt (blk_lt em11),mput_eq]
 ·obtain rfl:j=P.length:=by omega
  obtain⟨vm,vl,vc,la',r,kd,emx,w,vmk,_⟩:=x6.map
  refine⟨_,r6.get0 rfl,_,rfl,?_⟩
  obtain⟨st,rs,os,sz⟩:=r.set (i:=2) (by simp) (.int .i64 time)
  refine⟨st,?_⟩
  have y13:To sExt G6 h6 G6 (hset h6 ((⟨em,0,none⟩:Addr).add 2) (.int .i64 time)):=y6.ht.toOther (b:=em) (by rw[x6.kd];exact⟨trivial,.inl rfl⟩) (by rw[x6.kd];exact id) (by rw[sz];exact Nat.le_refl _) fun k hk hne=>os k hne
  refine⟨G6,0,rfl,((e15.to t).trans y6).trans y13,⟨x6.kd,vm,vl,vc,time,rs,kd,?_,w,vmk,fun _=>trivial⟩,hW6,fun _=>rfl⟩
  rw[os vm (fun e=>by subst e;rw[x6.kd]at kd;cases kd)];exact emx
theorem SlA.cut{G:Gh}{a:AK}{s:Sl}(x:SlA G a s){lo hi m:Nat}(h1:lo≤hi)(h2:hi≤s.len)(h3:m≤s.cap)(h4:hi≤m):SlA G a (cutSl s (lo:Int) (hi:Int) (m:Int) a.sz):=by
 obtain⟨h5,h6 | ⟨b,o,N,e,k,c,n⟩⟩:=x
 ·refine⟨by simp[cutSl];omega,.inl ⟨?_,by simp[cutSl];omega⟩⟩
  simp only[cutSl,h6.1]
  split <;> rfl
 ·refine⟨by simp[cutSl];omega,.inr ?_⟩
  by_cases e0:m=lo
  ·refine⟨b,o,N,?_,k,by simp[cutSl];omega,by simp[cutSl];omega⟩
   simp[cutSl,e0,e]
  ·refine⟨b,o+lo,N,?_,k,by simp[cutSl];omega,by simp[cutSl];omega⟩
   have:¬ (m:Int).toNat=(lo:Int).toNat:=by simpa using e0
   simp only[cutSl,e]
   rw[if_neg (by simpa using e0)]
   simp[add_none,Nat.add_mul]
theorem To.own1{S:Kd→Prop}{G0 G:Gh}{h0 h h':Hp}(y:To S G0 h0 G h){b:Nat}(hb:h0.size≤b)(hk:G.k b=.any)(hz:h.size≤h'.size)(e:∀ k,k<h.size→k≠b→h'[k]? = h[k]?):To S G0 h0 G h':=
 y.own (s:=⟨some ⟨b,0,none⟩,0,0⟩) (fun a ha=>by cases ha;exact⟨hb,hk⟩) hz fun k hk' hne=>e k hk' (hne _ rfl)
theorem vClone_spec{G:Gh}{h:Hp}{k:Int}{s:Sl}(t:HT G h)(x:SlA G (.vers k) s)(hM:s.len≤1000000):HC Tryz.prog 218 #[.slice s.base s.len s.cap] h fun r h'=>
 ∃ (u:Sl) (G':Gh),r=.slice u.base u.len u.cap∧To (fun _=>False) G h G' h'∧SlA G' (.vers k) u∧u.len=s.len∧G'.W=G.W:=by
 apply wc218
 unfold vc218
 obtain⟨l,r,ok⟩:=x.all t
 refine IfB.nilp (fun hn=>?_) (fun a ha=>?_)
 ·refine⟨Sl.nil,G,rfl,.refl t,SlA.nil _ _,?_,rfl⟩
  obtain⟨h2,h3 | ⟨b,o,N,h3,_⟩⟩:=x
  ·show 0=_;omega
  ·rw[h3]at hn;cases hn
 ·have e1:=alc_ext h [] 227
  have hl:=r.len
  have okc:∀ v∈l,cellOk v=true:=by
   intro v hv
   obtain⟨j,hj,rfl⟩:=List.mem_iff_getElem.1 hv
   have hsz:(AK.vers k).sz=2:=rfl
   rw[hsz]at hl
   have hjx:j / 2<s.len:=by omega
   refine okE_cell (ok (j / 2) hjx) _ ?_
   have:((l.drop (j / 2*2)).take 2)[j % 2]? = some l[j]:=by
    rw[List.getElem?_take,if_pos (by omega),List.getElem?_drop,show j / 2*2+j % 2=j by omega]
    exact List.getElem?_eq_getElem hj
   exact List.mem_of_getElem? this
  have o0:OwnN h.size 2 G (alc h [] 227) ⟨some (nw h),0,0⟩ []:=(Own.alc h [] 227 0 2 rfl).toN t (Nat.le_refl _)
  refine OwnN.app (S:=fun _=>False) (e1.to t) rfl o0 hl (r.rd.ext e1) okc (by simp;omega) (by simp;omega) fun u h1 y1 o1 l1 _ _=>?_
  rw[List.nil_append]at o1
  have hul:u.len=s.len:=by rw[l1];simp
  obtain⟨G',y2,s2,W2⟩:=OwnN.arr (a := .vers k) y1 o1 (fun i hi=>ok i (by omega))
  exact⟨u,G',rfl,y2,s2,hul,W2⟩
theorem leftN_mset(l:List ME)(k:Int)(v:Value)(seen:Array Nat):leftN (mset l k v) seen=leftN l seen:=by
 have key:∀ l:List ME,leftN l seen=((l.map (·.2.2)).filter fun b=>!(seen.toList.contains b)).length:=by
  intro l
  unfold leftN
  rw[List.filter_map,List.length_map]
  rfl
 rw[key,key,mset_borns]
theorem ePrune_spec{G:Gh}{h:Hp}{M em:Nat}{V:Prop}(t:HT G h)(x:ExtAt G h M em V)(hM:M≤1000000)(hor:Int):HC Tryz.prog 165 #[pv em,.int .i64 hor] h fun r h'=>
 ∃ (G':Gh) (n:Int),r=.int .i64 n∧To sExt G h G' h'∧ExtAt G' h' M em V∧G'.W=G.W:=by
 apply wc165
 unfold vc165
 refine(eGone_spec x).mono ?_
 rintro _ _ ⟨rfl,rfl⟩
 rename_i h
 obtain⟨vm,vl,vc,la,r,kd,emx,w,vmk,hV⟩:=x.map
 refine⟨_,rfl,.ff ⟨_,rfl,_,r.get rfl,vm,vl,vc,rfl,emx,?_⟩⟩
 have e0:Ext h (h.push (.mapIter (some vm) vc #[] vc)):=Ext.push _ _
 have hvm:=blk_lt emx
 refine⟨fun n m h'=>∃ (G':Gh) (vl':List ME) (seen:Array Nat),m=leftN vl' seen∧To sExt G h G' h'∧G'.W=G.W∧G'.k h.size=.any∧h'[vm]? = some (mapO vl' vc)∧MWf vl' vc∧VM G' M vl'∧(vl' ≠ []→V)∧h'[h.size]? = some (.mapIter (some vm) vc seen vc)∧Row h' em [.int .i64 258,.map (some vm),.int .i64 la],
  leftN vl #[],⟨G,vl,#[],rfl,e0.to t,rfl,t.fresh (Nat.le_refl _),(e0.block vm hvm).trans emx,w,vmk,hV,by simp,r.ext e0⟩,?_⟩
 rintro _ n m h2 ⟨G2,vl2,seen,rfl,y2,W2,k2,m2,w2,v2,V2,i2,r2⟩
 have kd2:=y2.kd kd (by simp)
 have kdem2:=y2.kd x.kd (by simp)
 have hlt2:=blk_lt i2
 refine⟨h.size,vm,vc,seen,vl2,rfl,i2,m2,w2.lt,fun _=>.ff ⟨G2,n,rfl,y2,⟨kdem2,vm,vl2,vc,la,r2,kd2,m2,w2,v2,V2⟩,W2⟩,fun k v bo hin hnb=>?_⟩
 have hne:vm≠h.size:=by omega
 have hne':em≠h.size:=by have:=r.lt;omega
 let h3:=h2.setIfInBounds h.size (.mapIter (some vm) vc (seen.push bo) vc)
 have s3:∀ b,b≠h.size→h3[b]? = h2[b]?:=fun b hb=>Array.getElem?_setIfInBounds_ne (Ne.symm hb)
 have i3:h3[h.size]? = some (.mapIter (some vm) vc (seen.push bo) vc):=Array.getElem?_setIfInBounds_self_of_lt hlt2
 have y3:To sExt G h G2 h3:=y2.own1 (Nat.le_refl _) k2 (by simp[h3]) fun b _ hb=>s3 b hb
 have m3:h3[vm]? = some (mapO vl2 vc):=(s3 vm hne).trans m2
 have r3:Row h3 em [.int .i64 258,.map (some vm),.int .i64 la]:=r2.eq (s3 em hne')
 obtain⟨s,rfl,sa,l1,l2⟩:=v2.each _ _ _ hin
 have x3:ExtAt G2 h3 M em V:=⟨kdem2,vm,vl2,vc,la,r3,kd2,m3,w2,v2,V2⟩
 refine .tt ⟨h.size,vm,vc,vc,seen.push bo,vl2,k,_,bo,rfl,i3,by simp,m3,hin,w2.born hin,s,rfl,?_⟩
 have hg:(mget vl2 k).getD (.slice Sl.nil.base Sl.nil.len Sl.nil.cap)=.slice s.base s.len s.cap:=by rw[w2.get hin];rfl
 refine(eAt_spec y3.ht x3 hM k hor (r3.get rfl) m3 hg sa l2).mono ?_
 have hlt:=leftN_push hin hnb
 rintro _ _ ⟨rfl,rfl | ⟨q,rfl,hq⟩⟩
 ·refine⟨_,rfl,IfB.dec (fun hh=>absurd hh (by decide)) fun _=>⟨_,hlt,G2,vl2,_,rfl,y3,W2,k2,m3,w2,v2,V2,i3,r3⟩⟩
 ·refine⟨_,rfl,IfB.dec (fun hpos=>⟨_,rfl,_,r3.get rfl,by omega,by omega,by have:=sa.1;omega,by omega,?_⟩) fun _=>⟨_,hlt,G2,vl2,_,rfl,y3,W2,k2,m3,w2,v2,V2,i3,r3⟩⟩
  have sc:=sa.cut (lo:=q) (hi:=s.len) (m:=s.cap) (by omega) (Nat.le_refl _) (Nat.le_refl _) sa.1
  have lc:(cutSl s (q:Int) (s.len:Int) (s.cap:Int) 2).len=s.len-q:=cut_len
  refine(vClone_spec y3.ht sc (by show(cutSl s (q:Int) (s.len:Int) (s.cap:Int) 2).len≤_;omega)).mono ?_
  rintro _ h4 ⟨u,G4,rfl,y4,s4,l4,W4⟩
  have l4':u.len=s.len-q:=l4.trans lc
  have y34:=y3.trans y4.sub
  refine⟨u,rfl,y4.toExt,vm,vl2,vc,rfl,y4.blk m3 id,?_⟩
  have m4:h4[vm]? = some (mapO vl2 vc):=y4.blk m3 id
  have r4:=y4.row r3 id
  have i4:=y4.blk i3 id
  have hvm4:=blk_lt m4
  have kd4:=y4.kd kd2 (by simp)
  have hhas:mhas vl2 k=true:=mhas_iff.2 (List.mem_map.2 ⟨_,hin,rfl⟩)
  have ep:mputL vl2 k (.slice u.base u.len u.cap) vc=mset vl2 k (.slice u.base u.len u.cap):=by unfold mputL;rw[if_pos hhas]
  have ec:mputC vl2 k vc=vc:=by unfold mputC;rw[if_pos hhas]
  have wp:=w2.put k (.slice u.base u.len u.cap)
  rw[ep,ec]at wp
  have vp:=(v2.mono y4.le (Nat.le_refl M)).put (k:=k) (s:=u) (c:=vc) (v2.keys k (List.mem_map.2 ⟨_,hin,rfl⟩)) s4 (by omega) (by omega)
  rw[ep]at vp
  have y5:To sExt G4 h4 G4 (h4.setIfInBounds vm (mput vl2 k (.slice u.base u.len u.cap) vc)):=y4.ht.toOther (b:=vm) (by rw[kd4];exact⟨trivial,.inr rfl⟩) (by rw[kd4];exact id) (by simp) fun b _ hb=>Array.getElem?_setIfInBounds_ne (Ne.symm hb)
  refine⟨leftN vl2 (seen.push bo),hlt,G4,mset vl2 k (.slice u.base u.len u.cap),seen.push bo,(leftN_mset _ _ _ _).symm,y34.trans y5,W4.trans W2,by rw[y4.old _ (blk_lt i3)];exact k2,?_,wp,vp,fun _=>V2 (fun e=>by rw[e]at hin;simp at hin),?_,?_⟩
  ·rw[Array.getElem?_setIfInBounds_self_of_lt hvm4,mput_eq,ep,ec]
  ·rw[Array.getElem?_setIfInBounds_ne hne];exact i4
  ·exact r4.eq (Array.getElem?_setIfInBounds_ne (fun e=>by subst e;rw[kdem2]at kd2;cases kd2))
theorem eNew_spec{G:Gh}{h:Hp}(t:HT G h)(M:Nat)(V:Prop):HC Tryz.prog 126 #[.int .i64 258] h fun r h'=>∃ (b:Nat) (G':Gh),r=.tuple #[pv b,.int .i64 0]∧To (fun _=>False) G h G' h'∧ExtAt G' h' M b V∧G'.W=G.W∧h.size≤b∧hY h' ((⟨b,0,none⟩:Addr).add 2)=some (.int .i64 0)∧(∀ vm vl vc,hY h' ((⟨b,0,none⟩:Addr).add 1)=some (.map (some vm))→h'[vm]? = some (mapO vl vc)→vl = []):=by
 apply wc126
 unfold vc126
 refine IfB.dec (fun hh=>absurd hh (by decide)) fun _=>IfB.dec (fun hh=>absurd hh (by decide)) fun _=>?_
 have e1:Ext h (h.push (mapO [] 0)):=Ext.push _ _
 have s1:(h.push (mapO [] 0)).size=h.size+1:=by simp
 have r2:Row (alc (h.push (mapO [] 0)) [.int .i64 258,.map (some h.size),.int .i64 0] 225) (h.size+1) [.int .i64 258,.map (some h.size),.int .i64 0]:=by rw[← s1];exact Row.alc _ _ _
 have m2:(alc (h.push (mapO [] 0)) [.int .i64 258,.map (some h.size),.int .i64 0] 225)[h.size]? = some (mapO [] 0):=by rw[alc_old _ _ _ (by simp)];simp
 have e2:=e1.trans (alc_ext (h.push (mapO [] 0)) [.int .i64 258,.map (some h.size),.int .i64 0] 225)
 obtain⟨y1,k1,W1⟩:=t.kindNew e2 (b:=h.size) (Nat.le_refl _) (blk_lt m2) (k := .one 5) id
 have kb:(G.set h.size (.one 5) 0).k (h.size+1)=.any:=by rw[Gh.set_ne (by omega)];exact t.fresh (by omega)
 have t3:=y1.ht.setOne kb r2.lt (k := .one 4) id
 refine⟨h.size+1,(G.set h.size (.one 5) 0).set (h.size+1) (.one 4) ((G.set h.size (.one 5) 0).n (h.size+1)),?_,y1.give (Gh.set_le kb (Nat.le_refl _)) t3 (s:=⟨some ⟨h.size+1,0,none⟩,0,0⟩) (fun a ha=>by cases ha;show h.size≤h.size+1;omega) fun b hb=>Gh.set_ne (hb _ rfl),⟨Gh.set_k,h.size,[],0,0,r2,by rw[Gh.set_ne (by omega)];exact k1,m2,MWf.nil 0,VM.nil _ _,fun h=>absurd rfl h⟩,rfl,by omega,r2.get rfl,fun vm vl vc h1 h2=>?_⟩
 ·show Value.tuple #[.pointer (some (nw (h.push (mapO [] 0)))),.int .i64 0]=_
  unfold nw pv;rw[s1]
 ·have:=r2.get (i:=1) rfl
  rw[this]at h1
  simp only[Option.some.injEq,Value.map.injEq]at h1
  subst h1
  rw[m2]at h2
  exact(mapO_inj (Option.some.inj h2)).1.symm
section
def sBook:Kd→Prop
 | .one n=>n=6∨n=7
 | _=>False
variable{G:Gh}{h:Hp}{bk n:Nat}{K:Int→Prop}
theorem BookAt.to{S:Kd→Prop}{G':Gh}{h':Hp}(x:BookAt G h bk n K)(y:To S G h G' h')(h6:¬ S (.one 6))(h7:¬ S (.one 7)):BookAt G' h' bk n K:=by
 obtain⟨tm,tl,tc,r,k,m,q⟩:=x.map
 exact⟨y.kd x.kd (by simp),tm,tl,tc,y.rowK r x.kd h6,y.kd k (by simp),y.blk m (by rw[k];exact h7),q⟩
theorem BookAt.eq{K':Int→Prop}(x:BookAt G h bk n K)(e:∀ k,K k↔K' k):BookAt G h bk n K':=by
 obtain⟨tm,tl,tc,r,k,m,w,l,q,z⟩:=x.map
 exact⟨x.kd,tm,tl,tc,r,k,m,w,l,fun k=>(q k).trans (e k),z⟩
theorem BookAt.ext{h':Hp}(t:HT G h)(x:BookAt G h bk n K)(e:Ext h h'):BookAt G h' bk n K:=x.to (e.to (S:=fun _=>False) t) id id
theorem kList_spec(t:HT G h)(x:BookAt G h bk n K)(hn:n≤1000000):HC Tryz.prog 84 #[pv bk] h fun r h'=>∃ c:Nat,r=.int .i64 (c:Int)∧Ext h h'∧c≤16∧∀ l:List Int,l.Nodup→(∀ k,k∈l↔K k)→c=l.length:=by
 apply wc84
 unfold vc84
 obtain⟨tm,tl,tc,r,k,m,w,l,q,z,_⟩:=x.map
 have key:HC Tryz.prog 134 #[pv bk] h fun r h'=>∃ s:Sl,r=.slice s.base s.len s.cap∧s.len=tl.length∧Ext h h':=by
  apply wc134
  unfold vc134
  refine .ff ⟨_,rfl,_,r.get rfl,?_⟩
  refine sortedT m w (fun k hk=>by have:=z k hk;omega) (by omega) fun s ks h1 o1 p mm nn qq e1=>⟨s,rfl,by omega,e1⟩
 refine key.mono ?_
 rintro _ h1 ⟨s,rfl,hs,e⟩
 refine⟨s,rfl,tl.length,by rw[hs],e,l,fun L hL hLK=>?_⟩
 have:=((List.perm_ext_iff_of_nodup w.keys hL).2 fun k=>(q k).trans (hLK k).symm).length_eq
 simpa [kS] using this
theorem kOpen_spec(t:HT G h)(x:BookAt G h bk n K)(hn:n≤1000000){at_:Int}(hat:0≤at_∧at_≤1099511627776):HC Tryz.prog 233 #[pv bk,.int .i64 at_] h fun r h'=>∃ G':Gh,To sBook G h G' h'∧G'.W=G.W∧
 ((r=.tuple #[.int .i64 0,.int .i64 6]∧BookAt G' h' bk n K∧∀ l:List Int,l.Nodup→(∀ k,k∈l↔K k)→16≤l.length)∨(r=.tuple #[.int .i64 ((n+1:Nat):Int),.int .i64 0]∧BookAt G' h' bk (n+1) fun k=>K k∨k=((n+1:Nat):Int))):=by
 apply wc233
 unfold vc233
 refine IfB.dec (fun hh=>by omega) fun _=>IfB.dec (fun hh=>by omega) fun _=>?_
 refine(kList_spec t x hn).mono ?_
 rintro _ h1 ⟨c,rfl,e1,c16,hc⟩
 have x1:=x.ext t e1
 have t1:=t.ext e1
 obtain⟨tm,tl,tc,r,k,m,w,l,q,z,vv⟩:=x1.map
 have hroom:HC Tryz.prog 282 #[pv bk] h1 fun r h'=>r=.int .i64 16∧h'=h1:=by
  apply wc282
  unfold vc282
  exact .ff ⟨_,rfl,_,r.get0 rfl,rfl,rfl⟩
 refine⟨_,rfl,hroom.mono ?_⟩
 rintro _ _ ⟨rfl,rfl⟩
 rename_i h1
 refine⟨_,rfl,IfB.dec (fun hge=>⟨G,e1.to t,rfl,.inl ⟨rfl,x1,fun L hL hLK=>by have:=hc L hL hLK;omega⟩⟩) fun hlt=>?_⟩
 obtain⟨st,rs,os,sz⟩:=r.set (i:=1) (by simp) (.int .i64 ((n+1:Nat):Int))
 have en:iAdd .i64 (n:Int) 1=((n+1:Nat):Int):=by rw[iAdd64 (by omega)];push_cast;rfl
 have hne:tm≠bk:=fun e=>by subst e;rw[x.kd]at k;cases k
 have y2:To sBook G h1 G (hset h1 ((⟨bk,0,none⟩:Addr).add 1) (.int .i64 ((n+1:Nat):Int))):=t1.toOther (b:=bk) (by rw[x.kd];exact⟨trivial,.inl rfl⟩) (by rw[x.kd];exact id) (by rw[sz];exact Nat.le_refl _) fun b _ hb=>os b hb
 refine⟨_,rfl,_,r.get rfl,_,rfl,?_⟩
 rw[en]
 refine⟨st,?_⟩
 generalize hset h1 ((⟨bk,0,none⟩:Addr).add 1) (.int .i64 ((n+1:Nat):Int))=h2 at *
 have m2:h2[tm]? = some (mapO tl tc):=(os tm hne).trans m
 obtain⟨ob,hob,ro⟩:=rs.only
 refine⟨onlyB bk ob,sub_only hob,_,rfl,some tm,ro.get rfl,_,rfl,_,ro.get rfl,tm,tl,tc,rfl,m2,?_⟩
 have hlen:(tl.length:Int)<16:=by
  have:=hc (kS tl) w.keys q
  simp[kS]at this
  omega
 have hnew:((n+1:Nat):Int) ∉ kS tl:=fun hh=>by have:=z _ hh;omega
 have y3:To sBook G h2 G (h2.setIfInBounds tm (mput tl ((n+1:Nat):Int) (.int .i64 at_) tc)):=y2.ht.toOther (b:=tm) (by rw[k];exact⟨trivial,.inr rfl⟩) (by rw[k];exact id) (by simp) fun b _ hb=>Array.getElem?_setIfInBounds_ne (Ne.symm hb)
 have r3:Row (h2.setIfInBounds tm (mput tl ((n+1:Nat):Int) (.int .i64 at_) tc)) bk [.int .i64 16,.int .i64 ((n+1:Nat):Int),.map (some tm)]:=rs.eq (Array.getElem?_setIfInBounds_ne hne)
 refine⟨_,rfl,_,r3.get rfl,G,((e1.to t).trans y2).trans y3,rfl,.inr ⟨rfl,x.kd,tm,_,_,r3,k,by rw[Array.getElem?_setIfInBounds_self_of_lt (blk_lt m2),mput_eq],w.put _ _,?_,fun j=>?_,fun j hj=>?_,fun j v b hin=>?_⟩⟩
 ·rw[mputL_len,if_neg hnew];omega
 ·rw[mputL_kS,if_neg hnew,List.mem_append,q];simp
 ·rw[mputL_kS,if_neg hnew]at hj
  rcases List.mem_append.1 hj with hh | hh
  ·have:=z j hh;omega
  ·simp at hh;omega
 ·rcases mputL_mem hin with ⟨_,hv⟩ | hh
  ·exact⟨_,hv⟩
  ·exact vv j v b hh
theorem kClose_spec(t:HT G h)(x:BookAt G h bk n K){hd:Int}(hk:K hd):HC Tryz.prog 169 #[pv bk,.int .i64 hd] h fun r h'=>∃ (G':Gh) (c:Int),r=.int .i64 c∧To sBook G h G' h'∧G'.W=G.W∧BookAt G' h' bk n fun k=>K k∧k≠hd:=by
 apply wc169
 unfold vc169
 obtain⟨tm,tl,tc,r,k,m,w,l,q,z,vv⟩:=x.map
 have hin:hd∈kS tl:=(q hd).2 hk
 obtain⟨e,he,rfl⟩:=List.mem_map.1 hin
 obtain⟨kk,v,b⟩:=e
 obtain⟨nn,rfl⟩:=vv _ _ _ he
 have hat:HC Tryz.prog 226 #[pv bk,.int .i64 kk] h fun r h'=>(∃ c:Int,r=.tuple #[.int .i64 c,.int .i64 0])∧h'=h:=by
  apply wc226
  unfold vc226
  refine .ff ⟨_,rfl,_,r.get rfl,tl,tc,m,nn,by rw[w.get he];rfl,IfB.no ?_ ⟨⟨nn,rfl⟩,rfl⟩⟩
  rw[mhas_iff.2 hin];rfl
 refine hat.mono ?_
 rintro _ _ ⟨⟨c,rfl⟩,rfl⟩
 rename_i h
 refine⟨c,0,rfl,.no rfl ⟨_,rfl,_,r.get rfl,tm,tl,tc,rfl,m,?_⟩⟩
 have hne:tm≠bk:=fun e=>by subst e;rw[x.kd]at k;cases k
 refine⟨G,0,rfl,t.toOther (b:=tm) (by rw[k];exact⟨trivial,.inr rfl⟩) (by rw[k];exact id) (by simp) fun b _ hb=>Array.getElem?_setIfInBounds_ne (Ne.symm hb),rfl,⟨x.kd,tm,mdel tl kk,tc,r.eq (Array.getElem?_setIfInBounds_ne hne),k,Array.getElem?_setIfInBounds_self_of_lt (blk_lt m),w.del kk,?_,fun j=>?_,fun j hj=>?_,fun j v b hh=>?_⟩⟩
 ·have:=mdel_len (k:=kk) hin;omega
 ·rw[mdel_kS w,q]
 ·exact z j ((mdel_kS w).1 hj).1
 ·exact vv j v b ((mdel_mem w).1 hh).1
theorem kLow_spec(t:HT G h)(x:BookAt G h bk n K)(now:Int):HC Tryz.prog 166 #[pv bk,.int .i64 now] h fun r h'=>Ext h h'∧∃ c:Int,r=.int .i64 c:=by
 apply wc166
 unfold vc166
 obtain⟨tm,tl,tc,r,k,m,w,l,q,z,vv⟩:=x.map
 refine .ff ⟨_,rfl,_,r.get rfl,tm,tl,tc,rfl,m,?_⟩
 have e1:Ext h (h.push (.mapIter (some tm) tc #[] tc)):=Ext.push _ _
 refine⟨fun _ m h'=>∃ seen,m=leftN tl seen∧Iter (h.push (.mapIter (some tm) tc #[] tc)) h.size tm tc seen h',leftN tl #[],⟨#[],rfl,Iter.start _ _ _⟩,?_⟩
 rintro _ now1 mm h2 ⟨seen,rfl,I⟩
 have e2:Ext h h2:=I.ext e1 (Nat.le_refl _)
 refine⟨h.size,tm,tc,seen,tl,rfl,I.at_,(e2.block tm (blk_lt m)).trans m,w.lt,fun _=>.ff ⟨e2,_,rfl⟩,fun kk v bo hin hnb=>?_⟩
 have I4:=I.next bo
 have e4:=I4.ext e1 (Nat.le_refl _)
 obtain⟨nn,rfl⟩:=vv _ _ _ hin
 exact .tt ⟨h.size,tm,tc,tc,seen.push bo,tl,kk,_,bo,rfl,I4.at_,by simp,(e4.block tm (blk_lt m)).trans m,hin,w.born hin,nn,rfl,_,leftN_push hin hnb,_,rfl,I4⟩
theorem kNew_spec(t:HT G h):HC Tryz.prog 127 #[.int .i64 16] h fun r h'=>∃ (b:Nat) (G':Gh),r=pv b∧To (fun _=>False) G h G' h'∧BookAt G' h' b 0 (fun _=>False)∧G'.W=G.W∧h.size≤b:=by
 apply wc127
 unfold vc127
 have e1:Ext h (h.push (mapO [] 0)):=Ext.push _ _
 have s1:(h.push (mapO [] 0)).size=h.size+1:=by simp
 have r2:Row (alc (h.push (mapO [] 0)) [.int .i64 16,.int .i64 0,.map (some h.size)] 274) (h.size+1) [.int .i64 16,.int .i64 0,.map (some h.size)]:=by rw[← s1];exact Row.alc _ _ _
 have m2:(alc (h.push (mapO [] 0)) [.int .i64 16,.int .i64 0,.map (some h.size)] 274)[h.size]? = some (mapO [] 0):=by rw[alc_old _ _ _ (by simp)];simp
 have e2:=e1.trans (alc_ext (h.push (mapO [] 0)) [.int .i64 16,.int .i64 0,.map (some h.size)] 274)
 obtain⟨y1,k1,W1⟩:=t.kindNew e2 (b:=h.size) (Nat.le_refl _) (blk_lt m2) (k := .one 7) id
 have kb:(G.set h.size (.one 7) 0).k (h.size+1)=.any:=by rw[Gh.set_ne (by omega)];exact t.fresh (by omega)
 have t3:=y1.ht.setOne kb r2.lt (k := .one 6) id
 refine⟨h.size+1,(G.set h.size (.one 7) 0).set (h.size+1) (.one 6) ((G.set h.size (.one 7) 0).n (h.size+1)),?_,y1.give (Gh.set_le kb (Nat.le_refl _)) t3 (s:=⟨some ⟨h.size+1,0,none⟩,0,0⟩) (fun a ha=>by cases ha;show h.size≤h.size+1;omega) fun b hb=>Gh.set_ne (hb _ rfl),⟨Gh.set_k,h.size,[],0,r2,by rw[Gh.set_ne (by omega)];exact k1,m2,MWf.nil 0,by simp,by simp[kS],by simp[kS],by simp⟩,rfl,by omega⟩
 show Value.pointer (some (nw (h.push (mapO [] 0))))=_
 unfold nw pv;rw[s1]
end
end Go.Proofs.YtdpdkpfnfllipaaGreatDoor
