/- A part of the proof, no condition. -/
import Derived.Test.YtdpdkpfnfllipaaGreatDoorN14
set_option linter.unusedVariables false
set_option linter.unusedSimpArgs false
namespace Go.Proofs.YtdpdkpfnfllipaaGreatDoor
structure SlotAt(F:Nat→Nat)(h:Hp)(sb db:Nat)(S:SlV)(tx:List UInt8)(ts:Sl):Prop where
 role:F sb=0
 row:Row h sb (slC db S ts)
 text:Rd 1 h ts (tx.map bv)
 tb:∀ a,ts.base=some a→F a.block=0∧a.block<h.size∧a.block≠sb
theorem SlotAt.eq{F:Nat→Nat}{h h':Hp}{sb db:Nat}{S:SlV}{tx:List UInt8}{ts:Sl}(x:SlotAt F h sb db S tx ts)(hs:h.size≤h'.size)(e1:h'[sb]? = h[sb]?)(e2:∀ a,ts.base=some a→h'[a.block]? = h[a.block]?):SlotAt F h' sb db S tx ts:=
 ⟨x.role,x.row.eq e1,x.text.eq e2,fun a ha=>⟨(x.tb a ha).1,by have:=(x.tb a ha).2.1;omega,(x.tb a ha).2.2⟩⟩
theorem SlotAt.chg{F:Nat→Nat}{h h':Hp}{sb db:Nat}{S:SlV}{tx:List UInt8}{ts:Sl}(x:SlotAt F h sb db S tx ts)(c:Chg F h h'):SlotAt F h' sb db S tx ts:=
 x.eq c.size (c.block _ x.row.lt x.role) fun a ha=>c.block _ (x.tb a ha).2.1 (x.tb a ha).1
abbrev sp(sb:Nat):Value := .pointer (some ⟨sb,0,none⟩)
abbrev PickV:=Nat × (List UInt8 × Nat)
def pick1(i:Nat)(c:List UInt8 × Nat)(p:PickV):PickV:=if p.2.2<c.2 then (i,c) else p
noncomputable def pickS(a b:List (List UInt8)):PickV:=pick1 1 (readS b) (pick1 0 (readS a) (1,([],0)))
noncomputable def pickN(a b:List (List UInt8)):Nat→PickV
 | 0=>(1,([],0))
 | 1=>pick1 0 (readS a) (1,([],0))
 | _=>pickS a b
def OpenOk(d:Dv)(low mid high:Int):Prop:=0≤low∧low<mid∧mid<high∧high≤d.n
def OpenR(lo:Nat)(F:Nat→Nat)(h:Hp)(db:Nat)(d:Dv)(low mid high:Int)(r:Value)(h':Hp):Prop:=
 (¬ OpenOk d low mid high∧r=.tuple #[.pointer none,.int .i64 1]∧Ext h h') ∨
 (OpenOk d low mid high∧∃ q,(∃ i,i<2∧(zRows d (if i=0 then low.toNat else mid.toNat) (if i=0 then mid.toNat-low.toNat else high.toNat-mid.toNat)).any oddB=true)∧r=.tuple #[.pointer none,.int .i64 13]∧DevTo lo F h h' db (withReads d q)) ∨
 (OpenOk d low mid high∧∃ q F',DevAt lo F' h' db (withReads d q).flush.2∧(∀ b,b<h.size→F' b=F b)∧Chg F h h'∧
  (zRows d low.toNat (mid.toNat-low.toNat)).any oddB=false∧(zRows d mid.toNat (high.toNat-mid.toNat)).any oddB=false∧
  ((d.flush.1≠0∧r=.tuple #[.pointer none,.int .i64 d.flush.1]) ∨
   (d.flush.1=0∧∃ sb ts,h.size≤sb∧(∀ a,ts.base=some a→sb<a.block)∧r=.tuple #[sp sb,.int .i64 0]∧
    SlotAt F' h' sb db ⟨low.toNat,mid.toNat,high.toNat,d.size,(pickS (zRows d low.toNat (mid.toNat-low.toNat)) (zRows d mid.toNat (high.toNat-mid.toNat))).1,(pickS (zRows d low.toNat (mid.toNat-low.toNat)) (zRows d mid.toNat (high.toNat-mid.toNat))).2.2,false⟩
     (pickS (zRows d low.toNat (mid.toNat-low.toNat)) (zRows d mid.toNat (high.toNat-mid.toNat))).2.1 ts)))
theorem flush_reads(d:Dv)(q:Int):(withReads d q).flush.1=d.flush.1:=by
 unfold Dv.flush
 have:(withReads d q).dead=d.dead:=rfl
 rw[this];split <;> rfl
theorem Open_spec{lo:Nat}{F:Nat→Nat}{h:Hp}{db:Nat}{d:Dv}(x:DevAt lo F h db d)(low mid high:Int) :
 HC Tryz.prog 67 #[dp db,.int .i64 low,.int .i64 mid,.int .i64 high] h (OpenR lo F h db d low mid high):=by
 apply wc67
 unfold vc67
 have w:=x.1
 have hz:=w.zones
 have hsz:=w.size
 refine(Geometry_spec x).mono ?_
 rintro _ h1 ⟨rfl,e1⟩
 refine⟨_,_,rfl,?_⟩
 intro h2
 refine loc2 rfl rfl fun h3 e3 r3=>?_
 have e03:=e1.trans e3
 refine⟨_,r3.get0 rfl,IfB.eq (fun hh=>by omega) (fun _=>?_)⟩
 refine IfB.dec (fun hh=>.inl ⟨fun k=>by have:=k.1;omega,rfl,e03⟩) (fun h1=>IfB.dec (fun hh=>.inl ⟨fun k=>by have:=k.2.1;omega,rfl,e03⟩) (fun h2=>IfB.dec (fun hh=>.inl ⟨fun k=>by have:=k.2.2.1;omega,rfl,e03⟩) (fun h3'=>⟨_,r3.get0 rfl,IfB.dec (fun hh=>.inl ⟨fun k=>by have:=k.2.2.2;omega,rfl,e03⟩) (fun h4=>⟨_,r3.get rfl,?_⟩)⟩)))
 have hok:OpenOk d low mid high:=⟨by omega,by omega,by omega,by omega⟩
 obtain⟨L,rfl⟩:∃ L:Nat,low=L:=⟨low.toNat,by omega⟩
 obtain⟨M,rfl⟩:∃ M:Nat,mid=M:=⟨mid.toNat,by omega⟩
 obtain⟨H,rfl⟩:∃ H:Nat,high=H:=⟨high.toNat,by omega⟩
 unfold OpenR
 rw[Int.toNat_natCast L,Int.toNat_natCast M,Int.toNat_natCast H]
 intro h5
 have e5:Ext h3 h5:=alc_ext _ _ _
 have e05:=e03.trans e5
 have s03:=e03.size
 have s5:h5.size=h3.size+1:=size_alc _ _ _
 have row5:Row h5 h3.size (slC db ⟨L,M,H,d.size,1,0,false⟩ Sl.nil):=Row.alc _ _ _
 have Fz:∀ b,h.size≤b→F b=0:=fun b hb=>by
  rcases Nat.eq_zero_or_pos (F b) with h0 | h0
  ·exact h0
  ·have:=(x.dom b (by omega)).2;omega
 let A:=zRows d L (M-L)
 let B:=zRows d M (H-M)
 let Z:Nat→List (List UInt8):=fun i=>if i=0 then A else B
 refine⟨fun i m h'=>∃ (j:Nat) (ts:Sl) (q:Int),i=j∧m+j=2∧Row h' h3.size (slC db ⟨L,M,H,d.size,(pickN A B j).1,(pickN A B j).2.2,false⟩ ts)∧Rd 1 h' ts ((pickN A B j).2.1.map bv)∧(∀ a,ts.base=some a→h3.size<a.block∧a.block<h'.size)∧DevAt lo F h' db (withReads d q)∧Chg F h h'∧∀ k,k<j→(Z k).any oddB=false,2,
  ⟨0,Sl.nil,d.reads,rfl,rfl,row5,Rd.nil _ _,fun a ha=>(by cases ha),x.ext e05,e05.chg F,fun k hk=>by omega⟩,?_⟩
 rintro _ _ m h6 ⟨j,ts,q,rfl,hm,row6,rt6,tb6,x6,c6,hodd⟩
 have s6:=c6.size
 refine IfB.dec (fun hlt=>?_) (fun hge=>?_)
 ·have hj:j<2:=by omega
  let S6:SlV:=⟨L,M,H,d.size,(pickN A B j).1,(pickN A B j).2.2,false⟩
  have hf1:S6.f j≤S6.f (j+1):=by
   rcases(show j=0∨j=1 by omega) with rfl | rfl
   ·show L≤M;omega
   ·show M≤H;omega
  have hf2:S6.f (j+1)≤d.n:=by
   rcases(show j=0∨j=1 by omega) with rfl | rfl
   ·show M≤d.n;omega
   ·show H≤d.n;omega
  refine(blocks_spec (S:=S6) x6 row6 (Fz _ s03) j hj hf1 hf2 rfl).mono ?_
  rintro _ h7 ⟨out,rows,q7,rfl,o7,hrows,x7,c7⟩
  have hZ:rows.map (·.2)=Z j:=by
   rw[hrows,zRows_reads]
   rcases(show j=0∨j=1 by omega) with rfl | rfl
   ·rfl
   ·rfl
  have x7':DevAt lo F h7 db (withReads d q7):=x7
  have hrl:rows.length≤1000000:=by
   have h1:=zRows_len w (S6.f j) (S6.f (j+1)-S6.f j)
   have h2:=congrArg List.length hrows
   rw[zRows_reads]at h2
   simp only[List.length_map]at h2
   have:(S6.f (j+1)-S6.f j)*192≤64*192:=Nat.mul_le_mul_right _ (by omega)
   omega
  have h64:∀ p∈rows.map (·.2),p.length=64:=by
   rw[hrows,zRows_reads]
   have:∀ k z,∀ p∈zRows d z k,p.length=64:=by
    intro k
    induction k with
    | zero=>intro z p hp;simp[zRows]at hp
    | succ k ih=>
      intro z p hp
      simp only[zRows]at hp
      rcases List.mem_append.1 hp with hp | hp
      ·exact(w.zone z).each p hp
      ·split at hp
       ·simp at hp
       ·exact ih _ p hp
   exact this _ _
  refine⟨out,rfl,?_⟩
  refine(rowsContains_spec (p:=oddB) o7.own.rd o7.len o7.each hrl fun p hp c rc=>odd_spec rc (by have:=h64 p.2 (List.mem_map.2 ⟨p,hp,rfl⟩);omega)).mono ?_
  rintro _ h7' ⟨rfl,hh⟩
  obtain rfl:=hh.symm
  have hany:(rows.any fun x=>oddB x.2)=(Z j).any oddB:=by rw[← hZ,List.any_map];rfl
  rw[hany]
  have c07:=c6.tr c7
  refine⟨_,rfl,IfB.intro (fun hodd=>.inr (.inl ⟨hok,q7,⟨j,hj,?_⟩,rfl,DevTo.of x7' c07⟩)) (fun hno=>?_)⟩
  ·rcases(show j=0∨j=1 by omega) with rfl | rfl
   ·exact hodd
   ·exact hodd
  refine(read_spec o7.own.rd o7.len o7.each hrl).mono ?_
  rw[hZ]
  rintro _ h8 ⟨e8,t,rfl,ot⟩
  have s7:=c7.size
  have s8:=e8.size
  have row7:=row6.chg c7 (Fz _ s03)
  have row8:=row7.ext e8
  have rt8:Rd 1 h8 ts ((pickN A B j).2.1.map bv):=(rt6.eq fun a ha=>c7.block _ (tb6 a ha).2 (Fz _ (by have:=(tb6 a ha).1;omega))).ext e8
  have c08:=c07.tr (e8.chg F)
  have x8:=x7'.ext e8
  have hnext:pickN A B (j+1)=pick1 j (readS (Z j)) (pickN A B j):=by
   rcases(show j=0∨j=1 by omega) with rfl | rfl
   ·rfl
   ·rfl
  have hodd':∀ k,k<j+1→(Z k).any oddB=false:=fun k hk=>by
   by_cases e:k=j
   ·subst e;exact hno
   ·exact hodd k (by omega)
  have ej:iAdd .i64 (j:Int) (1:Int)=((j+1:Nat):Int):=by rw[iAdd64 (by omega)];push_cast;rfl
  refine⟨t,_,rfl,_,rfl,_,row8.get rfl,IfB.dec (fun hgt=>?_) (fun hle=>?_)⟩
  ·have hgt':(pickN A B j).2.2<(readS (Z j)).2:=Int.ofNat_lt.1 hgt
   refine⟨_,rfl,?_⟩
   obtain⟨ok1,row9,y9,s9⟩:=row8.set (i:=5) (by simp[slC]) (.int .i64 (j:Int))
   refine⟨ok1,_,rfl,?_⟩
   obtain⟨ok2,row10,y10,s10⟩:=row9.set (i:=6) (by simp[slC]) (.slice t.base t.len t.cap)
   refine⟨ok2,_,rfl,?_⟩
   obtain⟨ok3,row11,y11,s11⟩:=row10.set (i:=7) (by simp[slC]) (.int .i64 ((readS (Z j)).2:Int))
   refine⟨ok3,m-1,by omega,j+1,t,q7,ej,by omega,?_,?_,fun a ha=>?_,?_,?_,hodd'⟩
   ·rw[hnext,pick1,if_pos hgt'];exact row11
   ·rw[hnext,pick1,if_pos hgt']
    refine ot.toRd.eq fun a ha=>?_
    have:=(ot.lt ha).1
    have hne:a.block≠h3.size:=by have:=c7.size;have:=row6.lt;omega
    rw[show(nw h3)=(⟨h3.size,0,none⟩:Addr) from rfl,y11 _ hne,y10 _ hne,y9 _ hne]
   ·have h1:=(ot.lt ha)
    have:=row6.lt
    refine⟨by omega,?_⟩
    have:(hset (hset (hset h8 ((⟨h3.size,0,none⟩:Addr).add 5) (.int .i64 (j:Int))) ((⟨h3.size,0,none⟩:Addr).add 6) (.slice t.base t.len t.cap)) ((⟨h3.size,0,none⟩:Addr).add 7) (.int .i64 ((readS (Z j)).2:Int))).size=h8.size:=by rw[s11,s10,s9]
    exact this ▸ h1.2
   ·have hs:(hset (hset (hset h8 ((⟨h3.size,0,none⟩:Addr).add 5) (.int .i64 (j:Int))) ((⟨h3.size,0,none⟩:Addr).add 6) (.slice t.base t.len t.cap)) ((⟨h3.size,0,none⟩:Addr).add 7) (.int .i64 ((readS (Z j)).2:Int))).size=h8.size:=by rw[s11,s10,s9]
    refine x8.keep (by rw[show(nw h3)=(⟨h3.size,0,none⟩:Addr) from rfl,hs];exact Nat.le_refl _) fun b hb=>?_
    have hne:b≠h3.size:=fun e=>by rw[e,Fz _ s03]at hb;exact hb rfl
    rw[show(nw h3)=(⟨h3.size,0,none⟩:Addr) from rfl,y11 _ hne,y10 _ hne,y9 _ hne]
   ·refine⟨by rw[show(nw h3)=(⟨h3.size,0,none⟩:Addr) from rfl,s11,s10,s9];exact c08.size,fun b hb hFb=>?_⟩
    have hne:b≠h3.size:=by omega
    rw[show(nw h3)=(⟨h3.size,0,none⟩:Addr) from rfl,y11 _ hne,y10 _ hne,y9 _ hne,c08.block b hb hFb]
  ·have hle':¬ (pickN A B j).2.2<(readS (Z j)).2:=fun h=>hle (Int.ofNat_lt.2 h)
   refine⟨m-1,by omega,j+1,ts,q7,ej,by omega,?_,?_,fun a ha=>⟨(tb6 a ha).1,by have:=(tb6 a ha).2;omega⟩,x8,c08,hodd'⟩
   ·rw[hnext,pick1,if_neg hle'];exact row8
   ·rw[hnext,pick1,if_neg hle'];exact rt8
 ·obtain rfl:j=2:=by omega
  refine(Flush_spec x6).mono ?_
  rintro _ h7 ⟨rfl,F',x7,g7,c7⟩
  rw[flush_reads]
  have c07:=c6.tr c7
  have g07:∀ b,b<h.size→F' b=F b:=fun b hb=>g7 b (by omega)
  have hA:A.any oddB=false:=hodd 0 (by omega)
  have hB:B.any oddB=false:=hodd 1 (by omega)
  refine⟨_,rfl,IfB.ne (fun hne=>.inr (.inr ⟨hok,q,F',x7,g07,c07,hA,hB,.inl ⟨hne,rfl⟩⟩)) (fun heq=>.inr (.inr ⟨hok,q,F',x7,g07,c07,hA,hB,.inr ⟨heq,h3.size,ts,s03,fun a ha=>(tb6 a ha).1,rfl,?_⟩⟩))⟩
  have sl:SlotAt F h6 h3.size db ⟨L,M,H,d.size,(pickS A B).1,(pickS A B).2.2,false⟩ (pickS A B).2.1 ts:=
   ⟨Fz _ s03,row6,rt6,fun a ha=>⟨Fz _ (by have:=(tb6 a ha).1;omega),(tb6 a ha).2,by have:=(tb6 a ha).1;omega⟩⟩
  have sl7:=sl.chg c7
  exact⟨by rw[g7 _ row6.lt];exact sl.role,sl7.row,sl7.text,fun a ha=>⟨by rw[g7 _ (sl.tb a ha).2.1];exact(sl.tb a ha).1,(sl7.tb a ha).2⟩⟩
def chunkL(t:List UInt8)(k:Nat):List UInt8:=(t.drop (40*k)).take 40
def nCh(t:List UInt8):Nat:=(t.length+39) / 40
abbrev BQ:=(Nat × Nat) × (Sl × List UInt8)
def cq(n:Nat)(L:List BQ):List Value:=L.flatMap fun x=>blkV x.1.1 0 n x.1.2 x.2.1
def encQ(n:Nat)(x:BQ):List UInt8:=encOf (preL x.1.1 0 n x.1.2 x.2.2)
def encS(n:Nat)(t:List UInt8):List (List UInt8):=encOf (preL 3 0 n 0 [])::((List.range (nCh t)).map (fun k=>encOf (preL 1 0 n 0 (chunkL t k))) ++ [encOf (preL 2 0 n (nCh t) (tailL t))])
theorem encS_len(n:Nat)(t:List UInt8):(encS n t).length=nCh t+2:=by simp[encS]
theorem chunkL_len(t:List UInt8)(k:Nat):(chunkL t k).length≤40:=by unfold chunkL;simp;omega
theorem tailL_len(t:List UInt8):(tailL t).length=8:=by simp[tailL,leB_length]
theorem cq_cons(n:Nat)(x:BQ)(D:List BQ):cq n (x::D)=blkV x.1.1 0 n x.1.2 x.2.1++cq n D:=rfl
theorem cq_length(n:Nat):∀ D,(cq n D).length=D.length*5
 | []=>rfl
 | x::D=>by rw[cq_cons,List.length_append,cq_length n D];simp only[blkV,List.length_cons,List.length_nil];omega
theorem cq_append(n:Nat)(a b:List BQ):cq n (a++b)=cq n a++cq n b:=by simp[cq]
theorem cq_get(n:Nat):∀ (D:List BQ) (i j:Nat),j<5→(cq n D)[i*5+j]? =(D[i]?).bind fun x=>(blkV x.1.1 0 n x.1.2 x.2.1)[j]?
 | [],i,j,_=>by simp[cq]
 | x::D,0,j,h=>by rw[cq_cons,List.getElem?_append_left (by simp only[blkV,List.length_cons,List.length_nil];omega)];simp
 | x::D,i+1,j,h=>by
   rw[cq_cons,List.getElem?_append_right (by simp only[blkV,List.length_cons,List.length_nil];omega),show(i+1)*5+j-(blkV x.1.1 0 n x.1.2 x.2.1).length=i*5+j by simp only[blkV,List.length_cons,List.length_nil];omega,cq_get n D i j h];simp
theorem ixq{h:Hp}{s:Sl}{n:Nat}{D:List BQ}(r:Rd 5 h s (cq n D)){i:Int}(k:Nat)(hi:i=k)(hk:k<D.length){K:Int→Int→Int→Int→Sl→Prop}
 (hK:K D[k].1.1 0 n D[k].1.2 D[k].2.1):∃ a:Addr,s.base=some a∧0≤i∧i<(s.len:Int)∧
  ∃ c8:Int,∃ c9:Int,∃ c10:Int,∃ c11:Int,∃ c12:Sl,hY h (a.add (i.toNat*5))=some (.int .i64 c8)∧hY h ((a.add (i.toNat*5)).add 1)=some (.int .i64 c9)∧hY h ((a.add (i.toNat*5)).add 2)=some (.int .i64 c10)∧hY h ((a.add (i.toNat*5)).add 3)=some (.int .i64 c11)∧hY h ((a.add (i.toNat*5)).add 4)=some (.slice c12.base c12.len c12.cap)∧K c8 c9 c10 c11 c12:=by
 subst hi
 have hl:=r.len
 rw[cq_length]at hl
 have g:∀ j,j<5→(cq n D)[k*5+j]? =(blkV D[k].1.1 0 n D[k].1.2 D[k].2.1)[j]?:=fun j hj=>by
  rw[cq_get n D k j hj,List.getElem?_eq_getElem hk];rfl
 obtain⟨a,ha,h0⟩:=r.rd (k*5+0) _ (by rw[g 0 (by omega)];rfl)
 obtain⟨a1,ha1,h1⟩:=r.rd (k*5+1) _ (by rw[g 1 (by omega)];rfl)
 obtain⟨a2,ha2,h2⟩:=r.rd (k*5+2) _ (by rw[g 2 (by omega)];rfl)
 obtain⟨a3,ha3,h3⟩:=r.rd (k*5+3) _ (by rw[g 3 (by omega)];rfl)
 obtain⟨a4,ha4,h4⟩:=r.rd (k*5+4) _ (by rw[g 4 (by omega)];rfl)
 rw[ha]at ha1 ha2 ha3 ha4
 cases ha1;cases ha2;cases ha3;cases ha4
 exact⟨a,ha,by omega,by omega,_,_,_,_,_,by simpa using h0,by rw[add_add];simpa using h1,by rw[add_add];simpa using h2,by rw[add_add];simpa using h3,by rw[add_add];simpa using h4,hK⟩
noncomputable def Dv.wr(d:Dv)(lo hi size n:Nat)(t:List UInt8):Int × Dv:=
 if (d.clear lo (hi-lo)).1≠0 then d.clear lo (hi-lo) else
 if ((d.clear lo (hi-lo)).2.puts lo size 0 (encS n t)).1≠0 then (d.clear lo (hi-lo)).2.puts lo size 0 (encS n t) else ((d.clear lo (hi-lo)).2.puts lo size 0 (encS n t)).2.flush
theorem write_spec{lo:Nat}{F:Nat→Nat}{h:Hp}{db sb:Nat}{d:Dv}{S:SlV}{ts tl:Sl}{t:List UInt8}(x:DevAt lo F h db d)(hlo:lo≤h.size)(row:Row h sb (slC db S ts))(hF:F sb=0)(i:Nat)(hi:i<2)(hr:S.f i≤S.f (i+1))(hn:S.f (i+1)≤d.n)(hsz:1≤S.size)
 (n:Nat) (hn40:n≤1099511627776) (rt:Rd 1 h tl (t.map bv)) (tb:∀ a,tl.base=some a→F a.block=0∧a.block<h.size) (htl:t.length≤1000000) :
 HC Tryz.prog 159 #[sp sb,.int .i64 (i:Int),.int .i64 (n:Int),.slice tl.base tl.len tl.cap] h fun r h'=>r=.int .i64 (d.wr (S.f i) (S.f (i+1)) S.size n t).1∧DevTo lo F h h' db (d.wr (S.f i) (S.f (i+1)) S.size n t).2:=by
 apply wc159
 unfold vc159
 have w:=x.1
 have hnz:=w.zones
 have ltl:=rt.lenB
 have hcap:=rt.cap
 refine⟨_,rfl,slC_f row i rfl (by omega) ?_⟩
 have ei:iAdd .i64 (i:Int) (1:Int)=((i+1:Nat):Int):=by rw[iAdd64 (by omega)];push_cast;rfl
 have hsb:=row.lt
 refine⟨fun z m h'=>∃ (j:Nat) (F':Nat→Nat) (d':Dv),z=((S.f i+j:Nat):Int)∧m+j=S.f (i+1)-S.f i∧d.clear (S.f i) (S.f (i+1)-S.f i)=d'.clear (S.f i+j) (S.f (i+1)-S.f i-j)∧d'.n=d.n∧DevAt lo F' h' db d'∧(∀ b,b<h.size→F' b=F b)∧Chg F h h',S.f (i+1)-S.f i,
  ⟨0,F,d,rfl,rfl,rfl,rfl,x,fun _ _=>rfl,.refl _ _⟩,?_⟩
 rintro _ _ m h1 ⟨j,F1,d1,rfl,hm,hcl,hn1,x1,g1,c1⟩
 have row1:=row.chg c1 hF
 refine⟨_,rfl,?_⟩
 rw[ei]
 refine slC_f row1 (i+1) rfl (by omega) (IfB.dec (fun hlt=>?_) (fun hge=>?_))
 ·refine⟨_,rfl,_,row1.get0 rfl,?_⟩
  have hsub:S.f (i+1)-S.f i-j=(S.f (i+1)-S.f i-(j+1))+1:=by omega
  rw[hsub,Dv.clear]at hcl
  have ez:iAdd .i64 ((S.f i+j:Nat):Int) (1:Int)=((S.f i+(j+1):Nat):Int):=by rw[iAdd64 (by omega)];push_cast;omega
  refine(Pointer_spec x1 _).mono ?_
  rintro _ h1' ⟨hh1,⟨hno,_⟩ | ⟨k',hk',hkn,rfl⟩⟩
  ·exact absurd ⟨by omega,by rw[hn1];omega⟩ hno
  obtain rfl:=hh1.symm
  obtain rfl:k'=S.f i+j:=by omega
  refine⟨_,_,rfl,IfB.dec (fun hpos=>?_) (fun hz=>?_)⟩
  ·rw[if_neg (by omega)]at hcl
   refine⟨_,rfl,_,row1.get0 rfl,?_⟩
   refine(Reset_spec x1 _).mono ?_
   rintro _ h2 ⟨rfl,t2⟩
   refine⟨_,rfl,IfB.ne (fun hne=>?_) (fun heq=>?_)⟩
   ·rw[if_pos hne]at hcl
    unfold Dv.wr
    rw[hcl,if_pos hne]
    exact⟨rfl,DevTo.trans g1 c1 t2⟩
   ·rw[if_neg (by omega)]at hcl
    obtain⟨F2,x2,g2,c2⟩:=DevTo.trans g1 c1 t2
    exact⟨m-1,by omega,j+1,F2,_,ez,by omega,hcl,by rw[reset_n,hn1],x2,g2,c2⟩
  ·rw[if_pos (by omega)]at hcl
   exact⟨m-1,by omega,j+1,F1,d1,ez,by omega,hcl,hn1,x1,g1,c1⟩
 have hj:S.f (i+1)-S.f i-j=0:=by omega
 rw[hj,Dv.clear]at hcl
 have s1:=c1.size
 have hF1:F1 sb=0:=by rw[g1 _ hsb];exact hF
 have rt1:Rd 1 h1 tl (t.map bv):=rt.eq fun a ha=>c1.block _ (tb a ha).2 (tb a ha).1
 intro h2
 have e2:Ext h1 h2:=alc_ext _ _ _
 have F1z:∀ b,h1.size≤b→F1 b=0:=fun b hb=>by
  rcases Nat.eq_zero_or_pos (F1 b) with h0 | h0
  ·exact h0
  ·have:=(x1.dom b (by omega)).2;omega
 let dq:Nat→BQ:=fun k=>((1,0),(cutSl tl ((40*k:Nat):Int) ((40*k+(chunkL t k).length:Nat):Int) (tl.cap:Int) 1,chunkL t k))
 let hq:BQ:=((3,0),(Sl.nil,[]))
 have hcl40:∀ k,40*k≤t.length→(chunkL t k).length=min 40 (t.length-40*k):=fun k hk=>by unfold chunkL;simp
 refine⟨fun l vat m h'=>∃ k:Nat,vat=((40*k:Nat):Int)∧m+k=nCh t∧Ext h1 h'∧Own h1.size 5 h' l (cq n (hq::(List.range k).map dq)),nCh t,
  ⟨0,rfl,rfl,e2,Own.alc h1 _ _ 1 5 rfl⟩,?_⟩
 rintro _ l _ m2 h3 ⟨k,rfl,hmk,e3,ol⟩
 have s3:=e3.size
 have hnc:nCh t=(t.length+39) / 40:=rfl
 have ll:l.len=k+1:=by have:=ol.len;rw[cq_length]at this;simp at this;omega
 refine IfB.dec (fun hlt=>?_) (fun hge=>?_)
 ·have hmin:(if (tl.len:Int)<(iAdd .i64 ((40*k:Nat):Int) (40:Int)) then (tl.len:Int) else (iAdd .i64 ((40*k:Nat):Int) (40:Int)))=((40*k+(chunkL t k).length:Nat):Int):=by
   have:=hcl40 k (by omega)
   rw[iAdd64 (by omega)]
   split <;> omega
  rw[hmin]
  have hck:=hcl40 k (by omega)
  refine⟨by omega,by omega,by omega,by omega,?_⟩
  intro h4
  refine AppC_own5 (news:=blkV 1 0 n 0 (dq k).2.1) (l:=cq n (hq::(List.range k).map dq)) rfl (ol.ext (alc_ext h3 _ _)) (by rw[size_alc];omega) rfl (RdC.alc h3 _ _) (blkV_ok _ _ _ _ _) (by rw[ll];simp only;omega) (by rw[ll];simp only;omega) fun r h5 o5 l5 k5 _ _=>?_
  refine⟨m2-1,by omega,k+1,by rw[iAdd64 (by omega)];push_cast;omega,by omega,(e3.toKeep.trans ((alc_ext h3 _ _).keep (by omega) |>.trans k5)).ext,?_⟩
  have:cq n (hq::(List.range (k+1)).map dq)=cq n (hq::(List.range k).map dq)++blkV 1 0 n 0 (dq k).2.1:=by
   rw[List.range_succ,List.map_append,← List.cons_append,cq_append];simp[cq,dq]
  rw[this];exact o5
 have hk:k=nCh t:=by omega
 subst hk
 refine(tail_spec (rt1.ext e3) (by omega)).mono ?_
 rintro _ h4 ⟨tt,rfl,ott,ltt,e4⟩
 refine⟨tt,rfl,?_⟩
 have s4:=e4.size
 have elb:iSub .i64 (l.len:Int) (1:Int)=((nCh t:Nat):Int):=by rw[iSub64 (by omega)];omega
 rw[elb]
 intro h5
 let cm:BQ:=((2,nCh t),(tt,tailL t))
 let L:List BQ:=(hq::(List.range (nCh t)).map dq) ++ [cm]
 refine AppC_own5 (news:=blkV 2 0 n (nCh t) tt) (l:=cq n (hq::(List.range (nCh t)).map dq)) rfl ((ol.ext e4).ext (alc_ext h4 _ _)) (by rw[size_alc];omega) rfl (RdC.alc h4 _ _) (blkV_ok _ _ _ _ _) (by rw[ll];simp only;omega) (by rw[ll];simp only;omega) fun s2 h6 o6 l6 k6 y6 _=>?_
 have hcqL:cq n (hq::(List.range (nCh t)).map dq)++blkV 2 0 n (nCh t) tt=cq n L:=by
  show _=cq n ((hq::(List.range (nCh t)).map dq) ++ [cm]);rw[cq_append];simp[cq,cm]
 rw[hcqL]at o6
 have e16:Ext h1 h6:=(e3.toKeep.trans ((e4.trans (alc_ext h4 _ _)).keep (by omega) |>.trans k6)).ext
 have hLl:L.length=nCh t+2:=by simp[L]
 have hLenc:L.map (encQ n)=encS n t:=by
  simp only[L,List.map_cons,List.map_append,List.map_map,List.map_nil,List.cons_append,encS]
  rfl
 have l6':s2.len=nCh t+2:=by simp only at l6;omega
 have s6:=e16.size
 have s46:h4.size≤h6.size:=by have:=k6.size;have:=(alc_ext h4 (blkV 2 0 n (nCh t) tt) 260).size;exact Nat.le_trans this (by assumption)
 have x6:=x1.ext e16
 have body:∀ y (hy:y<L.length),okB L[y].1.1 0 n L[y].1.2∧L[y].2.2.length≤40∧Rd 1 h6 L[y].2.1 (L[y].2.2.map bv)∧∀ a,L[y].2.1.base=some a→F1 a.block=0∧a.block<h6.size:=by
  intro y hy
  rcases Nat.lt_trichotomy y (nCh t+1) with h1' | h1' | h1'
  ·rcases Nat.eq_zero_or_pos y with h0 | h0
   ·subst h0
    exact⟨⟨by show(1:Int)≤((3:Nat):Int)∧((3:Nat):Int)≤4;omega,by omega,by omega,by show(0:Int)≤((0:Nat):Int)∧((0:Nat):Int)≤1048576;omega⟩,Nat.zero_le _,Rd.nil _ _,fun a ha=>(by cases ha)⟩
   ·obtain⟨z,rfl⟩:∃ z,y=z+1:=⟨y-1,by omega⟩
    have hLy:L[z+1]=dq z:=by
     simp only[L,List.cons_append,List.getElem_cons_succ]
     rw[List.getElem_append_left (by simp;omega),List.getElem_map,List.getElem_range]
    rw[hLy]
    have hcz:=hcl40 z (by omega)
    refine⟨⟨by show(1:Int)≤((1:Nat):Int)∧((1:Nat):Int)≤4;omega,by omega,by omega,by show(0:Int)≤((0:Nat):Int)∧((0:Nat):Int)≤1048576;omega⟩,chunkL_len t z,?_,fun a ha=>?_⟩
    ·have:=(rt1.ext e16).cutB (lo:=40*z) (hi:=40*z+(chunkL t z).length) (m:=tl.cap) (by omega) (by omega) (by omega)
     have hc:((t.drop (40*z)).take (40*z+(chunkL t z).length-40*z))=chunkL t z:=by
      rw[Nat.add_sub_cancel_left];unfold chunkL;rw[List.length_take]
      rcases Nat.le_total 40 (t.drop (40*z)).length with h | h
      ·rw[Nat.min_eq_left h]
      ·rw[Nat.min_eq_right h,List.take_of_length_le (Nat.le_refl _),List.take_of_length_le h]
     rw[hc]at this
     exact this
    ·obtain⟨a',ha',hab⟩:∃ a',tl.base=some a'∧a.block=a'.block:=by
      simp only[dq,cutSl]at ha
      split at ha
      ·exact⟨a,ha,rfl⟩
      ·obtain⟨a',ha',rfl⟩:=Option.map_eq_some_iff.1 ha
       exact⟨a',ha',add_block _ _⟩
     rw[hab,g1 _ (tb a' ha').2]
     exact⟨(tb a' ha').1,by have:=(tb a' ha').2;omega⟩
  ·subst h1'
   have hLy:L[nCh t+1]=cm:=by
    simp only[L,List.cons_append,List.getElem_cons_succ]
    rw[List.getElem_append_right (by simp)];simp
   rw[hLy]
   refine⟨⟨by show(1:Int)≤((2:Nat):Int)∧((2:Nat):Int)≤4;omega,by omega,by omega,by show(0:Int)≤((nCh t:Nat):Int)∧((nCh t:Nat):Int)≤_;omega⟩,by show(tailL t).length≤40;rw[tailL_len];omega,?_,fun a ha=>?_⟩
   ·refine(ott.toRd.ext (alc_ext h4 (blkV 2 0 n (nCh t) tt) 260)).eq fun a ha=>y6 _ (by have:=(ott.lt ha).2;have:=(alc_ext h4 (blkV 2 0 n (nCh t) tt) 260).size;exact Nat.lt_of_lt_of_le (by assumption) this) fun a' ha'=>?_
    have h1:=(ott.lt ha).1
    have h2:=(ol.lt ha').2
    omega
   ·have:=(ott.lt ha);exact⟨F1z _ (by omega),by omega⟩
  ·omega
 have rq6:=o6.toRd
 have hF6:∀ b,h1.size≤b→F1 b=0:=F1z
 refine⟨fun y m h'=>∃ (k:Nat) (F':Nat→Nat) (d':Dv),y=k∧m+k=L.length∧(d1.puts (S.f i) S.size 0 (encS n t)=d'.puts (S.f i) S.size k ((encS n t).drop k))∧DevAt lo F' h' db d'∧(∀ b,b<h6.size→F' b=F1 b)∧Chg F1 h6 h',L.length,
  ⟨0,F1,d1,rfl,rfl,by rw[List.drop_zero],x6,fun _ _=>rfl,.refl _ _⟩,?_⟩
 rintro _ _ m7 h7 ⟨k,F7,d7,rfl,hmk7,hp7,x7,g7,c7⟩
 have s7:=c7.size
 have row7:Row h7 sb (slC db S ts):=(row1.ext e16).chg c7 hF1
 have hsb7:=row7.lt
 have hF7:F7 sb=0:=by rw[g7 _ (by omega)];exact hF1
 have g07:∀ b,b<h.size→F7 b=F b:=fun b hb=>by rw[g7 b (by omega),g1 b hb]
 have c07:Chg F h h7:=(c1.trans g1 (e16.chg F1)).trans g1 c7
 refine IfB.dec (fun hlt=>?_) (fun hge=>?_)
 ·have hk:k<L.length:=by omega
  have hke:k<(encS n t).length:=by rw[encS_len];omega
  obtain⟨bok,bl,brd,bb⟩:=body k hk
  have rq7:Rd 5 h7 s2 (cq n L):=rq6.eq fun a ha=>c7.block _ (o6.lt ha).2 (hF6 _ (o6.lt ha).1)
  have brd7:Rd 1 h7 L[k].2.1 (L[k].2.2.map bv):=brd.eq fun a ha=>c7.block _ (bb a ha).2 (bb a ha).1
  refine ixq rq7 k rfl hk ?_
  intro h8
  refine put5 fun h9 e9 r9=>r9.get5 ?_
  refine(Encode_spec _ _ _ _ (brd7.ext e9)).mono ?_
  have henc:(encS n t)[k]=encOf (preL L[k].1.1 0 n L[k].1.2 L[k].2.2):=by
   have:(L.map (encQ n))[k]? =(encS n t)[k]?:=by rw[hLenc]
   rw[List.getElem?_map,List.getElem?_eq_getElem hk,List.getElem?_eq_getElem hke]at this
   exact(Option.some.inj this).symm
  rintro _ h10 ⟨e10,⟨hno,_⟩ | ⟨_,hno,_⟩ | ⟨_,_,p,rfl,op,lp⟩⟩
  ·exact absurd bok hno
  ·omega
  refine⟨p,_,rfl,?_⟩
  have hpe:encOf (preL ((L[k].1.1:Nat):Int).toNat (0:Int).toNat ((n:Nat):Int).toNat ((L[k].1.2:Nat):Int).toNat L[k].2.2)=(encS n t)[k]:=by
   rw[henc];simp only[Int.toNat_natCast];rfl
  rw[hpe]at op
  have e710:=e9.trans e10
  have x10:=x7.ext e710
  have row10:=row7.ext e710
  have s9:=e9.size
  have hd:(encS n t).drop k=(encS n t)[k]::(encS n t).drop (k+1):=List.drop_eq_getElem_cons hke
  rw[hd,Dv.puts]at hp7
  have ez:iAdd .i64 ((S.f i:Nat):Int) (iQuo .i64 (k:Int) (S.size:Int))=((S.f i+k / S.size:Nat):Int):=by
   have hq:k / S.size≤k:=Nat.div_le_self _ _
   have:(k:Int).tdiv (S.size:Int)=((k / S.size:Nat):Int):=by rw[Int.tdiv_eq_ediv_of_nonneg (by omega)];rfl
   rw[iQuo64 (by omega),this]
   generalize k / S.size=q at hq ⊢
   rw[iAdd64 (by omega)];push_cast;rfl
  refine⟨fun e h'=>e=(d7.append ((S.f i+k / S.size:Nat):Int) (encS n t)[k]).1.2∧DevTo lo F7 h7 h' db (d7.append ((S.f i+k / S.size:Nat):Int) (encS n t)[k]).2,?_,?_⟩
  ·refine .yes rfl ?_
   obtain⟨ob,hob,rob⟩:=row10.only
   refine⟨onlyB sb ob,sub_only hob,_,rfl,_,rob.get0 rfl,_,rfl,slC_f rob i rfl (by omega) ⟨_,rfl,_,rob.get rfl,by omega,?_⟩⟩
   rw[ez]
   refine(Append_spec x10 (by have:=c1.size;have:=e710.size;omega) _ op.toRd fun a ha=>?_).mono ?_
   ·rcases Nat.eq_zero_or_pos (F7 a.block) with h0 | h0
    ·exact h0
    ·have:=(x7.dom a.block (by omega)).2;have:=(op.lt ha).1;omega
   ·rintro _ h11 ⟨rfl,t11⟩
    refine⟨_,_,rfl,?_,rfl,DevTo.trans (fun _ _=>rfl) (e710.chg F7) t11⟩
    obtain⟨F11,x11,g11,c11⟩:=t11
    exact sub_only (by rw[c11.block sb row10.lt hF7];exact hob)
  ·rintro _ e h11 ⟨rfl,t11⟩
   refine IfB.ne (fun hne=>?_) (fun heq=>?_)
   ·rw[if_pos hne]at hp7
    unfold Dv.wr
    rw[hcl,if_neg (by simp),hp7,if_pos hne]
    exact⟨rfl,DevTo.trans g07 c07 t11⟩
   ·rw[if_neg (by omega)]at hp7
    obtain⟨F11,x11,g11,c11⟩:=DevTo.trans g7 c7 t11
    exact⟨m7-1,by omega,k+1,F11,_,by rw[iAdd64 (by omega)];push_cast;rfl,by omega,hp7,x11,g11,c11⟩
 ·have hk:k=L.length:=by omega
  rw[List.drop_of_length_le (by rw[encS_len];omega),Dv.puts]at hp7
  refine⟨_,rfl,_,row7.get0 rfl,?_⟩
  refine(Flush_spec x7).mono ?_
  rintro _ h8 ⟨rfl,t8⟩
  refine⟨_,rfl,?_⟩
  unfold Dv.wr
  rw[hcl,if_neg (by simp),hp7,if_neg (by simp)]
  exact⟨rfl,DevTo.trans g07 c07 t8⟩
def SlV.room(S:SlV):Int:=40*((if (S.f2:Int)-S.f1<(S.f1:Int)-S.f0 then (S.f2:Int)-S.f1 else (S.f1:Int)-S.f0)*S.size-2)
structure SlV.Ok(S:SlV):Prop where
 f01:S.f0≤S.f1
 f12:S.f1≤S.f2
 f2:S.f2≤64
 size:1≤S.size∧S.size≤192
 inn:S.inn≤1
 count:S.count<1099511627776
theorem SlotAt.dev{F F':Nat→Nat}{h h':Hp}{sb db:Nat}{S:SlV}{tx:List UInt8}{ts:Sl}(x:SlotAt F h sb db S tx ts)(c:Chg F h h')(g:∀ b,b<h.size→F' b=F b):SlotAt F' h' sb db S tx ts:=
 ⟨by rw[g _ x.row.lt];exact x.role,(x.chg c).row,(x.chg c).text,fun a ha=>⟨by rw[g _ (x.tb a ha).2.1];exact(x.tb a ha).1,((x.chg c).tb a ha).2⟩⟩
theorem SlV.Ok.f{S:SlV}(o:S.Ok)(i:Nat)(hi:i<2):S.f i≤S.f (i+1):=by
 have:=o.f01
 have:=o.f12
 rcases(show i=0∨i=1 by omega) with rfl | rfl
 ·show S.f0≤S.f1;omega
 ·show S.f1≤S.f2;omega
theorem SlV.Ok.f2'{S:SlV}(o:S.Ok)(i:Nat)(hi:i≤2):S.f i≤S.f2:=by
 have:=o.f01
 have:=o.f12
 rcases(show i=0∨i=1∨i=2 by omega) with rfl | rfl | rfl
 ·show S.f0≤S.f2;omega
 ·show S.f1≤S.f2;omega
 ·show S.f2≤S.f2;omega
theorem Room_spec{h:Hp}{sb db:Nat}{S:SlV}{ts:Sl}(row:Row h sb (slC db S ts))(o:S.Ok):HC Tryz.prog 157 #[sp sb] h fun r h'=>r=.int .i64 S.room∧h'=h:=by
 apply wc157
 unfold vc157
 have h1:=o.f01
 have h2:=o.f12
 have h3:=o.f2
 have h4:=o.size
 refine .no rfl ⟨_,rfl,_,row.get0 rfl,.no rfl ⟨_,rfl,?_⟩⟩
 refine slC_f row 1 rfl (by omega) ⟨_,rfl,slC_f row 0 rfl (by omega) ⟨_,rfl,slC_f row 2 rfl (by omega) ⟨_,rfl,slC_f row 1 rfl (by omega) ⟨_,rfl,_,row.get rfl,?_,rfl⟩⟩⟩⟩
 show Value.int .i64 (iMul .i64 (40:Int) (iSub .i64 (iMul .i64 (if (iSub .i64 (S.f2:Int) (S.f1:Int))<(iSub .i64 (S.f1:Int) (S.f0:Int)) then (iSub .i64 (S.f2:Int) (S.f1:Int)) else (iSub .i64 (S.f1:Int) (S.f0:Int))) (S.size:Int)) (2:Int)))=_
 have k1:iSub .i64 (S.f2:Int) (S.f1:Int)=(S.f2:Int)-S.f1:=iSub64 (by omega)
 have k2:iSub .i64 (S.f1:Int) (S.f0:Int)=(S.f1:Int)-S.f0:=iSub64 (by omega)
 rw[k1,k2]
 unfold SlV.room
 generalize hg:(if (S.f2:Int)-S.f1<(S.f1:Int)-S.f0 then (S.f2:Int)-S.f1 else (S.f1:Int)-S.f0)=g
 have hg0:0≤g∧g≤64:=by rw[← hg];split <;> omega
 have hm1:0≤g*S.size:=Int.mul_nonneg hg0.1 (by omega)
 have hm2:g*S.size≤64*192:=Int.mul_le_mul hg0.2 (by omega) (by omega) (by omega)
 have k3:iMul .i64 g (S.size:Int)=g*S.size:=iMul64 (by omega)
 rw[k3,iSub64 (by omega),iMul64 (by omega)]
theorem Dead_spec{h:Hp}{sb db:Nat}{S:SlV}{ts:Sl}(row:Row h sb (slC db S ts)):HC Tryz.prog 158 #[sp sb] h fun r h'=>r=.bool S.off∧h'=h:=by
 apply wc158
 unfold vc158
 exact .no rfl ⟨_,rfl,_,row.get0 rfl,.no rfl ⟨_,rfl,_,row.get rfl,rfl,rfl⟩⟩
theorem Load_spec{h:Hp}{sb db:Nat}{S:SlV}{ts:Sl}{tx:List UInt8}(row:Row h sb (slC db S ts))(rt:Rd 1 h ts (tx.map bv))(hm:tx.length≤1000000):HC Tryz.prog 68 #[sp sb] h fun r h'=>∃ t:Sl,r=.tuple #[.slice t.base t.len t.cap,.int .i64 (S.count:Int)]∧Own h.size 1 h' t (tx.map bv)∧t.len=tx.length∧Ext h h':=by
 apply wc68
 unfold vc68
 refine .no rfl ⟨_,rfl,ts,row.get rfl,_,rfl,_,row.get rfl,?_⟩
 refine(slClone_spec rt (by omega)).mono ?_
 rintro _ h1 ⟨u,rfl,ou,lu,e1⟩
 exact⟨u,rfl,e1,u,rfl,ou,lu,e1⟩
open Classical in
noncomputable def saveV (d:Dv) (S:SlV) (tx t:List UInt8):Int × Dv × SlV × List UInt8:=
 if S.room<(t.length:Int) then (7,d,S,tx) else
 if S.off=true then (12,d,S,tx) else
 if (d.wr (S.f (1-S.inn)) (S.f (1-S.inn+1)) S.size (S.count+1) t).1≠0 then ((d.wr (S.f (1-S.inn)) (S.f (1-S.inn+1)) S.size (S.count+1) t).1,(d.wr (S.f (1-S.inn)) (S.f (1-S.inn+1)) S.size (S.count+1) t).2,{ S with off:=true },tx) else
 (0,(d.wr (S.f (1-S.inn)) (S.f (1-S.inn+1)) S.size (S.count+1) t).2,{ S with inn:=1-S.inn,count:=S.count+1 },t)
def SaveR(lo:Nat)(F:Nat→Nat)(h:Hp)(sb db:Nat)(ts:Sl)(v:Int × Dv × SlV × List UInt8)(r:Value)(h':Hp):Prop:=
 r=.int .i64 v.1∧∃ F' ts',DevAt lo F' h' db v.2.1∧SlotAt F' h' sb db v.2.2.1 v.2.2.2 ts'∧h.size≤h'.size∧(∀ b,b<h.size→F' b=F b)∧(∀ b,b<h.size→F b=0→b≠sb→h'[b]? = h[b]?)∧∀ a,ts'.base=some a→ts.base=some a∨h.size≤a.block
theorem store3{h:Hp}{sb db:Nat}{S:SlV}{ts u:Sl}(row:Row h sb (slC db S ts)){v5 v7:Int}(i5 i7:Nat)(h5:v5=i5)(h7:v7=i7){K:Hp→Prop}
 (hK:∀ h',Row h' sb (slC db { S with inn:=i5,count:=i7 } u)→h'.size=h.size→(∀ b,b≠sb→h'[b]? = h[b]?)→K h') :
 ∃ a5:Addr,(some ⟨sb,0,none⟩:Option Addr)=some a5∧
  StOk h (a5.add 5)∧
  Lt (hset h (a5.add 5) (.int .i64 v5)) fun vh5=>
  True∧
  ∃ a6:Addr,(some ⟨sb,0,none⟩:Option Addr)=some a6∧
  StOk vh5 (a6.add 6)∧
  Lt (hset vh5 (a6.add 6) (.slice u.base u.len u.cap)) fun vh6=>
  True∧
  ∃ a7:Addr,(some ⟨sb,0,none⟩:Option Addr)=some a7∧
  StOk vh6 (a7.add 7)∧
  Lt (hset vh6 (a7.add 7) (.int .i64 v7)) fun vh7=>K vh7:=by
 subst h5 h7
 obtain⟨ok1,row1,y1,s1⟩:=row.set (i:=5) (by simp[slC]) (.int .i64 (i5:Int))
 obtain⟨ok2,row2,y2,s2⟩:=row1.set (i:=6) (by simp[slC]) (.slice u.base u.len u.cap)
 obtain⟨ok3,row3,y3,s3⟩:=row2.set (i:=7) (by simp[slC]) (.int .i64 (i7:Int))
 exact⟨_,rfl,ok1,trivial,_,rfl,ok2,trivial,_,rfl,ok3,hK _ row3 (by rw[s3,s2,s1]) fun b hb=>by rw[y3 b hb,y2 b hb,y1 b hb]⟩
theorem Save_spec{lo:Nat}{F:Nat→Nat}{h:Hp}{sb db:Nat}{d:Dv}{S:SlV}{tx t:List UInt8}{ts tl:Sl}(x:DevAt lo F h db d)(hlo:lo≤h.size)(sl:SlotAt F h sb db S tx ts)(o:S.Ok)(hn:S.f2≤d.n)(rt:Rd 1 h tl (t.map bv))(tb:∀ a,tl.base=some a→F a.block=0∧a.block<h.size∧a.block≠sb)(htl:t.length≤1000000) :
 HC Tryz.prog 103 #[sp sb,.slice tl.base tl.len tl.cap] h (SaveR lo F h sb db ts (saveV d S tx t)):=by
 apply wc103
 unfold vc103
 have ltl:=rt.lenB
 have hin:=o.inn
 have hct:=o.count
 have stay:∀ {e:Int} {v:Int × Dv × SlV × List UInt8},v=(e,d,S,tx)→SaveR lo F h sb db ts v (.int .i64 e) h:=by
  rintro e v rfl
  exact⟨rfl,F,ts,x,sl,Nat.le_refl _,fun _ _=>rfl,fun _ _ _ _=>rfl,fun a ha=>.inl ha⟩
 refine(Room_spec sl.row o).mono ?_
 rintro _ h1 ⟨rfl,hh⟩
 obtain rfl:=hh.symm
 refine⟨_,rfl,IfB.dec (fun hbig=>stay (by unfold saveV;rw[if_pos (by omega)])) (fun hfit=>?_)⟩
 refine(Dead_spec sl.row).mono ?_
 rintro _ h1 ⟨rfl,hh⟩
 obtain rfl:=hh.symm
 refine⟨_,rfl,IfB.intro (fun hoff=>stay (by unfold saveV;rw[if_neg (by omega),if_pos hoff])) (fun hon=>?_)⟩
 obtain⟨ob,hob,rob⟩:=sl.row.only
 have e1:iSub .i64 (1:Int) (S.inn:Int)=((1-S.inn:Nat):Int):=by rw[iSub64 (by omega)];omega
 have e2:iAdd .i64 (S.count:Int) (1:Int)=((S.count+1:Nat):Int):=by rw[iAdd64 (by omega)];push_cast;rfl
 refine⟨onlyB sb ob,sub_only hob,_,rfl,_,rob.get rfl,_,rfl,_,rob.get rfl,?_⟩
 rw[e1,e2]
 have hf:=o.f (1-S.inn) (by omega)
 have hf2:=o.f2' (1-S.inn+1) (by omega)
 refine(write_spec x hlo sl.row sl.role (1-S.inn) (by omega) hf (by omega) o.size.1 (S.count+1) (by omega) rt (fun a ha=>⟨(tb a ha).1,(tb a ha).2.1⟩) htl).mono ?_
 rintro _ h2 ⟨rfl,F2,x2,g2,c2⟩
 have s2:=c2.size
 have sl2:=sl.dev c2 g2
 have hsb:=sl.row.lt
 refine⟨_,rfl,sub_only (by rw[c2.block _ hsb sl.role];exact hob),?_⟩
 refine IfB.ne (fun hne=>⟨_,rfl,?_⟩) (fun heq=>⟨_,rfl,_,rfl,?_⟩)
 ·obtain⟨ok,row3,y3,s3⟩:=sl2.row.set (i:=8) (by simp[slC]) (.bool true)
  refine⟨ok,?_⟩
  have hv:saveV d S tx t=((d.wr (S.f (1-S.inn)) (S.f (1-S.inn+1)) S.size (S.count+1) t).1,(d.wr (S.f (1-S.inn)) (S.f (1-S.inn+1)) S.size (S.count+1) t).2,{ S with off:=true },tx):=by
   unfold saveV;rw[if_neg (by omega),if_neg (by rw[hon];simp),if_pos hne]
  rw[hv]
  refine⟨rfl,F2,ts,x2.keep (by rw[s3];exact Nat.le_refl _) fun b hb=>y3 b fun e=>hb (by rw[e];exact sl2.role),⟨sl2.role,row3,sl2.text.eq fun a ha=>y3 _ (sl2.tb a ha).2.2,fun a ha=>⟨(sl2.tb a ha).1,by rw[s3];exact(sl2.tb a ha).2.1,(sl2.tb a ha).2.2⟩⟩,by rw[s3];exact s2,g2,fun b hb hF hne=>by rw[y3 b hne,c2.block b hb hF],fun a ha=>.inl ha⟩
 ·have hv:saveV d S tx t=(0,(d.wr (S.f (1-S.inn)) (S.f (1-S.inn+1)) S.size (S.count+1) t).2,{ S with inn:=1-S.inn,count:=S.count+1 },t):=by
   unfold saveV;rw[if_neg (by omega),if_neg (by rw[hon];simp),if_neg (by omega)]
  rw[hv]
  have rt2:Rd 1 h2 tl (t.map bv):=rt.eq fun a ha=>c2.block _ (tb a ha).2.1 (tb a ha).1
  have clone:∀ {K:Value→Hp→Prop},(∀ (u:Sl) h3,Own h2.size 1 h3 u (t.map bv)→Ext h2 h3→Row h3 sb (slC db S ts)→K (.slice u.base u.len u.cap) h3)→HC Tryz.prog 80 #[.slice tl.base tl.len tl.cap] h2 K:=fun hK=>by
   refine(slClone_spec rt2 (by omega)).mono ?_
   rintro _ h3 ⟨u,rfl,ou,lu,e3⟩
   exact hK u h3 ou e3 (sl2.row.ext e3)
  have fin:∀ {u:Sl} {h3:Hp},Own h2.size 1 h3 u (t.map bv)→Ext h2 h3→Row h3 sb (slC db S ts) →
   ∃ a5:Addr,(some ⟨sb,0,none⟩:Option Addr)=some a5∧
   StOk h3 (a5.add 5)∧
   Lt (hset h3 (a5.add 5) (.int .i64 (iSub .i64 (1:Int) (S.inn:Int)))) fun vh5=>
   True∧
   ∃ a6:Addr,(some ⟨sb,0,none⟩:Option Addr)=some a6∧
   StOk vh5 (a6.add 6)∧
   Lt (hset vh5 (a6.add 6) (.slice u.base u.len u.cap)) fun vh6=>
   True∧
   ∃ a7:Addr,(some ⟨sb,0,none⟩:Option Addr)=some a7∧
   StOk vh6 (a7.add 7)∧
   Lt (hset vh6 (a7.add 7) (.int .i64 (iAdd .i64 (S.count:Int) (1:Int)))) fun vh7=>
   SaveR lo F h sb db ts (0,(d.wr (S.f (1-S.inn)) (S.f (1-S.inn+1)) S.size (S.count+1) t).2,{ S with inn:=1-S.inn,count:=S.count+1 },t) (.int .i64 (0:Int)) vh7:=by
   intro u h3 ou e3 row3
   have s3:=e3.size
   refine store3 row3 (1-S.inn) (S.count+1) e1 e2 fun h4 row4 s4 y4=>?_
   have hne:∀ a,u.base=some a→a.block≠sb:=fun a ha=>by have:=(ou.lt ha).1;omega
   refine⟨rfl,F2,u,(x2.ext e3).keep (by omega) fun b hb=>y4 b fun e=>hb (by rw[e];exact sl2.role),⟨sl2.role,row4,ou.toRd.eq fun a ha=>y4 _ (hne a ha),fun a ha=>⟨?_,by have:=(ou.lt ha).2;omega,hne a ha⟩⟩,by omega,g2,fun b hb hF hne=>by rw[y4 b hne,e3.block b (by omega),c2.block b hb hF],fun a ha=>.inr (by have:=(ou.lt ha).1;omega)⟩
   rcases Nat.eq_zero_or_pos (F2 a.block) with h0 | h0
   ·exact h0
   ·have:=(x2.dom a.block (by omega)).2;have:=(ou.lt ha).1;omega
  have g5:∀ {h3:Hp},Row h3 sb (slC db S ts)→hY h3 ((⟨sb,0,none⟩:Addr).add 5)=some (.int .i64 (S.inn:Int)):=fun r=>r.get rfl
  have g7:∀ {h3:Hp},Row h3 sb (slC db S ts)→hY h3 ((⟨sb,0,none⟩:Addr).add 7)=some (.int .i64 (S.count:Int)):=fun r=>r.get rfl
  refine⟨⟨_,g5 sl2.row,trivial,clone fun u h3 ou e3 row3=>⟨u,rfl,trivial,_,g7 row3,trivial,fin ou e3 row3⟩,_,g7 sl2.row,trivial,clone fun u h3 ou e3 row3=>⟨u,rfl,trivial,fin ou e3 row3⟩⟩,clone fun u h3 ou e3 row3=>⟨u,rfl,trivial,⟨_,g5 row3,trivial,_,g7 row3,trivial,fin ou e3 row3⟩,_,g7 row3,trivial,_,g5 row3,trivial,fin ou e3 row3⟩,_,g7 sl2.row,trivial,⟨_,g5 sl2.row,trivial,clone fun u h3 ou e3 row3=>⟨u,rfl,trivial,fin ou e3 row3⟩⟩,clone fun u h3 ou e3 row3=>⟨u,rfl,trivial,_,g5 row3,trivial,fin ou e3 row3⟩⟩
theorem enc_good{k n l:Nat}{bs:List UInt8}(hk:1≤k∧k≤4)(hn:n≤1099511627776)(hl:l≤1048576)(hb:bs.length≤40) :
 goodB (encOf (preL k 0 n l bs))∧dK (encOf (preL k 0 n l bs))=k∧dS (encOf (preL k 0 n l bs))=n∧dL (encOf (preL k 0 n l bs))=l∧dB (encOf (preL k 0 n l bs))=bs:=by
 obtain⟨g,gk,ge,gs,gl,gb⟩:=encL_good (k:=k) (e:=0) (s:=n) (l:=l) (bs:=bs) ⟨by omega,by omega,by omega,by omega⟩ hb
 exact⟨⟨encOf_length (by rw[preL_length];omega),g⟩,gk,gs,gl,gb⟩
theorem nCh_le{t:List UInt8}(ht:t.length≤1000000):nCh t≤25001:=by unfold nCh;omega
theorem chunks_take(t:List UInt8)(k:Nat):((List.range k).map (chunkL t)).flatten=t.take (40*k):=by
 induction k with
 | zero=>simp
 | succ k ih=>
   rw[List.range_succ,List.map_append,List.flatten_append,ih]
   simp only[List.map_cons,List.map_nil,List.flatten_cons,List.flatten_nil,List.append_nil,chunkL]
   rw[show 40*(k+1)=40*k+40 by omega,List.take_add]
theorem chunks_all(t:List UInt8):((List.range (nCh t)).map (chunkL t)).flatten=t:=by
 rw[chunks_take,List.take_of_length_le (by unfold nCh;omega)]
theorem readGo_data{n:Nat}(hn:n≤1099511627776)(t:List UInt8)(r:List (List UInt8)):∀ (k j:Nat) (acc:List UInt8),
 readGo ((List.range' j k).map (fun k=>encOf (preL 1 0 n 0 (chunkL t k)))++r) (j+1) acc n=readGo r (j+k+1) (acc++((List.range' j k).map (chunkL t)).flatten) n:=by
 intro k
 induction k with
 | zero=>intro j acc;simp
 | succ k ih=>
   intro j acc
   rw[List.range'_succ,List.map_cons,List.cons_append,readGo]
   obtain⟨g,gk,gs,gl,gb⟩:=enc_good (k:=1) (l:=0) (bs:=chunkL t j) (by omega) hn (by omega) (chunkL_len t j)
   rw[if_neg (fun h=>h g),if_neg (by omega),if_neg (by omega),if_pos gk,gb,ih (j+1)]
   rw[List.map_cons,List.flatten_cons,List.append_assoc,show j+1+k+1=j+(k+1)+1 by omega]
theorem readS_enc{n:Nat}(hn:n≤1099511627776){t:List UInt8}(ht:t.length≤1000000):readS (encS n t)=(t,n):=by
 unfold readS encS
 obtain⟨g,gk,gs,gl,gb⟩:=enc_good (k:=3) (l:=0) (bs:=[]) (by omega) hn (by omega) (by simp)
 rw[readGo,if_neg (fun h=>h g),if_pos ⟨rfl,gk⟩,gs]
 have:=readGo_data hn t [encOf (preL 2 0 n (nCh t) (tailL t))] (nCh t) 0 []
 rw[← List.range_eq_range']at this
 rw[show(0:Nat)+1=0+1 from rfl,this,List.nil_append,chunks_all]
 have hc:=nCh_le ht
 obtain⟨g2,gk2,gs2,gl2,gb2⟩:=enc_good (k:=2) (l:=nCh t) (bs:=tailL t) (by omega) hn (by omega) (by rw[tailL_len];omega)
 rw[readGo,if_neg (fun h=>h g2),if_neg (by omega),if_neg (by omega),if_neg (by omega),if_pos ⟨gk2,by omega,gb2⟩]
theorem oddB_dK(p:List UInt8):oddB p=decide (dK p<1∨3<dK p):=rfl
theorem enc_odd{n:Nat}(hn:n≤1099511627776){t:List UInt8}(ht:t.length≤1000000):∀ p∈encS n t,oddB p=false:=by
 intro p hp
 have hc:=nCh_le ht
 rw[oddB_dK,decide_eq_false_iff_not]
 unfold encS at hp
 rcases List.mem_cons.1 hp with rfl | hp
 ·have:=(enc_good (k:=3) (l:=0) (bs:=[]) (by omega) hn (by omega) (by simp)).2.1;omega
 ·rcases List.mem_append.1 hp with hp | hp
  ·obtain⟨k,_,rfl⟩:=List.mem_map.1 hp
   have:=(enc_good (k:=1) (l:=0) (bs:=chunkL t k) (by omega) hn (by omega) (chunkL_len t k)).2.1;omega
  ·simp only[List.mem_cons,List.not_mem_nil,or_false]at hp
   subst hp
   have:=(enc_good (k:=2) (l:=nCh t) (bs:=tailL t) (by omega) hn (by omega) (by rw[tailL_len];omega)).2.1;omega
theorem enc_64{n:Nat}{t:List UInt8}:∀ p∈encS n t,p.length=64:=by
 intro p hp
 unfold encS at hp
 rcases List.mem_cons.1 hp with rfl | hp
 ·exact encOf_length (by rw[preL_length];simp)
 ·rcases List.mem_append.1 hp with hp | hp
  ·obtain⟨k,_,rfl⟩:=List.mem_map.1 hp
   exact encOf_length (by rw[preL_length];have:=chunkL_len t k;omega)
  ·simp only[List.mem_cons,List.not_mem_nil,or_false]at hp
   subst hp
   exact encOf_length (by rw[preL_length,tailL_len];omega)
theorem wr_live{d:Dv}(l:Live d)(w:d.Wf){lo hi n:Nat}{t:List UInt8}(h1:lo≤hi)(h2:hi≤d.n)(hfit:nCh t+2≤(hi-lo)*d.size) :
 (d.wr lo hi d.size n t).1=0∧OkD d (d.wr lo hi d.size n t).2∧zRows (d.wr lo hi d.size n t).2 lo (hi-lo)=encS n t∧(∀ j,(j<lo∨hi≤j)→((d.wr lo hi d.size n t).2.z j).rows=(d.z j).rows)∧AllGood (d.wr lo hi d.size n t).2:=by
 obtain⟨c1,c2,c3⟩:=clear_live (hi-lo) d lo l w (by omega)
 have hs:=w.size
 have hd:(d.clear lo (hi-lo)).2.size=d.size:=c2.size
 obtain⟨p1,p2,p3,p4⟩:=puts_live (base:=lo) (cnt:=hi-lo) (ps:=encS n t) enc_64 (encS n t) (d.clear lo (hi-lo)).2 0 c2.live c2.wf (by rw[c2.n];omega) (by rw[encS_len,hd];exact hfit) rfl (Nat.zero_le _) (fun m hm=>by rw[c3,if_pos (by omega)];simp[part])
 rw[hd]at p1 p2 p3 p4
 unfold Dv.wr
 rw[if_neg (by omega),if_neg (by omega),flush_live p2.live]
 have ok:OkD d ((d.clear lo (hi-lo)).2.puts lo d.size 0 (encS n t)).2.tick.flushed:=OkD.trans c2 (OkD.trans p2 ⟨⟨p2.live.1,p2.live.dead⟩,p2.wf.tick.flushed,rfl,rfl⟩)
 refine⟨rfl,ok,?_,fun j hj=>?_,fun j=>?_⟩
 ·refine zRows_part (by rw[ok.size];omega) (by rw[encS_len,ok.size];exact hfit) fun m hm=>?_
  rw[Dv.flushed_z,ok.size]
  exact p3 m hm
 ·rw[Dv.flushed_z]
  show(((d.clear lo (hi-lo)).2.puts lo d.size 0 (encS n t)).2.z j).rows=_
  rw[p4 j (by omega),c3,if_neg (by omega)]
 ·rw[Dv.flushed_z]
structure SlInv(d:Dv)(f0 f1 f2 inn:Nat)(tx:List UInt8)(count:Nat):Prop where
 odd0:(zRows d f0 (f1-f0)).any oddB=false
 odd1:(zRows d f1 (f2-f1)).any oddB=false
 le1:inn≤1
 here:1≤count→readS (if inn=0 then zRows d f0 (f1-f0) else zRows d f1 (f2-f1))=(tx,count)
 there:1≤count→(readS (if inn=0 then zRows d f1 (f2-f1) else zRows d f0 (f1-f0))).2<count
 none:count=0→inn=1∧tx = []∧(readS (zRows d f0 (f1-f0))).2=0∧(readS (zRows d f1 (f2-f1))).2=0
theorem SlInv.pick{d:Dv}{f0 f1 f2 inn count:Nat}{tx:List UInt8}(v:SlInv d f0 f1 f2 inn tx count):pickS (zRows d f0 (f1-f0)) (zRows d f1 (f2-f1))=(inn,(tx,count)):=by
 have hi:=v.le1
 unfold pickS
 rcases Nat.eq_zero_or_pos count with h0 | h0
 ·obtain⟨rfl,rfl,h1,h2⟩:=v.none h0
  subst h0
  have hp:pick1 0 (readS (zRows d f0 (f1-f0))) (1,([],0))=(1,([],0)):=by unfold pick1;rw[if_neg (by simp only;omega)]
  rw[hp]
  unfold pick1;rw[if_neg (by simp only;omega)]
 ·have hh:=v.here h0
  have ht:=v.there h0
  rcases(show inn=0∨inn=1 by omega) with rfl | rfl
  ·rw[if_pos rfl]at hh ht
   have hp:pick1 0 (readS (zRows d f0 (f1-f0))) (1,([],0))=(0,(tx,count)):=by unfold pick1;rw[hh,if_pos (by simp only;omega)]
   rw[hp]
   unfold pick1;rw[if_neg (by simp only;omega)]
  ·rw[if_neg (by omega)]at hh ht
   have hp:(pick1 0 (readS (zRows d f0 (f1-f0))) (1,([],0))).2.2<count:=by
    unfold pick1
    split
    ·exact ht
    ·exact h0
   generalize pick1 0 (readS (zRows d f0 (f1-f0))) (1,([],0))=p at hp
   rw[hh]
   unfold pick1
   exact if_pos hp
theorem SlInv.same{d d':Dv}{f0 f1 f2 inn count:Nat}{tx:List UInt8}(v:SlInv d f0 f1 f2 inn tx count)(hs:d'.size=d.size)(hr:∀ j,f0≤j→j<f2→(d'.z j).rows=(d.z j).rows)(h01:f0≤f1)(h12:f1≤f2):SlInv d' f0 f1 f2 inn tx count:=by
 have e0:zRows d' f0 (f1-f0)=zRows d f0 (f1-f0):=zRows_congr hs _ _ fun j h1 h2=>hr j h1 (by omega)
 have e1:zRows d' f1 (f2-f1)=zRows d f1 (f2-f1):=zRows_congr hs _ _ fun j h1 h2=>hr j (by omega) (by omega)
 obtain⟨a,b,c,d1,e,f⟩:=v
 exact⟨by rw[e0];exact a,by rw[e1];exact b,c,by rw[e0,e1];exact d1,by rw[e0,e1];exact e,by rw[e0,e1];exact f⟩
theorem SlInv.new{d:Dv}{f0 f1 f2:Nat}(h:∀ j,f0≤j→j<f2→(d.z j).rows = [])(h01:f0≤f1)(h12:f1≤f2):SlInv d f0 f1 f2 1 [] 0:=by
 have e0:zRows d f0 (f1-f0) = []:=zRows_nil _ _ fun j h1 h2=>h j h1 (by omega)
 have e1:zRows d f1 (f2-f1) = []:=zRows_nil _ _ fun j h1 h2=>h j (by omega) (by omega)
 exact⟨by rw[e0];rfl,by rw[e1];rfl,by omega,fun h=>by omega,fun h=>by omega,fun _=>⟨rfl,rfl,by rw[e0];rfl,by rw[e1];rfl⟩⟩
theorem SlInv.wrote{d d':Dv}{f0 f1 f2 inn count:Nat}{tx t:List UInt8}(v:SlInv d f0 f1 f2 inn tx count)(h01:f0≤f1)(h12:f1≤f2)(hs:d'.size=d.size)(hc:count+1≤1099511627776)(ht:t.length≤1000000)
 (hw:zRows d' (if inn=0 then f1 else f0) (if inn=0 then f2-f1 else f1-f0)=encS (count+1) t) (ho:∀ j,f0≤j→j<f2 →¬ ((if inn=0 then f1 else f0)≤j∧j<(if inn=0 then f2 else f1))→(d'.z j).rows=(d.z j).rows) :
 SlInv d' f0 f1 f2 (1-inn) t (count+1):=by
 have hi:=v.le1
 have hodd:(encS (count+1) t).any oddB=false:=by
  rw[List.any_eq_false]
  intro p hp;rw[enc_odd hc ht p hp];simp
 rcases(show inn=0∨inn=1 by omega) with rfl | rfl
 ·rw[if_pos rfl,if_pos rfl]at hw
  have e0:zRows d' f0 (f1-f0)=zRows d f0 (f1-f0):=zRows_congr hs _ _ fun j h1 h2=>ho j h1 (by omega) (by simp;omega)
  refine⟨by rw[e0];exact v.odd0,by rw[hw];exact hodd,by omega,fun _=>?_,fun _=>?_,fun h=>by omega⟩
  ·rw[if_neg (by omega),hw];exact readS_enc hc ht
  ·rw[if_neg (by omega),e0]
   rcases Nat.eq_zero_or_pos count with h0 | h0
   ·have:=(v.none h0).1;omega
   ·have:=v.here h0;rw[if_pos rfl]at this;rw[this];simp only;omega
 ·rw[if_neg (by omega),if_neg (by omega)]at hw
  have e1:zRows d' f1 (f2-f1)=zRows d f1 (f2-f1):=zRows_congr hs _ _ fun j h1 h2=>ho j (by omega) (by omega) (by simp;omega)
  refine⟨by rw[hw];exact hodd,by rw[e1];exact v.odd1,by omega,fun _=>?_,fun _=>?_,fun h=>by omega⟩
  ·rw[if_pos (by omega),hw];exact readS_enc hc ht
  ·rw[if_pos (by omega),e1]
   rcases Nat.eq_zero_or_pos count with h0 | h0
   ·have:=(v.none h0).2.2.2;omega
   ·have:=v.here h0;rw[if_neg (by omega)]at this;rw[this];simp only;omega
structure NxD(d e:Dv):Prop where
 wf:e.Wf
 n:e.n=d.n
 size:e.size=d.size
theorem NxD.trans{a b c:Dv}(x:NxD a b)(y:NxD b c):NxD a c:=⟨y.wf,y.n.trans x.n,y.size.trans x.size⟩
theorem NxD.tick{d:Dv}(w:d.Wf):NxD d d.tick:=⟨w.tick,rfl,rfl⟩
theorem append_any{d:Dv}{k:Nat}(hk:k<d.n){p:List UInt8}(hp:p.length=64)(hr:(d.z k).rows.length<d.size) :
 d.append (k:Int) p=(((0:Int),(12:Int)),d.tick)∨d.append (k:Int) p=((((d.z k).rows.length:Int),(0:Int)),d.tick.setZ k ⟨(d.z k).rows ++ [p],(d.z k).good⟩):=by
 unfold Dv.append
 rw[if_neg (by omega),if_neg (by omega),Int.toNat_natCast]
 by_cases hd:d.dead=true
 ·rw[if_pos hd];exact .inl rfl
 ·rw[if_neg hd,if_neg (by omega)];exact .inr rfl
theorem flush_any(d:Dv):d.flush=(12,d.tick)∨d.flush=(0,d.tick.flushed):=by
 unfold Dv.flush
 by_cases hd:d.dead=true
 ·rw[if_pos hd];exact .inl rfl
 ·rw[if_neg hd];exact .inr rfl
theorem Dv.empty_z{d:Dv}(w:d.Wf){z:Nat}(hz:(d.z z).rows.length=0):d.z z=⟨[],0⟩:=by
 have hg:=(w.zone z).good
 have hr:(d.z z).rows = []:=List.eq_nil_of_length_eq_zero hz
 cases hd:d.z z with
 | mk rows good=>rw[hd]at hr hg;simp only at hr hg;subst hr;simp at hg;subst hg;rfl
theorem puts_any{base cnt:Nat}{ps:List (List UInt8)}(h64:∀ p∈ps,p.length=64):∀ (r:List (List UInt8)) (d:Dv) (k:Nat),d.Wf→base+cnt≤d.n→ps.length≤cnt*d.size→ps.drop k=r→k≤ps.length→(∀ m,m<cnt→(d.z (base+m)).rows=part d.size (ps.take k) m) →
 NxD d (d.puts base d.size k r).2∧∃ q,k≤q∧q≤ps.length∧((d.puts base d.size k r).1=0∧q=ps.length∨(d.puts base d.size k r).1=12)∧(∀ m,m<cnt→((d.puts base d.size k r).2.z (base+m)).rows=part d.size (ps.take q) m∧((d.puts base d.size k r).2.z (base+m)).good=(d.z (base+m)).good)∧∀ j,(j<base∨base+cnt≤j)→(d.puts base d.size k r).2.z j=d.z j:=by
 intro r
 induction r with
 | nil=>
   intro d k w hn hc hr hk hz
   have hkl:k=ps.length:=by have:=congrArg List.length hr;simp at this;omega
   exact⟨⟨w,rfl,rfl⟩,k,Nat.le_refl _,hk,.inl ⟨rfl,hkl⟩,fun m hm=>⟨hz m hm,rfl⟩,fun j _=>rfl⟩
 | cons p r ih=>
   intro d k w hn hc hr hk hz
   have hkl:k<ps.length:=by have:=congrArg List.length hr;simp at this;omega
   have hs:=w.size
   have hpk:ps[k]=p:=by
    have:=List.drop_eq_getElem_cons hkl
    rw[hr]at this
    exact(List.cons.inj this).1.symm
   have hr':ps.drop (k+1)=r:=by
    have:=List.drop_eq_getElem_cons hkl
    rw[hr]at this
    exact(List.cons.inj this).2.symm
   have hq:k / d.size<cnt:=by
    rw[Nat.div_lt_iff_lt_mul (by omega)];omega
   have hzq:=hz _ hq
   have hlt:=part_len (size:=d.size) (ps:=ps) (k:=k) (by omega) hkl
   have hb:base+k / d.size<d.zs.length:=by have:=w.n;omega
   have hp64:p.length=64:=h64 p (by rw[← hpk];exact List.getElem_mem hkl)
   rcases append_any (d:=d) (k:=base+k / d.size) (by have:=w.n;omega) hp64 (by rw[hzq];exact hlt) with happ | happ
   ·rw[Dv.puts,happ,if_pos (by simp)]
    exact⟨NxD.tick w,k,Nat.le_refl _,hk,.inr rfl,fun m hm=>⟨hz m hm,rfl⟩,fun j _=>rfl⟩
   rw[Dv.puts,happ,if_neg (by simp)]
   have hzw:=w.zone (base+k / d.size)
   let d':=d.tick.setZ (base+k / d.size) ⟨(d.z (base+k / d.size)).rows ++ [p],(d.z (base+k / d.size)).good⟩
   have w':d'.Wf:=w.tick.setZ _ ⟨by rw[List.length_append,hzq];simp;show _≤d.size;omega,by have:=hzw.good;simp;omega,fun y hy=>by
    rcases List.mem_append.1 hy with hy | hy
    ·exact hzw.each y hy
    ·simp only[List.mem_cons,List.not_mem_nil,or_false]at hy
     subst hy;exact hp64⟩
   have hz':∀ m,m<cnt→(d'.z (base+m)).rows=part d'.size (ps.take (k+1)) m:=fun m hm=>by
    show((d.tick.setZ _ _).z (base+m)).rows=part d.size _ m
    rw[part_snoc (by omega) hkl,d.tick.z_set hb,hpk]
    by_cases e:m=k / d.size
    ·subst e;rw[if_pos rfl,if_pos rfl,hzq]
    ·rw[if_neg (by omega),if_neg e];exact hz m hm
   obtain⟨h1,q,hkq,hql,h2,h3,h4⟩:=ih d' (k+1) w' hn hc hr' hkl hz'
   refine⟨NxD.trans ⟨w',rfl,rfl⟩ h1,q,by omega,hql,h2,fun m hm=>⟨(h3 m hm).1,?_⟩,fun j hj=>?_⟩
   ·rw[show((d.tick.setZ (base+k / d.size) ⟨(d.z (base+k / d.size)).rows ++ [p],(d.z (base+k / d.size)).good⟩).puts base d.size (k+1) r)=d'.puts base d'.size (k+1) r from rfl,(h3 m hm).2]
    show((d.tick.setZ _ _).z (base+m)).good=_
    rw[d.tick.z_set hb]
    by_cases e:base+m=base+k / d.size
    ·rw[if_pos e,e]
    ·rw[if_neg e];rfl
   ·show(Dv.puts d' base d'.size (k+1) r).2.z j=_
    rw[h4 j hj]
    show(d.tick.setZ _ _).z j=_
    rw[d.tick.z_set hb,if_neg (by have h0:base≤base+k / d.size:=Nat.le_add_right _ _;omega)];rfl
theorem zone_crash{size:Nat}{z:Zn}(w:z.Wf size)(px tx:Option Int):∃ a t,(z.crash px tx).rows=z.rows.take a++t∧z.good≤a∧a≤z.rows.length∧(t = []∨a<z.rows.length∧t = [tornL (z.rows.getD a [])]):=by
 refine⟨z.keep px,z.tornT (z.keep px) tx,rfl,(Zn.keep_le w px).1,(Zn.keep_le w px).2,?_⟩
 unfold Zn.tornT
 split
 ·exact .inl rfl
 ·split
  ·rename_i h;exact .inr ⟨h.1,rfl⟩
  ·exact .inl rfl
theorem crash_good{d:Dv}(w:d.Wf)(picks torn:List Int):AllGood (d.crash picks torn):=by
 intro j
 by_cases hj:j<d.n
 ·rw[Dv.crash_z _ _ _ hj];rfl
 ·have h2:(d.crash picks torn).z j=⟨[],0⟩:=by unfold Dv.z;rw[List.getD_eq_getElem?_getD,List.getElem?_eq_none (by show(mkZ d.n _).length≤j;rw[mkZ_length];omega)];rfl
  rw[h2];rfl
theorem crash_ok{d:Dv}(w:d.Wf)(picks torn:List Int):OkD d (d.crash picks torn):=⟨⟨rfl,rfl⟩,w.crash picks torn,rfl,rfl⟩
theorem crash_keep{d:Dv}(w:d.Wf)(picks torn:List Int){j:Nat}(hg:(d.z j).good=(d.z j).rows.length):((d.crash picks torn).z j).rows=(d.z j).rows:=by
 by_cases hj:j<d.n
 ·rw[Dv.crash_z _ _ _ hj]
  obtain⟨a,t,h1,h2,h3,h4⟩:=zone_crash (w.zone j) (pickL picks j) (pickL torn j)
  obtain rfl:a=(d.z j).rows.length:=by omega
  rcases h4 with rfl | ⟨h4,_⟩
  ·rw[h1,List.take_length,List.append_nil]
  ·omega
 ·have h1:d.z j=⟨[],0⟩:=by unfold Dv.z;rw[List.getD_eq_getElem?_getD,List.getElem?_eq_none (by have:=w.n;omega)];rfl
  have h2:(d.crash picks torn).z j=⟨[],0⟩:=by unfold Dv.z;rw[List.getD_eq_getElem?_getD,List.getElem?_eq_none (by show(mkZ d.n _).length≤j;rw[mkZ_length];omega)];rfl
  rw[h1,h2]
theorem torn_dK{p:List UInt8}(h:p.length=64):dK (tornL p)=dK p:=by
 unfold dK tornL
 rw[List.getD_eq_getElem?_getD,List.getD_eq_getElem?_getD,List.getElem?_append_left (by rw[List.length_take];omega),List.getElem?_take_of_lt (by omega)]
end Go.Proofs.YtdpdkpfnfllipaaGreatDoor
