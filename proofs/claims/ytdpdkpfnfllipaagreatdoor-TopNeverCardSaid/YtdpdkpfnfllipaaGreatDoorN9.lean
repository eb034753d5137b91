/- A part of the proof, no condition. -/
import Derived.Shelf.SlSortCmp.NoneTotal
import Derived.Shelf.SlSortCmp.WholeK
import Derived.Shelf.SlicesG.Cmp
import Derived.Test.YtdpdkpfnfllipaaGreatDoorN8
set_option linter.unusedVariables false
set_option linter.unusedSimpArgs false
namespace Go.Proofs.YtdpdkpfnfllipaaGreatDoor
section
open Go.Shelf Go.RowKit Go.Lib Go.Sort
def sortIv_ren:Go.Shelf.Ren:=⟨fun | 6=>363 | 15=>231 | 14=>383 | 28=>280 | 29=>281 | 20=>391 | 21=>392 | 22=>393 | 23=>394 | 24=>395 | 25=>396 | 26=>397 | 27=>398 | 46=>405 | 47=>324 | 48=>325 | 49=>406 | 50=>407 | 57=>412 | n=>n,fun | 22=>400 | 24=>232 | 25=>440 | 3=>3 | 39=>261 | 0=>0 | 53=>199 | 55=>196 | 4=>4 | 46=>353 | 45=>352 | 50=>127 | 5=>5 | 9=>9 | 66=>394 | 70=>398 | 76=>435 | 77=>436 | n=>n,fun | n=>n⟩
theorem sortIv:Go.Proofs.SlLaysF0.n6 Tryz.prog sortIv_ren:=
 { mixed:=by kernel_rfl,f6:=⟨Tryz.f363.name,by decide,Tryz.func363.trans (congrArg some (by kernel_rfl))⟩,f14:=⟨Tryz.f383.name,by decide,Tryz.func383.trans (congrArg some (by kernel_rfl))⟩,f15:=Tryz.func231.trans (congrArg some (by kernel_rfl)),f20:=⟨Tryz.f391.name,by decide,Tryz.func391.trans (congrArg some (by kernel_rfl))⟩,f21:=⟨Tryz.f392.name,by decide,Tryz.func392.trans (congrArg some (by kernel_rfl))⟩,f22:=⟨Tryz.f393.name,by decide,Tryz.func393.trans (congrArg some (by kernel_rfl))⟩,f23:=⟨Tryz.f394.name,by decide,Tryz.func394.trans (congrArg some (by kernel_rfl))⟩,f24:=⟨Tryz.f395.name,by decide,Tryz.func395.trans (congrArg some (by kernel_rfl))⟩,f25:=⟨Tryz.f396.name,by decide,Tryz.func396.trans (congrArg some (by kernel_rfl))⟩,f26:=⟨Tryz.f397.name,by decide,Tryz.func397.trans (congrArg some (by kernel_rfl))⟩,f27:=⟨Tryz.f398.name,by decide,Tryz.func398.trans (congrArg some (by kernel_rfl))⟩,f28:=Tryz.func280.trans (congrArg some (by kernel_rfl)),f29:=Tryz.func281.trans (congrArg some (by kernel_rfl)),f46:=⟨Tryz.f405.name,by decide,Tryz.func405.trans (congrArg some (by kernel_rfl))⟩,f47:=Tryz.func324.trans (congrArg some (by kernel_rfl)),f48:=Tryz.func325.trans (congrArg some (by kernel_rfl)),f49:=⟨Tryz.f406.name,by decide,Tryz.func406.trans (congrArg some (by kernel_rfl))⟩,f50:=⟨Tryz.f407.name,by decide,Tryz.func407.trans (congrArg some (by kernel_rfl))⟩,
   f57:=⟨Tryz.f412.name,by decide,Tryz.func412.trans (congrArg some (by kernel_rfl))⟩,t0:=Tryz.underlying0,a0:=Tryz.isAgg0,z0:=Tryz.sizeOf0,v0:=Tryz.zeroValue0,t3:=Tryz.underlying3,a3:=Tryz.isAgg3,z3:=Tryz.sizeOf3,v3:=Tryz.zeroValue3,t4:=Tryz.underlying4,a4:=Tryz.isAgg4,z4:=Tryz.sizeOf4,v4:=Tryz.zeroValue4,t5:=Tryz.underlying5,a5:=Tryz.isAgg5,z5:=Tryz.sizeOf5,v5:=Tryz.zeroValue5,t9:=Tryz.underlying9,a9:=Tryz.isAgg9,z9:=Tryz.sizeOf9,v9:=Tryz.zeroValue9,t22:=Tryz.underlying400,a22:=Tryz.isAgg400,z22:=Tryz.sizeOf400,v22:=Tryz.zeroValue400,t25:=Tryz.underlying440,a25:=Tryz.isAgg440,z25:=Tryz.sizeOf440,v25:=Tryz.zeroValue440,t39:=Tryz.underlying261,a39:=Tryz.isAgg261,z39:=Tryz.sizeOf261,v39:=Tryz.zeroValue261,t45:=Tryz.underlying352,a45:=Tryz.isAgg352,z45:=Tryz.sizeOf352,v45:=Tryz.zeroValue352,t46:=Tryz.underlying353,a46:=Tryz.isAgg353,z46:=Tryz.sizeOf353,v46:=Tryz.zeroValue353,t50:=Tryz.underlying127,a50:=Tryz.isAgg127,z50:=Tryz.sizeOf127,v50:=Tryz.zeroValue127,t53:=Tryz.underlying199,a53:=Tryz.isAgg199,z53:=Tryz.sizeOf199,v53:=Tryz.zeroValue199,t55:=Tryz.underlying196,a55:=Tryz.isAgg196,z55:=Tryz.sizeOf196,v55:=Tryz.zeroValue196,t66:=Tryz.underlying394,a66:=Tryz.isAgg394,z66:=Tryz.sizeOf394,v66:=Tryz.zeroValue394,t70:=Tryz.underlying398,a70:=Tryz.isAgg398,z70:=Tryz.sizeOf398,v70:=Tryz.zeroValue398,t76:=Tryz.underlying435,a76:=Tryz.isAgg435,
   z76:=Tryz.sizeOf435,v76:=Tryz.zeroValue435,t77:=Tryz.underlying436,a77:=Tryz.isAgg436,z77:=Tryz.sizeOf436,v77:=Tryz.zeroValue436 }
def cmpInt_ren:Go.Shelf.Ren:=⟨fun | 5=>305 | 7=>328 | n=>n,fun | 22=>3 | 3=>3 | 4=>4 | n=>n,fun | n=>n⟩
theorem cmpInt:Go.Proofs.SlLaysC2.n5 Tryz.prog cmpInt_ren:=
 { mixed:=by kernel_rfl,f5:=⟨Tryz.f305.name,by decide,Tryz.func305.trans (congrArg some (by kernel_rfl))⟩,f7:=⟨Tryz.f328.name,by decide,Tryz.func328.trans (congrArg some (by kernel_rfl))⟩,t3:=Tryz.underlying3,a3:=Tryz.isAgg3,z3:=Tryz.sizeOf3,v3:=Tryz.zeroValue3,t4:=Tryz.underlying4,a4:=Tryz.isAgg4,z4:=Tryz.sizeOf4,v4:=Tryz.zeroValue4,t22:=Tryz.underlying3,a22:=Tryz.isAgg3,z22:=Tryz.sizeOf3,v22:=Tryz.zeroValue3 }
def encE(x:Int × Int):List Value:=[.int .i64 x.1,.int .i64 x.2]
set_option maxHeartbeats 1000000 in
theorem joined_cmp (x y:Int × Int) (W:World):Calls Tryz.prog 364 #[.agg #[.int .i64 x.1,.int .i64 x.2],.agg #[.int .i64 y.1,.int .i64 y.2]] W fun e w'=>e=.returned (.int .i64 (Lib.compareInt x.1 y.1))∧∃ q os',w'=grow (W.drewN q) os':=by
 have hcon:=fun W'=>AnyG.cmp_Compare_int cmpInt x.1 y.1 W'
 change ∀ W',Calls Tryz.prog 305 _ _ _ at hcon
 generalize Lib.compareInt x.1 y.1=r at hcon ⊢
 go_enter Tryz.func364,Tryz.ntmps364
 go_wp2_with (go_at_call 305;refine(hcon _).mono ?_;rintro e w' ⟨rfl,rfl⟩)
 go_ret
 exact⟨rfl,0,_,by rw[alloc_eq_grow,alloc_eq_grow,grow_grow];rfl⟩
theorem ltLo(x y:Int × Int):ltOf (fun x y:Int × Int=>Lib.compareInt x.1 y.1) x y=decide (x.1<y.1):=by
 unfold ltOf Lib.compareInt
 by_cases h1:x.1<y.1
 ·simp[h1]
 ·by_cases h2:y.1<x.1 <;> simp[h1,h2]
theorem swoLo:SWO (ltOf fun x y:Int × Int=>Lib.compareInt x.1 y.1) where
 irrefl x:=by rw[ltLo];simp
 trans x y z h1 h2:=by rw[ltLo]at *;simp at *;omega
 ntrans x y z h1 h2:=by rw[ltLo]at *;simp at *;omega
theorem flatE(d:Array (Int × Int)):(flatK encE 2 d).toList=e2 d.toList:=by
 apply List.ext_getElem?
 intro j
 by_cases hj:j<d.size*2
 ·have h1:(flatK encE 2 d)[j]! =(encE d[j / 2]!)[j % 2]! := get_flatK encE 2 d j hj
  have h2:j / 2<d.size:=by omega
  have h3:(flatK encE 2 d).toList[j]? = some ((flatK encE 2 d)[j]!):=by
   rw[Array.getElem?_toList,Array.getElem?_eq_getElem (by rw[size_flatK];exact hj),getElem!_pos _ j (by rw[size_flatK];exact hj)]
  have h4:d.toList[j / 2]? = some d[j / 2]! := by rw[Array.getElem?_toList,Array.getElem?_eq_getElem h2,getElem!_pos d (j / 2) h2]
  rw[h3,h1]
  rcases(by omega:j % 2=0∨j % 2=1) with h | h
  ·rw[h,show j=j / 2*2 by omega,e2_get0]
   rw[show j / 2*2 / 2=j / 2 by omega,h4];rfl
  ·rw[h,show j=j / 2*2+1 by omega,e2_get1]
   rw[show(j / 2*2+1) / 2=j / 2 by omega,h4];rfl
 ·rw[List.getElem?_eq_none (by rw[Array.length_toList,size_flatK];omega),List.getElem?_eq_none (by rw[e2_length,Array.length_toList];omega)]
theorem sort_base{P:Program}{f:Nat}{args:Array Value}{h:Hp}{R:Value→Hp→Prop}(ok:okFn P f=true)(H:∀ w:World,w.heap=h→Calls P f args w fun e w'=>∃ v,e=.returned v∧Same w w'∧R v w'.heap):HC P f args h R:=⟨ok,H⟩
theorem eSort_spec{lo:Nat}{h:Hp}{s:Sl}{L:List (Int × Int)}(o:Own lo 2 h s (e2 L))(hmax:L.length≤1000000):HC Tryz.prog 363 #[.slice s.base s.len s.cap,.func (.func 364) #[] #[]] h fun r h'=>
 r=.tuple #[]∧∃ L',L'.length=L.length∧Own lo 2 h' s (e2 L')∧h.size≤h'.size∧∀ b,b<h.size→(∀ a,s.base=some a→b≠a.block)→h'[b]? = h[b]?:=by
 refine sort_base (by kernel_rfl) fun w hw=>?_
 subst hw
 have hl:s.len=L.length:=o.toRd.lenE
 rcases o.row with ⟨h1,h2⟩ | ⟨b,c,e,h1,h2,h3,h4,h5⟩
 ·have h0:s.len=0:=by have:=o.le;omega
  have hc:=AnyF.slices_SortFunc_none sortIv s.base s.cap (.func (.func 364) #[] #[]) w
  rw[← h0]at hc
  refine(show Calls Tryz.prog 363 _ w _ from hc).mono ?_
  rintro e w' ⟨rfl,rfl⟩
  exact⟨_,rfl,.refl _,rfl,L,rfl,o,Nat.le_refl _,fun _ _ _=>rfl⟩
 ·have hcs:∀ (j:Nat),j<L.length*2→c[j]? =(e2 L)[j]?:=fun j hj=>by
   rw[← h5,List.getElem?_take,if_pos (by omega),Array.getElem?_toList]
  have hH:HoldsK encE 2 w b 0 L.toArray:=by
   intro j hj
   rw[size_flatK]at hj
   simp only[List.size_toArray]at hj
   refine⟨?_,by rw[hfroz_heap,hfroz_blk h3]⟩
   rw[hcell_heap,Nat.zero_add,hcell_blk h3,hcs j hj]
   have:=flatE L.toArray
   simp only at this
   rw[← this,Array.getElem?_toList,Array.getElem?_eq_getElem (by rw[size_flatK];simpa using hj),getElem!_pos _ j (by rw[size_flatK];simpa using hj)]
   rfl
  have hcon:=AnyQ.slices_SortFunc sortIv 2 Tryz.isAgg232 Tryz.sizeOf232 encE (fun _=>rfl) (fun x v hv=>by simp[encE]at hv;rcases hv with rfl | rfl <;> rfl) (fun x y=>Lib.compareInt x.1 y.1) swoLo 364 #[] b 0 s.cap L.toArray w (enters_of Tryz.func364 (by kernel_rfl) rfl) (fun _ _ _ _ x y=>joined_cmp x y _) hH (blk_lt h3) (by simp;omega)
  have hargs:#[Value.slice s.base s.len s.cap,.func (.func 364) #[] #[]] = #[.slice (some ⟨b,0,none⟩) L.toArray.size s.cap,.func (.func 364) #[] #[]]:=by rw[h1,hl];simp
  rw[hargs]
  refine(show Calls Tryz.prog 363 _ w _ from hcon).mono ?_
  rintro e' w' ⟨rfl,d',n,os,hp,_,rfl⟩
  have hd:d'.size=L.length:=by have:=hp.1;simpa using this
  have hblk:(w.heap.modify b (onCells (putCells id 0 (flatK encE 2 d'))))[b]? = some (.cells (putCells id 0 (flatK encE 2 d') c) e (0,0)):=by
   rw[Array.getElem?_modify,if_pos rfl,h3];rfl
  have hheap:(sortWorldK encE 2 w b 0 n d' os).heap=w.heap.modify b (onCells (putCells id 0 (flatK encE 2 d')))++os:=rfl
  have hold:∀ k,k<w.heap.size→(sortWorldK encE 2 w b 0 n d' os).heap[k]? =(w.heap.modify b (onCells (putCells id 0 (flatK encE 2 d'))))[k]?:=fun k hk=>by
   rw[hheap,Array.getElem?_append_left (by simpa using hk)]
  refine⟨_,rfl,⟨rfl,rfl,rfl⟩,rfl,d'.toList,by simpa using hd,⟨by rw[e2_length,Array.length_toList,hd,hl],o.le,.inr ⟨b,_,e,h1,h2,(hold b (blk_lt h3)).trans hblk,by simpa [putCells] using h4,?_⟩⟩,by rw[hheap];simp,fun k hk hne=>?_⟩
  ·have hcl:L.length*2≤c.size:=by rw[h4];have:=o.le;omega
   rw[← flatE]
   apply List.ext_getElem?
   intro j
   rw[List.getElem?_take]
   by_cases hj:j<s.len*2
   ·rw[if_pos hj,Array.getElem?_toList,Array.getElem?_toList]
    have hj2:j<(flatK encE 2 d').size:=by rw[size_flatK,hd];omega
    rw[Array.getElem?_eq_getElem hj2]
    have hj3:j<d'.size*2:=by rw[hd];omega
    simp[putCells,hj3,show j<c.size by omega]
   ·rw[if_neg hj,List.getElem?_eq_none (by rw[Array.length_toList,size_flatK,hd];omega)]
  ·rw[hold k hk,Array.getElem?_modify,if_neg (fun e=>hne _ h1 e.symm)]
end
theorem e2_set1:∀ (l:List (Int × Int)) (i:Nat) (hi:i<l.length) (v:Int),(e2 l).set (i*2+1) (.int .i64 v)=e2 (l.set i (l[i].1,v))
 | p::r,0,_,v=>rfl
 | p::r,i+1,hi,v=>by
   rw[e2_cons,show(i+1)*2+1=i*2+1+1+1 by omega,List.set_cons_succ,List.set_cons_succ,e2_set1 r i (by simpa using hi) v]
   rfl
theorem joined_spec{h:Hp}{s:Sl}{L:List (Int × Int)}(r:Rd 2 h s (e2 L))(hmax:L.length≤1000):HC Tryz.prog 332 #[.slice s.base s.len s.cap] h fun r h'=>∃ (t:Sl) (L':List (Int × Int)),r=.slice t.base t.len t.cap∧Own h.size 2 h' t (e2 L')∧Ext h h'∧L'.length≤L.length:=by
 apply wc332
 unfold vc332
 refine(eClone_spec r (by omega)).mono ?_
 rintro _ h1 ⟨c,rfl,o1,l1,e1⟩
 refine⟨c,rfl,(eSort_spec o1 (by omega)).mono ?_⟩
 rintro _ h2 ⟨rfl,L',hL',o2,z2,f2⟩
 have e2':Ext h h2:=⟨Nat.le_trans e1.size z2,fun b hb=>by rw[f2 b (Nat.lt_of_lt_of_le hb e1.size) fun a ha=>by have:=(o1.lt ha).1;omega,e1.block b hb]⟩
 have lc:=o2.toRd.lenE
 refine⟨rfl,?_⟩
 refine⟨fun out i m h'=>∃ (j:Nat) (Lo:List (Int × Int)),i=j∧m+j=L'.length∧Ext h2 h'∧Own h2.size 2 h' out (e2 Lo)∧Lo.length≤j,L'.length,⟨0,[],rfl,rfl,.refl h2,Own.nil _ _ _,Nat.le_refl _⟩,?_⟩
 rintro _ out _ m h3 ⟨j,Lo,rfl,hm,e3,o3,hlo⟩
 have lo3:=o3.toRd.lenE
 refine IfB.dec (fun hlt=>?_) (fun hge=>⟨out,Lo,rfl,o3.weak e2'.size,e2'.trans e3,by omega⟩)
 have hj:j<L'.length:=by omega
 refine ixe (o2.toRd.ext e3) j rfl hj fun a c0 c1=>⟨_,_,c0,c1,?_⟩
 intro h4
 refine loc2 rfl rfl fun h5 e5 r5=>?_
 have o5:=o3.ext e5
 have push:∀ {K:Sl→Hp→Prop},(∀ s h',(∃ n2,n2<m∧∃ (j_1:Nat) (Lo:List (Int × Int)),iAdd .i64 (j:Int) (1:Int)=(j_1:Int)∧n2+j_1=L'.length∧Ext h2 h'∧Own h2.size 2 h' s (e2 Lo)∧Lo.length≤j_1)→K s h') →∀ x y:Int,AppC 232 2 16 #[.int .i64 (0:Int),.int .i64 (0:Int)] out (Sl.mk (some (nw h5)) 1 1) (alc h5 [.int .i64 x,.int .i64 y] 232) K:=fun {K} hK x y=>by
  refine AppC_new (n:=1) (l:=e2 Lo) (news:=[.int .i64 x,.int .i64 y]) rfl o5 (by have:=e3.size;have:=e5.size;omega) rfl (by simp[cellOk]) (by omega) (by omega) fun r h6 o6 l6 k6 _=>hK r h6 ⟨m-1,by omega,j+1,Lo ++ [(x,y)],by rw[iAdd64 (by omega)];push_cast;rfl,by omega,?_,by rw[e2_append];exact o6,by simp;omega⟩
  exact((e3.trans e5).toKeep.trans k6).ext
 refine IfB.dec (fun hn=>?_) (fun hn=>r5.get2i (push (fun s h' hh=>hh) _ _))
 have hpos:0<Lo.length:=by
  rcases Nat.eq_zero_or_pos Lo.length with h0 | h0
  ·rw[lo3,h0]at hn;exact absurd hn (by decide)
  ·exact h0
 have en:iSub .i64 (out.len:Int) (1:Int)=((Lo.length-1:Nat):Int):=by rw[iSub64 (by omega),lo3];omega
 rw[en]
 have hk:Lo.length-1<Lo.length:=by omega
 refine⟨_,r5.get0 rfl,ixe o5.toRd _ rfl hk fun a1 d0 d1=>⟨_,d0,ixe o5.toRd _ rfl hk fun a2 d0' d1'=>⟨_,d1',?_⟩⟩⟩
 refine IfB.dec (fun _=>?_) (fun _=>r5.get2i (push (fun s h' hh=>hh) _ _))
 refine ixe o5.toRd _ rfl hk fun a3 f0 f1=>⟨_,f1,_,r5.get0 rfl,_,r5.get rfl,ixe o5.toRd _ rfl hk fun a4 g0 g1=>⟨_,g0,?_⟩⟩
 obtain⟨a5,ha5,_⟩:=o5.toRd.rd ((Lo.length-1)*2) (.int .i64 (Lo[Lo.length-1]).1) (by rw[e2_get0,List.getElem?_eq_getElem hk];rfl)
 refine⟨a5,ha5,by omega,by omega,?_⟩
 rw[Int.toNat_natCast,add_add]
 generalize (if Lo[Lo.length-1].2<iSub .i64 (iAdd .i64 L'[j].1 L'[j].2) Lo[Lo.length-1].1 then iSub .i64 (iAdd .i64 L'[j].1 L'[j].2) Lo[Lo.length-1].1 else Lo[Lo.length-1].2)=v
 obtain⟨st,ow,kp,_,_⟩:=o5.set ha5 (k:=(Lo.length-1)*2+1) (by rw[e2_length];omega) (.int .i64 v)
 refine⟨st,m-1,by omega,j+1,Lo.set (Lo.length-1) (Lo[Lo.length-1].1,v),by rw[iAdd64 (by omega)];push_cast;rfl,by omega,((e3.trans e5).toKeep.trans kp).ext,?_,by rw[List.length_set];omega⟩
 rw[← e2_set1]
 exact ow
theorem iNew_spec{k:Kd}(hk:¬ Told k){G:Gh}{h:Hp}(t:HT G h)(m:Nat):HC Tryz.prog 283 #[.int .i64 (m:Int)] h fun r h'=>∃ (b:Nat) (G':Gh),r=pv b∧To (fun _=>False) G h G' h'∧SetAt G' h' k m b∧G'.W=G.W∧h.size≤b∧b<h'.size:=by
 apply wc283
 unfold vc283
 intro h1
 have e1:Ext h h1:=alc_ext _ _ _
 have r1:Row h1 h.size [.int .i64 (m:Int),.slice Sl.nil.base Sl.nil.len Sl.nil.cap]:=Row.alc _ _ _
 obtain⟨y,kk,W⟩:=t.kindNew e1 (Nat.le_refl _) r1.lt hk
 exact⟨h.size,_,rfl,y,⟨kk,Sl.nil,r1,SlA.nil _ _,Nat.zero_le _⟩,W,Nat.le_refl _,r1.lt⟩
theorem iAdd_spec{k:Kd}(hm:Mut k)(hk:¬ Told k){G:Gh}{h:Hp}(t:HT G h){m sb:Nat}(x:SetAt G h k m sb)(hm':m≤64){s:Sl}{L:List (Int × Int)}(r:Rd 2 h s (e2 L))(hl:L.length≤100) :
 HC Tryz.prog 285 #[pv sb,.slice s.base s.len s.cap] h fun r h'=>∃ (G':Gh) (c:Int),r=.int .i64 c∧ToB sb G h G' h'∧SetAt G' h' k m sb∧G'.W=G.W:=by
 apply wc285
 unfold vc285
 have early:∀ {h':Hp} {c:Int},Ext h h' →∃ (G':Gh) (c':Int),Value.int .i64 c=.int .i64 c'∧ToB sb G h G' h'∧SetAt G' h' k m sb∧G'.W=G.W:=fun {h' c} e=>by
  obtain⟨es,rw',a,l⟩:=x.row
  exact⟨G,c,rfl,e.toB t,⟨x.kd,es,rw'.ext e,a,l⟩,rfl⟩
 obtain⟨es,rw',sa,l⟩:=x.row
 refine(all_spec r (by omega)).mono ?_
 rintro _ h1 ⟨e1,b,rfl⟩
 refine⟨b,rfl,IfB.intro (fun _=>early e1) fun _=>IfB.intro (fun _=>early e1) fun _=>.ff ⟨_,rfl,es,(rw'.ext e1).get rfl,?_⟩⟩
 intro h2
 obtain⟨E,rE⟩:=sa.exts t
 have lE:=rE.lenE
 have e12:Ext h h2:=e1.trans (alc_ext _ _ _)
 have r2:Rd 1 h2 (Sl.mk (some (nw h1)) 2 2) ([slV es,slV s]):=(Own.alc h1 [slV es,slV s] 400 2 1 rfl).toRd
 refine(eConcat_spec (rows:=[(es,E),(s,L)]) (h:=h2) (s:=Sl.mk (some (nw h1)) 2 2) rfl r2.rd (fun p hp=>by
  simp only[List.mem_cons,List.not_mem_nil,or_false]at hp
  rcases hp with rfl | rfl
  ·exact rE.ext e12
  ·exact r.ext e12) (by simp) (by simp[catE];omega)).mono ?_
 rintro _ h3 ⟨t3,rfl,o3,l3,e3⟩
 refine⟨t3,rfl,(joined_spec o3.toRd (by simp[catE];omega)).mono ?_⟩
 rintro _ h4 ⟨t4,L4,rfl,o4,e4,l4⟩
 have e14:=(e12.trans e3).trans e4
 have r4:=rw'.ext e14
 refine⟨t4,rfl,_,rfl,(m:Int),r4.get0 rfl,IfB.dec (fun _=>early e14) fun hle=>⟨_,rfl,?_⟩⟩
 obtain⟨G5,y5,s5,W5⟩:=Own.exts t e14 (o4.weak (e12.trans e3).size) (Nat.le_refl _)
 have r5:=y5.row rw' id
 obtain⟨st,rs,os,sz⟩:=r5.set (i:=1) (by simp) (.slice t4.base t4.len t4.cap)
 have k5:G5.k sb=k:=y5.kd x.kd (by intro e;subst e;exact hm)
 refine⟨st,G5,0,rfl,(y5.toB (c:=sb)).trans (y5.ht.toB (c:=sb) (by rw[k5];exact hk) (by rw[sz];exact Nat.le_refl _) fun b hb hne=>os b hne),⟨k5,t4,rs,s5,by omega⟩,W5⟩
theorem iExtents_spec{k:Kd}{G:Gh}{h:Hp}(t:HT G h){m sb:Nat}(x:SetAt G h k m sb)(hm':m≤1000):HC Tryz.prog 367 #[pv sb] h fun r h'=>∃ L,L.length≤m∧NewE h L r h':=by
 apply wc367
 unfold vc367
 obtain⟨es,r,sa,l⟩:=x.row
 obtain⟨E,rE⟩:=sa.exts t
 have lE:=rE.lenE
 refine .ff ⟨_,rfl,es,r.get rfl,(eClone_spec rE (by omega)).mono ?_⟩
 rintro _ h1 ⟨u,rfl,o,l1,e⟩
 exact⟨u,rfl,E,by omega,u,rfl,o,l1,e⟩
theorem iCount_spec{k:Kd}{G:Gh}{h:Hp}(t:HT G h){m sb:Nat}(x:SetAt G h k m sb)(hm':m≤1000):HC Tryz.prog 366 #[pv sb] h fun r h'=>Ext h h'∧∃ n:Int,r=.int .i64 n:=by
 apply wc366
 unfold vc366
 refine(iExtents_spec t x hm').mono ?_
 rintro _ h1 ⟨L,hL,u,rfl,o,l1,e1⟩
 refine⟨u,rfl,fun _ i m h'=>∃ j:Nat,i=j∧m+j=L.length∧Ext h1 h',L.length,⟨0,rfl,rfl,.refl _⟩,?_⟩
 rintro _ n _ m h2 ⟨j,rfl,hm,e2'⟩
 refine IfB.dec (fun hlt=>?_) (fun _=>⟨e1.trans e2',_,rfl⟩)
 refine ixe (o.toRd.ext e2') j rfl (by omega) fun a c0 c1=>⟨_,_,c0,c1,?_⟩
 intro h3
 refine loc2 rfl rfl fun h4 e4 r4=>⟨_,r4.get rfl,m-1,by omega,j+1,by rw[iAdd64 (by omega)];push_cast;rfl,by omega,e2'.trans e4⟩
theorem meet_spec(a b c d:Int)(h:Hp):HC Tryz.prog 409 #[.agg #[.int .i64 a,.int .i64 b],.agg #[.int .i64 c,.int .i64 d]] h fun r h'=>Ext h h'∧∃ b,r=.bool b:=by
 apply wc409
 unfold vc409
 intro h1 h2
 have r1:Row h1 h.size [.int .i64 a,.int .i64 b]:=Row.alc _ _ _
 have r2:Row h2 h1.size [.int .i64 c,.int .i64 d]:=Row.alc _ _ _
 have e1:Ext h h1:=alc_ext _ _ _
 have e2':Ext h1 h2:=alc_ext _ _ _
 have r1':=r1.ext e2'
 have e:=e1.trans e2'
 exact⟨_,r1'.get0 rfl,_,r2.get0 rfl,_,r2.get rfl,IfB.intro (fun _=>⟨_,r2.get0 rfl,_,r1'.get0 rfl,_,r1'.get rfl,e,_,rfl⟩) (fun _=>⟨e,_,rfl⟩)⟩
theorem iHas_spec{k:Kd}{G:Gh}{h:Hp}(t:HT G h){m sb:Nat}(x:SetAt G h k m sb)(hm':m≤1000)(lba:Int):HC Tryz.prog 385 #[pv sb,.int .i64 lba] h fun r h'=>Ext h h'∧∃ b,r=.bool b:=by
 apply wc385
 unfold vc385
 have key:HC Tryz.prog 399 #[pv sb,.agg #[.int .i64 lba,.int .i64 (1:Int)]] h fun r h'=>Ext h h'∧∃ b,r=.bool b:=by
  apply wc399
  unfold vc399
  intro h1
  have e1:Ext h h1:=alc_ext _ _ _
  have r1:Row h1 h.size [.int .i64 lba,.int .i64 1]:=Row.alc _ _ _
  refine .ff (r1.get2i ((may_spec _ _ _).mono ?_))
  rintro _ h2 ⟨e2',b,rfl⟩
  refine⟨b,rfl,IfB.intro (fun _=>⟨e1.trans e2',_,rfl⟩) fun _=>?_⟩
  obtain⟨es,r,sa,l⟩:=x.row
  obtain⟨E,rE⟩:=sa.exts t
  have lE:=rE.lenE
  refine⟨_,rfl,es,(r.ext (e1.trans e2')).get rfl,(eContains_spec (fc:=#[.pointer (some (nw h))]) (rE.ext (e1.trans e2')) (by omega) fun a b h3 e3=>?_).mono ?_⟩
  ·show HC Tryz.prog 408 #[.agg #[.int .i64 a,.int .i64 b],.pointer (some (nw h))] h3 _
   apply wc408
   unfold vc408
   intro h4
   have r4:Row h4 h3.size [.int .i64 a,.int .i64 b]:=Row.alc _ _ _
   have e4:Ext h3 h4:=alc_ext _ _ _
   have r1':=((r1.ext e2').ext e3).ext e4
   refine r4.get2i (r1'.get2i ((meet_spec _ _ _ _ _).mono ?_))
   rintro _ h5 ⟨e5,b,rfl⟩
   exact⟨b,rfl,e4.trans e5,_,rfl⟩
  ·rintro _ h3 ⟨e3,b,rfl⟩
   exact⟨b,rfl,(e1.trans e2').trans e3,_,rfl⟩
 refine key.mono ?_
 rintro _ h1 ⟨e1,b,rfl⟩
 exact⟨b,rfl,e1,_,rfl⟩
theorem SetAt.ext{G:Gh}{h h':Hp}{k:Kd}{m sb:Nat}(x:SetAt G h k m sb)(e:Ext h h'):SetAt G h' k m sb:=by
 obtain⟨es,r,a,l⟩:=x.row
 exact⟨x.kd,es,r.ext e,a,l⟩
theorem pContains0_spec{B:Nat→Prop}{f:Nat}{fc:Array Value}{h:Hp}{s:Sl}{P:List PutD}(r:PutsR B h s P)(hmax:P.length≤1000000)
 (hf:∀ x (d:Sl) h1,Ext h h1→HC Tryz.prog f (#[.agg #[.int .i64 x,.slice d.base d.len d.cap]]++fc) h1 fun r h'=>Ext h1 h'∧∃ b,r=.bool b) :
 HC Tryz.prog 172 #[.slice s.base s.len s.cap,.func (.func f) #[] fc] h fun r h'=>Ext h h'∧∃ b,r=.bool b:=by
 apply wc172
 unfold vc172
 have hl:=r.len
 have ix:HC Tryz.prog 228 #[.slice s.base s.len s.cap,.func (.func f) #[] fc] h fun r h'=>Ext h h'∧∃ c:Int,r=.int .i64 c:=by
  apply wc228
  unfold vc228
  refine⟨fun i m h'=>∃ k:Nat,i=k∧m+k=P.length∧Ext h h',P.length,⟨0,rfl,rfl,.refl h⟩,?_⟩
  rintro _ _ m h1 ⟨k,rfl,hm,e1⟩
  refine IfB.dec (fun hlt=>?_) (fun hge=>⟨e1,_,rfl⟩)
  have hk:k<P.length:=by omega
  refine(r.ext e1).ix k rfl hk fun a d c0 c1 rd _=>⟨_,d,c0,c1,?_⟩
  refine(hf _ d h1 e1).mono ?_
  rintro _ h2 ⟨e2',b,rfl⟩
  exact⟨b,rfl,IfB.intro (fun hbt=>⟨e1.trans e2',_,rfl⟩) (fun hbf=>⟨m-1,by omega,k+1,by rw[iAdd64 (by omega)];push_cast;rfl,by omega,e1.trans e2'⟩)⟩
 refine ix.mono ?_
 rintro _ h1 ⟨e1,c,rfl⟩
 exact⟨_,rfl,e1,_,rfl⟩
theorem against_spec{k:Kd}{B:Nat→Prop}{G:Gh}{h:Hp}(t:HT G h){m sb:Nat}(x:SetAt G h k m sb)(hm':m≤1000)(time:Int){s:Sl}{P:List PutD}(p:PutsR B h s P)(hP:P.length≤1000000) :
 HC Tryz.prog 369 #[.agg #[.int .i64 time,.slice s.base s.len s.cap],pv sb] h fun r h'=>Ext h h'∧∃ b,r=.bool b:=by
 apply wc369
 unfold vc369
 intro h1 h2
 have r1:Row h1 h.size [.int .i64 time,.slice s.base s.len s.cap]:=Row.alc _ _ _
 have r2:Row h2 h1.size [pv sb]:=Row.alc _ _ _
 have e1:Ext h h1:=alc_ext _ _ _
 have e2:Ext h1 h2:=alc_ext _ _ _
 have e12:=e1.trans e2
 refine⟨s,(r1.ext e2).get rfl,(pContains0_spec (fc:=#[.pointer (some (nw h1))]) (p.ext e12) hP fun q d h3 e3=>?_).mono ?_⟩
 ·show HC Tryz.prog 384 #[.agg #[.int .i64 q,.slice d.base d.len d.cap],.pointer (some (nw h1))] h3 _
  apply wc384
  unfold vc384
  intro h4
  have r4:Row h4 h3.size [.int .i64 q,.slice d.base d.len d.cap]:=Row.alc _ _ _
  have e4:Ext h3 h4:=alc_ext _ _ _
  have e14:=(e12.trans e3).trans e4
  refine⟨_,((r2.ext e3).ext e4).get0 rfl,_,r4.get0 rfl,(iHas_spec (t.ext e14) (x.ext e14) hm' q).mono ?_⟩
  rintro _ h5 ⟨e5,b,rfl⟩
  exact⟨b,rfl,e4.trans e5,_,rfl⟩
 ·rintro _ h3 ⟨e3,b,rfl⟩
  exact⟨b,rfl,e12.trans e3,_,rfl⟩
def NoVers(h:Hp)(em:Nat):Prop:=∀ vm vl vc,hY h ((⟨em,0,none⟩:Addr).add 1)=some (.map (some vm))→h[vm]? = some (mapO vl vc)→vl = []
theorem NoVers.ext{G:Gh}{h h':Hp}{M em:Nat}{V:Prop}(x:ExtAt G h M em V)(n:NoVers h em)(e:Ext h h'):NoVers h' em:=by
 obtain⟨vm,vl,vc,la,r,k,m,_⟩:=x.map
 intro vm' vl' vc' h1 h2
 rw[(r.ext e).get (i:=1) rfl]at h1
 simp only[Option.some.injEq,Value.map.injEq]at h1
 subst h1
 rw[e.block _ (blk_lt m)]at h2
 exact n _ _ _ (r.get rfl) h2
theorem check_spec{kr kw:Kd}{G:Gh}{h:Hp}{M em:Nat}{V:Prop}(t:HT G h)(x:ExtAt G h M em V)(hM:M≤1000000){mr rb mw wb:Nat}(xr:SetAt G h kr mr rb)(xw:SetAt G h kw mw wb)(hr:mr≤1000)(hw:mw≤1000)(at_:Int){B:Nat→Prop}{q:Sl}{T:List TxD}(tx:TxsR B h q T)(hT:T.length≤1000000)(hP:∀ j,(pt T j).length≤1000000) :
 HC Tryz.prog 334 #[pv em,.slice q.base q.len q.cap,.int .i64 at_,pv rb,pv wb] h fun r h'=>Ext h h'∧∃ c:Int,r=.int .i64 c∧(c=0∨c=8)∧(NoVers h em∧T = []→c=0):=by
 apply wc334
 unfold vc334
 refine(iCount_spec t xw hw).mono ?_
 rintro _ h1 ⟨e1,n,rfl⟩
 refine⟨n,rfl,IfB.intro (fun _=>⟨e1,0,rfl,.inl rfl,fun _=>rfl⟩) fun _=>?_⟩
 refine⟨fun e i m h'=>e=0∧∃ j:Nat,i=j∧m+j=2∧Ext h h',2,⟨rfl,0,rfl,rfl,e1⟩,?_⟩
 rintro _ _ _ m h2 ⟨rfl,j,rfl,hm,e2⟩
 refine IfB.dec (fun hlt=>?_) (fun _=>⟨e2,0,rfl,.inl rfl,fun _=>rfl⟩)
 have hj:j<2:=by omega
 have hset:∃ (sb:Nat) (k:Kd) (mm:Nat),(#[.pointer (some ⟨rb,0,none⟩),.pointer (some ⟨wb,0,none⟩)]:Array Value)[j]? = some (pv sb)∧SetAt G h k mm sb∧mm≤1000:=by
  rcases(by omega:j=0∨j=1) with rfl | rfl
  ·exact⟨rb,kr,mr,rfl,xr,hr⟩
  ·exact⟨wb,kw,mw,rfl,xw,hw⟩
 obtain⟨sb,k,mm,hy,xs,hmm⟩:=hset
 refine⟨j,rfl,hj,some ⟨sb,0,none⟩,hy,(iExtents_spec (t.ext e2) (xs.ext e2) hmm).mono ?_⟩
 rintro _ h3 ⟨E,hE,u,rfl,o3,l3,e3⟩
 have e13:=e2.trans e3
 refine⟨u,rfl,fun e i m1 h'=>e=0∧∃ p:Nat,i=p∧m1+p=E.length∧Ext h3 h',E.length,⟨rfl,0,rfl,rfl,.refl _⟩,?_⟩
 rintro _ _ _ m1 h4 ⟨rfl,p,rfl,hm1,e4⟩
 refine IfB.dec (fun hlt1=>?_) (fun _=>?_)
 ·refine ixe (o3.toRd.ext e4) p rfl (by omega) fun a c0 c1=>⟨_,_,c0,c1,?_⟩
  intro h5
  refine loc2 rfl rfl fun h6 e6 r6=>?_
  have e16:=(e13.trans e4).trans e6
  refine r6.get2i ((eWritten_spec (t.ext e16) (x.ext e16) _ _ at_ hM).mono ?_)
  rintro _ h7 ⟨e7,b,rfl,hb⟩
  refine⟨b,rfl,IfB.intro (fun hbt=>⟨e16.trans e7,8,rfl,.inr rfl,fun hh=>?_⟩) (fun _=>⟨m1-1,by omega,rfl,p+1,by rw[iAdd64 (by omega)];push_cast;rfl,by omega,(e4.trans e6).trans e7⟩)⟩
  rw[hb (hh.1.ext x e16)]at hbt;cases hbt
 ·have e14:=e13.trans e4
  have ht:=tx.len
  refine⟨fun e i m2 h'=>e=0∧∃ p:Nat,i=p∧m2+p=T.length∧Ext h4 h',T.length,⟨rfl,0,rfl,rfl,.refl _⟩,?_⟩
  rintro _ _ _ m2 h5 ⟨rfl,p2,rfl,hm2,e5⟩
  refine IfB.dec (fun hlt2=>?_) (fun _=>⟨m-1,by omega,rfl,j+1,by rw[iAdd64 (by omega)];push_cast;rfl,by omega,e14.trans e5⟩)
  have hp2:p2<T.length:=by omega
  have e15:=e14.trans e5
  refine(tx.ext e15).ix p2 rfl hp2 fun a d c0 c1 pp=>⟨_,d,c0,c1,?_⟩
  intro h6
  refine loc2 rfl rfl fun h7 e7 r7=>?_
  have e17:=e15.trans e7
  refine r7.get2s ((against_spec (t.ext e17) (xs.ext e17) hmm _ (pp.ext e7) (by have:=hP p2;rwa[← pt_get hp2]at this)).mono ?_)
  rintro _ h8 ⟨e8,b,rfl⟩
  refine⟨b,rfl,IfB.intro (fun hbt=>⟨e17.trans e8,8,rfl,.inr rfl,fun hh=>?_⟩) (fun _=>⟨m2-1,by omega,rfl,p2+1,by rw[iAdd64 (by omega)];push_cast;rfl,by omega,(e5.trans e7).trans e8⟩)⟩
  rw[hh.2]at hp2;simp at hp2
theorem twice_spec{B:Nat→Prop}{h:Hp}{s:Sl}{P:List PutD}(p:PutsR B h s P)(hB:∀ b,B b→b<h.size)(hP:P.length≤1000000):HC Tryz.prog 289 #[.slice s.base s.len s.cap] h fun r h'=>Ext h h'∧∃ b,r=.bool b∧(P.length≤1→b=false):=by
 apply wc289
 unfold vc289
 have e0:Ext h (h.push (mapO [] 0)):=Ext.push _ _
 have hl:=p.len
 refine⟨fun i m h'=>∃ (j:Nat) (l:List ME) (c:Nat),i=j∧m+j=P.length∧Ext h h'∧h'[h.size]? = some (mapO l c)∧(j=0→l = [])∧∀ k v b,(k,v,b)∈l →∃ n:Int,v=.int .i64 n,P.length,⟨0,[],0,rfl,rfl,e0,by simp,fun _=>rfl,by simp⟩,?_⟩
 rintro _ _ m h1 ⟨j,l,c,rfl,hm,e1,m1,hj0,hv⟩
 refine IfB.dec (fun hlt=>?_) (fun _=>⟨e1,_,rfl,fun _=>rfl⟩)
 have hj:j<P.length:=by omega
 refine(p.ext e1).ix j rfl hj fun a d c0 c1 _ _=>⟨_,d,c0,c1,?_⟩
 intro h2
 refine loc2 rfl rfl fun h3 e3 r3=>?_
 have m3:h3[h.size]? = some (mapO l c):=(e3.block _ (blk_lt m1)).trans m1
 have hget:∃ x:Int,(mget l P[j].1).getD (.int .i64 0)=.int .i64 x∧(l = []→x=0):=by
  cases hg:mget l P[j].1 with
  | none=>exact⟨0,rfl,fun _=>rfl⟩
  | some v=>
    obtain⟨b,hb⟩:=mget_mem hg
    obtain⟨n,rfl⟩:=hv _ _ _ hb
    exact⟨n,rfl,fun e=>by rw[e]at hb;simp at hb⟩
 obtain⟨x,hx,hx0⟩:=hget
 refine⟨_,r3.get0 rfl,l,c,m3,x,hx,h.size,l,c,rfl,m3,?_⟩
 have hne:h1.size≠h.size:=by have:=blk_lt m1;omega
 have r4:Row (h3.setIfInBounds h.size (mput l P[j].1 (.int .i64 (iAdd .i64 x 1)) c)) h1.size [.int .i64 P[j].1,.slice d.base d.len d.cap]:=r3.eq (Array.getElem?_setIfInBounds_ne (Ne.symm hne))
 have m4:(h3.setIfInBounds h.size (mput l P[j].1 (.int .i64 (iAdd .i64 x 1)) c))[h.size]? = some (mapO (mputL l P[j].1 (.int .i64 (iAdd .i64 x 1)) c) (mputC l P[j].1 c)):=by
  rw[Array.getElem?_setIfInBounds_self_of_lt (blk_lt m3),mput_eq]
 have e4:Ext h (h3.setIfInBounds h.size (mput l P[j].1 (.int .i64 (iAdd .i64 x 1)) c)):=⟨by simpa using (e1.trans e3).size,fun b hb=>by rw[Array.getElem?_setIfInBounds_ne (by omega)];exact(e1.trans e3).block b hb⟩
 refine⟨_,r4.get0 rfl,_,_,m4,iAdd .i64 x 1,by rw[mputL_get,if_pos rfl];rfl,IfB.eq (fun _=>⟨m-1,by omega,j+1,_,_,by rw[iAdd64 (by omega)];push_cast;rfl,by omega,e4,m4,fun h=>by omega,fun k v b hin=>?_⟩) (fun hne1=>⟨e4,_,rfl,fun h1=>?_⟩)⟩
 ·rcases mputL_mem hin with ⟨_,hh⟩ | hh
  ·exact⟨_,hh⟩
  ·exact hv k v b hh
 ·exfalso
  apply hne1
  have:j=0:=by omega
  rw[hx0 (hj0 this),iAdd64 (by omega)];rfl
def sBuf(i:Nat):Kd→Prop
 | .tx n j=>n=3∧j=i
 | _=>False
def putsP(P Q:List PutD):List PutD:=Q.foldl (fun P q=>putP P q.1 q.2) P
def newN(P Q:List PutD):Nat:=(Q.filter fun q=>decide (q.1 ∉ P.map (·.1))).length
theorem newN_succ(P Q:List PutD){j:Nat}(hj:j<Q.length):newN P (Q.take (j+1))=newN P (Q.take j)+if Q[j].1∈P.map (·.1) then 0 else 1:=by
 unfold newN
 rw[List.take_succ_eq_append_getElem hj,List.filter_append,List.length_append]
 congr 1
 by_cases h:Q[j].1∈P.map (·.1)
 ·rw[if_pos h,List.filter_cons_of_neg (by simpa using h)];rfl
 ·rw[if_neg h,List.filter_cons_of_pos (by simpa using h)];rfl
theorem newN_le(P Q:List PutD)(j:Nat):newN P (Q.take j)≤newN P Q:=by
 unfold newN
 exact((List.take_sublist j Q).filter _).length_le
theorem putsP_succ(P Q:List PutD){j:Nat}(hj:j<Q.length):putsP P (Q.take (j+1))=putP (putsP P (Q.take j)) Q[j].1 Q[j].2:=by
 unfold putsP
 rw[List.take_succ_eq_append_getElem hj,List.foldl_append];rfl
theorem bWrite_spec{G:Gh}{h:Hp}{i bb:Nat}{P Q:List PutD}{s:Sl}(t:HT G h)(x:BufAt G h i bb P)(p:PutsR (Stab G h) h s Q)(hQ:PutsB Q) :
 HC Tryz.prog 238 #[pv bb,.slice s.base s.len s.cap] h fun r h'=>∃ (G':Gh) (c:Int) (P':List PutD),r=.int .i64 c∧To (sBuf i) G h G' h'∧BufAt G' h' i bb P'∧G'.W=G.W∧
  (c≠0→P'=P)∧(∀ a l,Q = [(a,l)]→0≤a∧a<258→l.length=40→P = []→c=0∧P' = [(a,l)]):=by
 apply wc238
 unfold vc238
 intro h1
 have e1:Ext h h1:=alc_ext _ _ _
 have r1:Row h1 h.size [pv bb]:=Row.alc _ _ _
 have hl:=p.len
 have hB:∀ b,Stab G h b→b<h.size:=fun b hb=>hb.1
 have early:∀ {h':Hp} {c:Int},Ext h h'→c≠0→(∀ a l,Q = [(a,l)]→0≤a∧a<258→l.length=40→P = []→False) →∃ (G':Gh) (c':Int) (P':List PutD),Value.int .i64 c=.int .i64 c'∧To (sBuf i) G h G' h'∧BufAt G' h' i bb P'∧G'.W=G.W∧
  (c'≠0→P'=P)∧(∀ a l,Q = [(a,l)]→0≤a∧a<258→l.length=40→P = []→c'=0∧P' = [(a,l)]):=fun {h' c} e hc hno=>
  ⟨G,c,P,rfl,e.to t,x.to (e.to t (S:=fun _=>False)) id id,rfl,fun _=>rfl,fun a l q1 q2 q3 q4=>(hno a l q1 q2 q3 q4).elim⟩
 refine IfB.eq (fun h0=>early e1 (by decide) fun a l q1 _ _ _=>by rw[q1]at hl;simp at hl;omega) fun hne=>⟨_,r1.get0 rfl,.ff ?_⟩
 obtain⟨db,dl,dc,r,kd,em,w,d⟩:=x.map
 refine(pContains_spec (fc:=#[.pointer (some (nw h))]) (p:=fun q=>¬ (0≤q.1∧q.1<258)) (p.ext e1) hQ.1 fun q _ d' h2 e2 _=>?_).mono ?_
 ·show HC Tryz.prog 287 #[.agg #[.int .i64 q.1,.slice d'.base d'.len d'.cap],.pointer (some (nw h))] h2 _
  apply wc287
  unfold vc287
  intro h3
  have e3:Ext h2 h3:=alc_ext _ _ _
  have r3:Row h3 h2.size [.int .i64 q.1,.slice d'.base d'.len d'.cap]:=Row.alc _ _ _
  refine⟨_,r3.get0 rfl,IfB.dec (fun hh=>⟨e3,_,rfl,ttIff fun h=>by omega⟩) fun hh=>⟨_,r3.get0 rfl,_,((r1.ext e2).ext e3).get0 rfl,_,rfl,_,(((r.ext e1).ext e2).ext e3).get0 rfl,e3,_,rfl,?_⟩⟩
  rw[decide_eq_true_eq];omega
 rintro _ h2 ⟨e2,b,rfl,hb⟩
 have e12:=e1.trans e2
 refine⟨b,rfl,IfB.intro (fun hbt=>early e12 (by decide) fun a l q1 q2 _ _=>?_) fun hbf=>?_⟩
 ·obtain⟨z,hz,hz2⟩:=hb.1 hbt
  rw[q1]at hz;simp at hz;subst hz;exact hz2 q2
 have inR:∀ q∈Q,0≤q.1∧q.1<258:=fun q hq=>Classical.byContradiction fun hn=>by rw[hb.2 ⟨q,hq,hn⟩]at hbf;cases hbf
 refine(pContains_spec (fc:=#[]) (p:=fun q=>q.2.length≠40) (p.ext e12) hQ.1 fun q _ d h' _ hd=>len40_spec (.inr rfl) _ d hd _).mono ?_
 rintro _ h3 ⟨e3,b3,rfl,hb3⟩
 have e13:=e12.trans e3
 refine⟨b3,rfl,IfB.intro (fun hbt=>early e13 (by decide) fun a l q1 _ q3 _=>?_) fun hbf3=>?_⟩
 ·obtain⟨z,hz,hz2⟩:=hb3.1 hbt
  rw[q1]at hz;simp at hz;subst hz;exact hz2 q3
 have in40:∀ q∈Q,q.2.length=40:=fun q hq=>Classical.byContradiction fun hn=>by rw[hb3.2 ⟨q,hq,hn⟩]at hbf3;cases hbf3
 refine(twice_spec (p.ext e13) (fun b hb=>Nat.lt_of_lt_of_le hb.1 e13.size) hQ.1).mono ?_
 rintro _ h4 ⟨e4,b4,rfl,hb4⟩
 have e14:=e13.trans e4
 refine⟨b4,rfl,IfB.intro (fun hbt=>early e14 (by decide) fun a l q1 _ _ _=>?_) fun _=>?_⟩
 ·rw[hb4 (by rw[q1];simp)]at hbt;cases hbt
 have r4:=((r1.ext e2).ext e3).ext e4
 have em4:h4[db]? = some (mapO dl dc):=(e14.block db (blk_lt em)).trans em
 have hdl:=d.len w x.ok
 have hP16:=x.len
 have qlen:=hQ.1
 refine⟨_,r4.get0 rfl,_,rfl,_,(r.ext e14).get rfl,dl,dc,em4,?_⟩
 refine⟨fun n k m h'=>∃ j:Nat,k=j∧m+j=Q.length∧Ext h4 h'∧n=((P.length+newN P (Q.take j):Nat):Int),Q.length,⟨0,rfl,rfl,.refl _,by rw[hdl];simp[newN]⟩,?_⟩
 rintro _ _ _ m h5 ⟨j,rfl,hm,e5,rfl⟩
 have e15:=e14.trans e5
 have hnw:newN P (Q.take j)≤j:=Nat.le_trans (List.length_filter_le _ _) (by rw[List.length_take];omega)
 refine IfB.dec (fun hlt=>?_) (fun hge=>?_)
 ·have hj:j<Q.length:=by omega
  refine(p.ext e15).ix j rfl hj fun a d' c0 c1 _ _=>⟨_,d',c0,c1,?_⟩
  intro h6
  refine loc2 rfl rfl fun h7 e7 r7=>?_
  have e17:=e15.trans e7
  have hx:∃ xx:Sl,(mget dl Q[j].1).getD (.slice Sl.nil.base Sl.nil.len Sl.nil.cap)=.slice xx.base xx.len xx.cap:=by
   cases hg:mget dl Q[j].1 with
   | none=>exact⟨Sl.nil,rfl⟩
   | some v=>
     obtain⟨b,hb⟩:=mget_mem hg
     obtain⟨sv,_,rfl,_⟩:=d.each _ _ _ hb
     exact⟨sv,rfl⟩
  obtain⟨xx,hxx⟩:=hx
  have hs:=newN_succ P Q hj
  have nx:∀ {v:Int},v=((P.length+newN P (Q.take (j+1)):Nat):Int) →∃ n2,n2<m∧∃ j_1:Nat,iAdd .i64 (j:Int) (1:Int)=(j_1:Int)∧n2+j_1=Q.length∧Ext h4 h7∧v=((P.length+newN P (Q.take j_1):Nat):Int):=fun {v} hv=>
   ⟨m-1,by omega,j+1,by rw[iAdd64 (by omega)];push_cast;rfl,by omega,e5.trans e7,hv⟩
  refine⟨_,((r4.ext e5).ext e7).get0 rfl,_,rfl,_,(r.ext e17).get rfl,_,r7.get0 rfl,dl,dc,(e17.block db (blk_lt em)).trans em,xx,hxx,IfB.not (IfB.intro (fun hh=>nx ?_) (fun hh=>nx ?_))⟩
  ·rw[hs,if_pos ((d.keys _).1 (mhas_iff.1 hh))];omega
  ·rw[hs,if_neg (fun hin=>by rw[mhas_iff.2 ((d.keys _).2 hin)]at hh;cases hh),iAdd64 (by omega)];omega
 ·obtain rfl:j=Q.length:=by omega
  rw[List.take_length]at hnw ⊢
  refine⟨_,(r4.ext e5).get0 rfl,_,rfl,_,(r.ext e15).get rfl,IfB.dec (fun hbig=>early e15 (by decide) fun a l q1 q2 q3 q4=>?_) fun hfit=>?_⟩
  ·subst q1 q4
   have:newN [] [(a,l)]≤1:=Nat.le_trans (List.length_filter_le _ _) (by simp)
   simp at hbig;omega
  have r5:=r4.ext e5
  have t5:=t.ext e15
  have x5:=x.to (e15.to t (S:=fun _=>False)) id id
  have p5:=(p.ext e15).mono (B':=Stab G h5) fun b hb=>⟨Nat.lt_of_lt_of_le hb.1 e15.size,hb.2⟩
  refine⟨fun k m h'=>∃ (j:Nat) (G':Gh),k=j∧m+j=Q.length∧To (sBuf i) G h5 G' h'∧BufAt G' h' i bb (putsP P (Q.take j))∧G'.W=G.W∧(putsP P (Q.take j)).length≤P.length+newN P (Q.take j)∧∀ k,k∈P.map (·.1)→k∈(putsP P (Q.take j)).map (·.1),
   Q.length,⟨0,G,rfl,rfl,.refl t5,x5,rfl,Nat.le_add_right _ _,fun _ h=>h⟩,?_⟩
  rintro _ _ m h6 ⟨j,G6,rfl,hm,y6,x6,W6,L6,K6⟩
  have kh:G6.k h.size=.any:=by rw[y6.old _ (Nat.lt_of_lt_of_le r1.lt (by have:=e2.size;have:=e3.size;have:=e4.size;have:=e5.size;omega))];exact t.fresh (Nat.le_refl _)
  have r6:=y6.row r5 (by rw[t.fresh (b:=h.size) (Nat.le_refl _)];exact id)
  refine IfB.dec (fun hlt=>?_) (fun hge=>?_)
  ·have hj:j<Q.length:=by omega
   refine(p5.to y6).ix j rfl hj fun a d6 c0 c1 rd _=>⟨_,d6,c0,c1,?_⟩
   intro h7
   refine loc2 rfl rfl fun h8 e8 r8=>?_
   have t8:=y6.ht.ext e8
   obtain⟨db',dl',dc',rb,kd',em',w',dm'⟩:=x6.map
   have rb8:=rb.ext e8
   have em8:h8[db']? = some (mapO dl' dc'):=(e8.block _ (blk_lt em')).trans em'
   have q40:=in40 _ (List.getElem_mem hj)
   have qR:=inR _ (List.getElem_mem hj)
   refine⟨_,(r6.ext e8).get0 rfl,_,rfl,_,rb8.get rfl,_,r8.get0 rfl,d6,r8.get rfl,(cloneR t8 (rd.ext e8) (by omega)).mono ?_⟩
   rintro _ h9 ⟨u,G9,rfl,y9,b9,W9⟩
   have em9:=y9.blk em8 id
   refine⟨u,rfl,y9.toExt,db',dl',dc',rfl,em9,?_⟩
   have k9:=y9.kd kd' (by simp)
   have y10:To (sBuf i) G9 h9 G9 (h9.setIfInBounds db' (mput dl' Q[j].1 (.slice u.base u.len u.cap) dc')):=y9.ht.toOther (b:=db') (by rw[k9];exact⟨trivial,rfl,rfl⟩) (by rw[k9];exact id) (by simp) fun b _ hb=>Array.getElem?_setIfInBounds_ne (Ne.symm hb)
   have hs:=newN_succ P Q hj
   have hle:=newN_le P Q (j+1)
   have ok':PutsOk (putP (putsP P (Q.take j)) Q[j].1 Q[j].2):=x6.ok.put qR q40
   have wp:=w'.put Q[j].1 (.slice u.base u.len u.cap)
   have dp:=(dm'.mono y9.le).put w' (k:=Q[j].1) (l:=Q[j].2) b9
   have hlen':(putP (putsP P (Q.take j)) Q[j].1 Q[j].2).length≤P.length+newN P (Q.take (j+1)):=by
    have h1:=dp.len wp ok'
    have h2:=dm'.len w' x6.ok
    rw[← h1,mputL_len]
    split
    ·omega
    ·rename_i hnk
     have:Q[j].1 ∉ P.map (·.1):=fun hin=>hnk ((dm'.keys _).2 (K6 _ hin))
     rw[hs,if_neg this];omega
   refine⟨m-1,by omega,j+1,G9,by rw[iAdd64 (by omega)];push_cast;rfl,by omega,((y6.ext e8).trans y9.sub).trans y10,?_,W9.trans W6,?_,fun k hk=>?_⟩
   ·rw[putsP_succ _ _ hj]
    refine⟨y9.kd x6.kd (by simp),ok',by have:(P.length+newN P Q:Int)≤16:=by omega
                                        omega,db',_,_,?_,k9,?_,wp,dp⟩
    ·exact(y9.row rb8 id).eq (Array.getElem?_setIfInBounds_ne fun e=>by subst e;rw[x6.kd]at kd';cases kd')
    ·rw[Array.getElem?_setIfInBounds_self_of_lt (blk_lt em9),mput_eq]
   ·rw[putsP_succ _ _ hj];exact hlen'
   ·rw[putsP_succ _ _ hj]
    obtain⟨z,hz,rfl⟩:=List.mem_map.1 (K6 k hk)
    by_cases e:z.1=Q[j].1
    ·exact List.mem_map.2 ⟨_,putP_mem.2 (.inl rfl),e.symm⟩
    ·exact List.mem_map.2 ⟨z,putP_mem.2 (.inr ⟨hz,e⟩),rfl⟩
  ·obtain rfl:j=Q.length:=by omega
   rw[List.take_length]at x6
   exact⟨G6,0,_,rfl,(e15.to t).trans y6,x6,W6,fun h=>absurd rfl h,fun a l q1 _ _ q4=>⟨rfl,by rw[q1,q4];rfl⟩⟩
theorem bSet_spec{G:Gh}{h:Hp}{i bb:Nat}{P:List PutD}(t:HT G h)(x:BufAt G h i bb P):HC Tryz.prog 336 #[pv bb] h fun r h'=>∃ (b:Nat) (G':Gh),r=pv b∧To (fun _=>False) G h G' h'∧SetAt G' h' (.one 20) P.length b∧G'.W=G.W:=by
 apply wc336
 unfold vc336
 refine(bPuts_spec t x).mono ?_
 rintro _ h1 ⟨s,G1,rfl,y1,p1,W1⟩
 have hlen:=p1.slen
 have hl16:=x.len
 refine⟨s,rfl,?_⟩
 have key:=iNew_spec (k := .one 20) id y1.ht P.length
 rw[← hlen]at key
 refine key.mono ?_
 rintro _ h2 ⟨b,G2,rfl,y2,x2,W2,hb1,hb2⟩
 rw[hlen]at x2
 have y12:=y1.trans y2
 have pp:=(p1.mono y2.le).puts y2.ht
 refine⟨_,rfl,fun i m h'=>∃ (j:Nat) (G':Gh),i=j∧m+j=P.length∧To (fun _=>False) G h G' h'∧SetAt G' h' (.one 20) P.length b∧G'.W=G.W∧PutsR (Stab G' h') h' s P,P.length,⟨0,G2,rfl,rfl,y12,x2,W2.trans W1,pp⟩,?_⟩
 rintro _ _ m h3 ⟨j,G3,rfl,hm,y3,x3,W3,p3⟩
 refine IfB.dec (fun hlt=>?_) (fun _=>⟨b,G3,rfl,y3,x3,W3⟩)
 have hj:j<P.length:=by omega
 refine p3.ix j rfl hj fun a d c0 c1 _ _=>⟨_,d,c0,c1,?_⟩
 intro h4
 refine loc2 rfl rfl fun h5 e5 r5=>⟨_,r5.get0 rfl,?_⟩
 intro h6
 have e6:Ext h3 h6:=e5.trans (alc_ext _ _ _)
 have r6:Rd 2 h6 (Sl.mk (some (nw h5)) 1 1) (e2 [(P[j].1,1)]):=(Own.alc h5 [.int .i64 P[j].1,.int .i64 1] 232 1 2 rfl).toRd
 refine(iAdd_spec (k := .one 20) trivial id (y3.ht.ext e6) (x3.ext e6) (by omega) (s:=Sl.mk (some (nw h5)) 1 1) r6 (by simp)).mono ?_
 rintro _ h7 ⟨G7,c,rfl,y7,x7,W7⟩
 have y37:ToB b G3 h3 G7 h7:=(e6.toB y3.ht).trans y7
 refine⟨c,rfl,m-1,by omega,j+1,G7,by rw[iAdd64 (by omega)];push_cast;rfl,by omega,y37.new y3 (Nat.le_trans y1.size hb1),x7,W7.trans W3,?_⟩
 have hmut:Mut (G3.k b):=by rw[x3.kd];trivial
 exact(p3.eq fun k hk=>(y37.stab hmut hk).1).mono fun k hk=>(y37.stab hmut hk).2
theorem Own.stores{lo sz:Nat}{h:Hp}{s:Sl}{l news:List Value}(o:Own lo sz h s l){a:Addr}(ha:s.base=some a){off:Nat}(hfit:off+news.length≤l.length)(hok:∀ v∈news,cellOk v=true){K:Hp→Prop}
 (hK:∀ h',Own lo sz h' s (l.take off++news++l.drop (off+news.length))→h'.size=h.size→(∀ b,b≠a.block→h'[b]? = h[b]?)→K h'):stCells (a.add off) 0 news h K:=by
 rcases o.row with ⟨h1,_⟩ | ⟨b,c,t,h1,h2,h3,h4,h5⟩
 ·rw[h1]at ha;cases ha
 ·rw[h1]at ha;cases ha
  rw[add_none,Nat.zero_add]
  have hl:=o.len
  have hle:s.len*sz≤s.cap*sz:=Nat.mul_le_mul_right _ o.le
  refine stCells_row news off 0 h c h3 (by omega) hok fun h' c' g1 g2 g3 g4 g5=>hK h' ⟨?_,o.le,.inr ⟨b,c',t,h1,h2,g1,by rw[g4];exact h4,?_⟩⟩ g2 g3
  ·simp only[List.length_append,List.length_take,List.length_drop];omega
  ·apply List.ext_getElem?
   intro j
   rw[List.getElem?_take]
   by_cases hj:j<s.len*sz
   ·rw[if_pos hj,Array.getElem?_toList,g5]
    have hcl:c[j]? = l[j]?:=by rw[← h5,List.getElem?_take,if_pos hj,Array.getElem?_toList]
    rw[List.append_assoc,List.getElem?_append,List.length_take,Nat.min_eq_left (by omega)]
    by_cases e1:j<off
    ·rw[if_neg (by omega),if_pos e1,List.getElem?_take,if_pos e1,hcl]
    ·rw[if_neg e1,List.getElem?_append]
     by_cases e2:j<off+news.length
     ·rw[if_pos (by omega),if_pos (by omega)];simp
     ·rw[if_neg (by omega),if_neg (by omega),List.getElem?_drop,hcl]
      congr 1;omega
   ·rw[if_neg hj,List.getElem?_eq_none]
    simp only[List.length_append,List.length_take,List.length_drop];omega
theorem BufAt.kp{G:Gh}{h h':Hp}{i bb:Nat}{P:List PutD}(x:BufAt G h i bb P)(k:∀ b,G.k b ≠ .any→h'[b]? = h[b]?):BufAt G h' i bb P:=by
 obtain⟨db,dl,dc,r,kd,e,w,d⟩:=x.map
 exact⟨x.kd,x.ok,x.len,db,dl,dc,r.eq (k _ (by rw[x.kd];simp)),kd,(k _ (by rw[kd];simp)).trans e,w,d⟩
theorem SetAt.kp{G:Gh}{h h':Hp}{kk:Kd}{m sb:Nat}(x:SetAt G h kk m sb)(hk:kk ≠ .any)(k:∀ b,G.k b ≠ .any→h'[b]? = h[b]?):SetAt G h' kk m sb:=by
 obtain⟨es,r,a,l⟩:=x.row
 exact⟨x.kd,es,r.eq (k _ (by rw[x.kd];exact hk)),a,l⟩
theorem OwnN.weak{lo lo' sz:Nat}{G:Gh}{h:Hp}{s:Sl}{l:List Value}(o:OwnN lo sz G h s l)(hl:lo'≤lo):OwnN lo' sz G h s l:=⟨o.own.weak hl,o.any⟩
theorem vNew_spec{G:Gh}{h:Hp}(t:HT G h)(M i em bb:Nat)(at_:Int):HC Tryz.prog 235 #[pv em,pv bb,.int .i64 at_] h fun r h'=>∃ (vb:Nat) (G':Gh),r=pv vb∧To (fun _=>False) G h G' h'∧ViewAt G' h' M i em bb vb at_∧G'.W=G.W:=by
 apply wc235
 unfold vc235
 refine .ff (.ff ((iNew_spec (k := .tx 5 i) id t 64).mono ?_))
 rintro _ h1 ⟨sb,G1,rfl,y1,x1,W1,_,_⟩
 refine⟨_,rfl,?_⟩
 intro h2
 have e2:Ext h1 h2:=alc_ext _ _ _
 have r2:Row h2 h1.size [pv em,pv bb,.int .i64 at_,pv sb,.slice Sl.nil.base Sl.nil.len Sl.nil.cap]:=Row.alc _ _ _
 obtain⟨y2,k2,W2⟩:=y1.ht.kindNew e2 (Nat.le_refl _) r2.lt (k := .tx 4 i) id
 exact⟨h1.size,_,rfl,y1.trans y2,⟨k2,sb,Sl.nil,r2,SlA.nil _ _,Nat.zero_le _,x1.to y2 (by simp) id⟩,W2.trans W1⟩
def sView(i:Nat):Kd→Prop
 | .tx n j=>(n=4∨n=5)∧j=i
 | .arr (.reads j) _=>j=i
 | _=>False
def sReads(i:Nat):Kd→Prop
 | .arr (.reads j) _=>j=i
 | _=>False
def sSet(i:Nat):Kd→Prop
 | .tx n j=>n=5∧j=i
 | _=>False
theorem sReads_view{i:Nat}:∀ k,sReads i k→sView i k
 | .arr (.reads _) _,h=>h
def sRV(i:Nat):Kd→Prop
 | .tx n j=>n=4∧j=i
 | .arr (.reads j) _=>j=i
 | _=>False
theorem sReads_rv{i:Nat}:∀ k,sReads i k→sRV i k
 | .arr (.reads _) _,h=>h
theorem sRV_view{i:Nat}:∀ k,sRV i k→sView i k
 | .tx _ _,h=>⟨.inl h.1,h.2⟩
 | .arr (.reads _) _,h=>h
theorem sSet_view{i:Nat}:∀ k,sSet i k→sView i k
 | .tx _ _,h=>⟨.inr h.1,h.2⟩
theorem readPush{G:Gh}{h hR:Hp}{i em bb vb sb e by_ ty:Nat}{zc:Array Value}{at_ lba:Int}{rs d:Sl}{own:Bool}{bs:List UInt8}{K:Hp→Prop}(hz:zc.size=3)(hby:by_≤1000)(t:HT G h)(kd:G.k vb=.tx 4 i)(r:Row h vb [pv em,pv bb,.int .i64 at_,pv sb,.slice rs.base rs.len rs.cap])(sa:SlA G (.reads i) rs)(hM:rs.len≤10000000)
 (ok:SlB G d bs∧bs.length≤40∧(own=true∨bs=List.replicate 40 0∨G.W lba bs)) (hsub:∀ G' h',To (sReads i) G h G' h'→Sub hR h')
 (hK:∀ G' h' rs',To (sRV i) G h G' h'→Row h' vb [pv em,pv bb,.int .i64 at_,pv sb,.slice rs'.base rs'.len rs'.cap]→SlA G' (.reads i) rs'→rs'.len=rs.len+1→G'.W=G.W→K h') :
 AppC e 3 by_ zc rs (Sl.mk (some (nw h)) 1 1) (alc h [.int .i64 lba,.slice d.base d.len d.cap,.bool own] ty) fun s vh8=>Sub hR vh8∧∃ a6:Addr,(some ⟨vb,0,none⟩:Option Addr)=some a6∧StOk vh8 (a6.add 4)∧Lt (hset vh8 (a6.add 4) (.slice s.base s.len s.cap)) K:=by
 refine AppC_arr1 (S:=sReads i) (a := .reads i) t hz sa (news:=[.int .i64 lba,.slice d.base d.len d.cap,.bool own]) ⟨lba,d,own,bs,rfl,ok.1,ok.2.1,ok.2.2⟩ ?_ (by omega) (fun _=>rfl) fun r' h1 G1 y1 s1 l1 W1=>?_
 ·have:(rs.len+1)*by_≤10000001*1000:=Nat.mul_le_mul (by omega) hby
  omega
 ·have r1:=y1.rowK r kd id
  have k1:=y1.kd kd (by simp)
  obtain⟨st,rr,os,sz⟩:=r1.set (i:=4) (by simp) (.slice r'.base r'.len r'.cap)
  refine⟨hsub _ _ y1,_,rfl,st,hK G1 _ r' ((y1.mono sReads_rv).trans (y1.ht.toOther (b:=vb) (by rw[k1];exact⟨trivial,rfl,rfl⟩) (by rw[k1];exact id) (by rw[sz];exact Nat.le_refl _) fun b _ hb=>os b hb)) rr s1 l1 W1⟩
theorem vRead_spec{G:Gh}{h:Hp}{M i em bb vb:Nat}{at_:Int}{V:Prop}{P:List PutD}(t:HT G h)(x:ExtAt G h M em V)(xb:BufAt G h i bb P)(xv:ViewAt G h M i em bb vb at_)(hM:M≤1000000)(a b:Int) :
 HC Tryz.prog 237 #[pv vb,.agg #[.int .i64 a,.int .i64 b]] h fun r h'=>∃ (G':Gh) (c:Int) (s:Sl) (l:List UInt8),r=.tuple #[.slice s.base s.len s.cap,.int .i64 c]∧To (sView i) G h G' h'∧ViewAt G' h' (M+16) i em bb vb at_∧G'.W=G.W∧SlB G' s l∧l.length≤1000:=by
 apply wc237
 unfold vc237
 intro h1
 have e1:Ext h h1:=alc_ext _ _ _
 have r1:Row h1 h.size [.int .i64 a,.int .i64 b]:=Row.alc _ _ _
 have early:∀ {h':Hp} {c:Int},Ext h h' →∃ (G':Gh) (c':Int) (s:Sl) (l:List UInt8),Value.tuple #[.slice Sl.nil.base Sl.nil.len Sl.nil.cap,.int .i64 c]=.tuple #[.slice s.base s.len s.cap,.int .i64 c']∧To (sView i) G h G' h'∧ViewAt G' h' (M+16) i em bb vb at_∧G'.W=G.W∧SlB G' s l∧l.length≤1000:=fun {h' c} e=>
  ⟨G,c,Sl.nil,[],rfl,e.to t,xv.to (e.to t (S:=fun _=>False)) (by omega) id id,rfl,SlB.nil G,by simp⟩
 refine⟨_,r1.get rfl,IfB.dec (fun _=>early e1) fun hb1=>⟨_,r1.get rfl,IfB.dec (fun _=>early e1) fun hb16=>.ff ?_⟩⟩
 obtain⟨sb,rs,rv,sa,lr,xs⟩:=xv.row
 refine⟨_,rfl,_,(rv.ext e1).get0 rfl,.ff ⟨_,rfl,_,(rv.ext e1).get0 rfl,_,_,r1.get0 rfl,r1.get rfl,_,rfl,at_,(rv.ext e1).get rfl,?_⟩⟩
 have t1:=t.ext e1
 refine(eRange_spec t1 (x.ext e1) hM a b at_ (by omega)).mono ?_
 rintro _ h2 ⟨f2,⟨s,rfl⟩ | ⟨⟨ha,_,hab⟩,out,l,rfl,o2,hl,hch⟩⟩
 ·exact⟨s,2,rfl,f2,IfB.yes rfl (early (e1.trans f2))⟩
 refine⟨out,0,rfl,f2,IfB.no rfl ?_⟩
 have e12:=e1.trans f2
 have t2:=t.ext e12
 have rv2:=rv.ext e12
 have r2:=r1.ext f2
 have kh:G.k h.size=.any:=t.fresh (Nat.le_refl _)
 have lout:out.len=l.length:=by have:=o2.len;simpa using this.symm
 have oN:OwnN h1.size 1 G h2 out (l.map bv):=o2.toN t1 (Nat.le_refl _)
 refine⟨filt (kf G (sSet i)) h2,sub_kf _ _ _,_,rfl,_,(rv2.filt (kf_yes (by rw[xv.kd];intro hh;have:=hh.1;omega))).get rfl,_,_,(r2.filt (kf_yes (by rw[kh];exact id))).get0 rfl,(r2.filt (kf_yes (by rw[kh];exact id))).get rfl,?_⟩
 intro h3
 have e3:Ext h2 h3:=alc_ext _ _ _
 have t3:=t2.ext e3
 have r3:Rd 2 h3 (Sl.mk (some (nw h2)) 1 1) (e2 [(a,b)]):=(Own.alc h2 [.int .i64 a,.int .i64 b] 232 1 2 rfl).toRd
 have y3:To (fun _=>False) G h2 G h3:=e3.to t2
 refine⟨y3.sub.kf,(iAdd_spec (k := .tx 5 i) trivial id t3 (xs.ext (e12.trans e3)) (Nat.le_refl _) (s:=Sl.mk (some (nw h2)) 1 1) r3 (by simp)).mono ?_⟩
 rintro _ h4 ⟨G4,c4,rfl,y4,xs4,W4⟩
 have y34:To (sSet i) G h2 G4 h4:=y3.sub.trans (y4.to (by rw[xs.kd];exact⟨trivial,rfl,rfl⟩))
 have y04:To (sView i) G h G4 h4:=(e12.to t).trans (y34.mono sSet_view)
 have kv4:=y34.kd xv.kd (by simp)
 have rv4:=y34.rowK rv2 xv.kd (by intro hh;have:=hh.1;omega)
 have r4:=y34.row r2 (by rw[kh];exact id)
 refine⟨c4,rfl,y34.kf,IfB.ne (fun _=>⟨G4,7,Sl.nil,[],rfl,y04,⟨kv4,sb,rs,rv4,sa.mono y34.le,by omega,xs4⟩,W4,SlB.nil _,by simp⟩) fun _=>⟨_,r4.get rfl,?_⟩⟩
 have oN4:=oN.to y34
 have hbn:(b.toNat:Int)=b:=by omega
 refine⟨fun q m h'=>∃ (j:Nat) (G':Gh) (l':List UInt8) (rs':Sl),q=j∧m+j=b.toNat∧To (sView i) G h G' h'∧G'.W=G.W∧G'.k vb=.tx 4 i∧Row h' vb [pv em,pv bb,.int .i64 at_,pv sb,.slice rs'.base rs'.len rs'.cap]∧SlA G' (.reads i) rs'∧rs'.len≤M+j∧SetAt G' h' (.tx 5 i) 64 sb∧BufAt G' h' i bb P∧G'.k h.size=.any∧Row h' h.size [.int .i64 a,.int .i64 b]∧OwnN h1.size 1 G' h' out (l'.map bv)∧l'.length=l.length∧l'.drop (40*j)=l.drop (40*j),b.toNat,
  ⟨0,G4,l,rs,rfl,rfl,y04,W4,kv4,rv4,sa.mono y34.le,by omega,xs4,xb.to y04 (by intro hh;have:=hh.1;omega) (by intro hh;have:=hh.1;omega),by rw[y34.old _ r2.lt];exact kh,r4,oN4,rfl,rfl⟩,?_⟩
 rintro _ _ m h5 ⟨j,G5,l5,rs5,rfl,hm,y5,W5,kv5,rv5,sa5,lr5,xs5,xb5,kh5,r5,o5,ll5,hd5⟩
 refine IfB.dec (fun hlt=>?_) (fun hge=>?_)
 ·have hj:j<b.toNat:=by omega
  have hcap:=o5.own.le
  have m1:iMul .i64 (j:Int) (40:Int)=((40*j:Nat):Int):=by rw[iMul64 (by omega)];push_cast;omega
  have m2:iMul .i64 (iAdd .i64 (j:Int) (1:Int)) (40:Int)=((40*j+40:Nat):Int):=by rw[iAdd64 (by omega),iMul64 (by omega)];push_cast;omega
  have m3:iAdd .i64 a (j:Int)=a+j:=iAdd64 (by omega)
  have m4:iAdd .i64 (j:Int) (1:Int)=((j+1:Nat):Int):=by rw[iAdd64 (by omega)];push_cast;rfl
  rw[m1,m2,m4]
  refine⟨by omega,by omega,by omega,by omega,_,rfl,_,rv5.get rfl,_,r5.get0 rfl,?_⟩
  rw[m3]
  refine(bGet_spec y5.ht xb5 (a+j)).mono ?_
  rintro _ h6 ⟨u,bo,G6,lu,rfl,y6,b6,hu,hu40,W6⟩
  have y06:=y5.trans y6.sub
  have o6:=o5.to y6
  have rv6:=y6.row rv5 id
  have r6:=y6.row r5 id
  have xb6:=xb5.to y6 id id
  have xs6:=xs5.to y6 (by simp) id
  have kv6:=y6.kd kv5 (by simp)
  have kh6:G6.k h.size=.any:=by rw[y6.old _ r5.lt];exact kh5
  have clen:(cutSl out ((40*j:Nat):Int) ((40*j+40:Nat):Int) (out.cap:Int) 1).len=40:=by rw[cut_len];omega
  have dr:∀ (lx:List UInt8),lx.drop (40*j+40)=l5.drop (40*j+40)→lx.drop (40*(j+1))=l.drop (40*(j+1)):=fun lx hx=>by
   have e:40*(j+1)=40*j+40:=by omega
   rw[e,hx,← List.drop_drop,hd5,List.drop_drop]
  have push:∀ {Gx:Gh} {hx hR:Hp} (lx:List UInt8) {d:Sl} {own:Bool} {bs:List UInt8} {ty:Nat} {K:Hp→Prop},To (sView i) G h Gx hx→G6.Le Gx→(∀ b,b<h6.size→Gx.k b=G6.k b)→Gx.W=G6.W→Row hx vb [pv em,pv bb,.int .i64 at_,pv sb,.slice rs5.base rs5.len rs5.cap]→SetAt Gx hx (.tx 5 i) 64 sb→BufAt Gx hx i bb P→Row hx h.size [.int .i64 a,.int .i64 b]→OwnN h1.size 1 Gx hx out (lx.map bv)→lx.length=l.length→lx.drop (40*j+40)=l5.drop (40*j+40) →
   (SlB Gx d bs∧bs.length≤40∧(own=true∨bs=List.replicate 40 0∨Gx.W (a+j) bs))→(∀ G' h',To (sReads i) Gx hx G' h'→Sub hR h') →
   (∀ hy,(∃ n2,n2<m∧∃ (j_1:Nat) (G':Gh) (l':List UInt8) (rs':Sl),((j+1:Nat):Int)=(j_1:Int)∧n2+j_1=b.toNat∧To (sView i) G h G' hy∧G'.W=G.W∧G'.k vb=.tx 4 i∧Row hy vb [pv em,pv bb,.int .i64 at_,pv sb,.slice rs'.base rs'.len rs'.cap]∧SlA G' (.reads i) rs'∧rs'.len≤M+j_1∧SetAt G' hy (.tx 5 i) 64 sb∧BufAt G' hy i bb P∧G'.k h.size=.any∧Row hy h.size [.int .i64 a,.int .i64 b]∧OwnN h1.size 1 G' hy out (l'.map bv)∧l'.length=l.length∧l'.drop (40*j_1)=l.drop (40*j_1))→K hy) →
   AppC 51 3 40 #[.int .i64 (0:Int),.slice Sl.nil.base Sl.nil.len Sl.nil.cap,.bool false] rs5 (Sl.mk (some (nw hx)) 1 1) (alc hx [.int .i64 (a+j),.slice d.base d.len d.cap,.bool own] ty) fun s vh8=>Sub hR vh8∧∃ a6:Addr,(some ⟨vb,0,none⟩:Option Addr)=some a6∧StOk vh8 (a6.add 4)∧Lt (hset vh8 (a6.add 4) (.slice s.base s.len s.cap)) K:=by
   intro Gx hx hR lx d own bs ty K q1 q2 q3 q4 q5 q6 q7 q8 q9 q10 q11 q12 q13 hK
   have kvx:=q2.kk kv6 (by simp)
   refine readPush rfl (by omega) q1.ht kvx q5 ((sa5.mono y6.le).mono q2) (by omega) q12 q13 fun G9 h9 rs9 y9 rv9 sa9 lr9 W9=>hK _ ⟨m-1,by omega,j+1,G9,lx,rs9,rfl,by omega,q1.trans (y9.mono sRV_view),by rw[W9,q4,W6,W5],y9.kd kvx (by simp),rv9,sa9,by omega,q6.to y9 (by simp) (by intro hh;have:=hh.1;omega),q7.to y9 (by intro hh;have:=hh.1;omega) (by intro hh;have:=hh.1;omega),?_,?_,q9.to y9,q10,dr lx q11⟩
   ·rw[y9.old _ q8.lt,q3 _ r6.lt];exact kh6
   ·exact y9.row q8 (by rw[q3 _ r6.lt,kh6];exact id)
  refine⟨u,bo,rfl,y6.toExt,IfB.intro (fun hbt=>?_) (fun _=>?_)⟩
  ·
   have l40:=hu40 hbt
   have hul:=b6.slen
   refine⟨lu.map bv,by rw[clen];simp;omega,(b6.rd y6.ht).rd,?_⟩
   obtain⟨ab,hab',hcb⟩:∃ ab:Addr,out.base=some ab∧(cutSl out ((40*j:Nat):Int) ((40*j+40:Nat):Int) (out.cap:Int) 1).base=some (ab.add (40*j)):=by
    obtain⟨ab,hab',_⟩:=o6.own.rd 0 (bv (l5.getD 0 0)) (by
     have:0<l5.length:=by omega
     simp[this])
    refine⟨ab,hab',?_⟩
    simp only[cutSl,hab']
    rw[if_neg (by omega)]
    simp
    congr 1
   rw[hcb]
   show stCells ((ab.add (40*j)).add 0) 0 (lu.map bv) h6 _
   rw[Addr.add_zero]
   refine o6.own.stores hab' (by simp;omega) (cellOk_bv lu) fun h7 o7 z7 f7=>?_
   have hblk:=o6.any ab hab'
   have hab0:=(o6.own.lt hab').1
   have s1:h1.size=h.size+1:=size_alc _ _ _
   have y07:To (sView i) G h G6 h7:=y06.own1 (by omega) hblk (by omega) fun k _ hk=>f7 k hk
   have kp7:∀ b,G6.k b ≠ .any→h7[b]? = h6[b]?:=fun b hb=>f7 b fun e=>hb (by rw[e];exact hblk)
   have rv7:=rv6.eq (kp7 vb (by rw[kv6];simp))
   have r7:=r6.eq (f7 h.size (by omega))
   refine⟨filt (kf G6 (sReads i)) h7,sub_kf _ _ _,_,rfl,rs5,(rv7.filt (kf_yes (by rw[kv6];exact id))).get rfl,a,(r7.filt (kf_yes (by rw[kh6];exact id))).get0 rfl,?_⟩
   rw[m3]
   intro h8
   refine⟨((alc_ext _ _ _).to (S:=sReads i) y07.ht).kf,?_⟩
   have hl7:(l5.map bv).take (40*j)++lu.map bv++(l5.map bv).drop (40*j+(lu.map bv).length)=(l5.take (40*j)++lu++l5.drop (40*j+40)).map bv:=by
    simp[List.map_append,List.map_take,List.map_drop,l40]
   rw[hl7]at o7
   refine push (l5.take (40*j)++lu++l5.drop (40*j+40)) y07 (.refl _) (fun _ _=>rfl) rfl rv7 (xs6.kp (by simp) kp7) (xb6.kp kp7) r7 ⟨o7,o6.any⟩ ?_ ?_ ⟨b6,by omega,.inl rfl⟩ (fun _ _ y=>y.kf) fun hy hh=>hh
   ·simp only[List.length_append,List.length_take,List.length_drop];omega
   ·rw[List.drop_append_of_le_length (by simp;omega),List.drop_eq_nil_of_le (by simp;omega),List.nil_append]
  ·refine⟨filt (kf G6 (sReads i)) h6,sub_kf _ _ _,_,rfl,rs5,(rv6.filt (kf_yes (by rw[kv6];exact id))).get rfl,a,(r6.filt (kf_yes (by rw[kh6];exact id))).get0 rfl,?_⟩
   have rc:Rd 1 h6 (cutSl out ((40*j:Nat):Int) ((40*j+40:Nat):Int) (out.cap:Int) 1) (((l5.drop (40*j)).take 40).map bv):=by
    have:=o6.own.toRd.cutB (lo:=40*j) (hi:=40*j+40) (m:=out.cap) (by omega) (by omega) (by omega)
    rw[show 40*j+40-40*j=40 by omega]at this
    exact this
   refine(cloneR y6.ht rc (by simp;omega)).mono ?_
   rintro _ h7 ⟨uu,G7,rfl,y7,b7,W7⟩
   refine⟨uu,rfl,y7.sub.kf,?_⟩
   rw[m3]
   intro h8
   refine⟨((y7.ext (alc_ext _ _ _)).sub (S:=sReads i)).kf,?_⟩
   have hchunk:=hch j hj
   rw[← hd5]at hchunk
   have c40:((l5.drop (40*j)).take 40).length≤40:=by simp;omega
   exact push (Gx:=G7) (hx:=h7) l5 (y06.trans y7.sub) y7.le y7.old W7 (y7.row rv6 id) (xs6.to y7 (by simp) id) (xb6.to y7 id id) (y7.row r6 id) (o6.to y7) ll5 rfl ⟨b7,c40,.inr (by rw[W7,W6,W5];exact hchunk)⟩ (fun _ _ y=>(y7.sub.trans y).kf) fun hy hh=>hh
 ·obtain rfl:j=b.toNat:=by omega
  have s1:h1.size=h.size+1:=size_alc _ _ _
  obtain⟨G6,y6,le6,s6,k6,W6⟩:=OwnN.bytes y5 (o5.weak (by omega))
  have ks:∀ {k:Nat} {kd:Kd},G5.k k=kd→kd ≠ .any→G6.k k=kd:=fun h1 h2=>le6.kk h1 h2
  obtain⟨es,rr,aa,ll⟩:=xs5.row
  refine⟨G6,0,out,l5,rfl,y6,⟨ks kv5 (by simp),sb,rs5,rv5,sa5.mono le6,by omega,⟨ks xs5.kd (by simp),es,rr,aa.mono le6,ll⟩⟩,W6.trans W5,s6,by omega⟩
theorem vSet_spec{G:Gh}{h:Hp}{M i em bb vb:Nat}{at_:Int}(t:HT G h)(xv:ViewAt G h M i em bb vb at_):HC Tryz.prog 335 #[pv vb] h fun r h'=>∃ (b:Nat) (G':Gh),r=pv b∧To (fun _=>False) G h G' h'∧SetAt G' h' (.one 20) 64 b∧G'.W=G.W:=by
 apply wc335
 unfold vc335
 refine(iNew_spec (k := .one 20) id t 64).mono ?_
 rintro _ h1 ⟨b,G1,rfl,y1,x1,W1,hb1,hb2⟩
 obtain⟨sb,rs,rv,sa,lr,xs⟩:=xv.row
 refine⟨_,rfl,.tt ⟨_,rfl,_,(y1.row rv id).get rfl,(iExtents_spec y1.ht (xs.to y1 (by simp) id) (by omega)).mono ?_⟩⟩
 rintro _ h2 ⟨L,hL,u,rfl,o2,l2,f2⟩
 have x2:=x1.ext f2
 refine⟨u,rfl,(iAdd_spec (k := .one 20) trivial id (y1.ht.ext f2) x2 (Nat.le_refl _) o2.toRd (by omega)).mono ?_⟩
 rintro _ h3 ⟨G3,c,rfl,y3,x3,W3⟩
 exact⟨c,rfl,b,G3,rfl,((f2.toB y1.ht).trans y3).new y1 hb1,x3,W3.trans W1⟩
theorem vReads_spec{G:Gh}{h:Hp}{M i em bb vb:Nat}{at_:Int}(t:HT G h)(xv:ViewAt G h M i em bb vb at_)(hM:M≤1000000):HC Tryz.prog 130 #[pv vb] h fun r h'=>∃ (s:Sl) (G':Gh),r=.slice s.base s.len s.cap∧To (fun _=>False) G h G' h'∧SlA G' (.reads 0) s∧s.len≤M∧G'.W=G.W:=by
 apply wc130
 unfold vc130
 obtain⟨sb,rs,rv,sa,lr,xs⟩:=xv.row
 refine .ff ⟨_,rfl,rs,rv.get rfl,?_⟩
 refine⟨fun out q m h'=>∃ (j:Nat) (G':Gh) (l:List Value),q=j∧m+j=rs.len∧To (fun _=>False) G h G' h'∧OwnN h.size 3 G' h' out l∧out.len=j∧G'.W=G.W∧∀ k,k<j→okE G' (.reads 0) ((l.drop (k*3)).take 3),rs.len,
  ⟨0,G,[],rfl,rfl,.refl t,OwnN.nil _ _ _ _,rfl,rfl,fun k h=>by omega⟩,?_⟩
 rintro _ out _ m h1 ⟨j,G1,l,rfl,hm,y1,o1,lo,W1,ok1⟩
 refine IfB.dec (fun hlt=>?_) (fun hge=>?_)
 ·refine(sa.mono y1.le).ix y1.ht j rfl (by omega) fun ad vs ok c0 cj=>?_
  obtain⟨lba,d,own,bs,rfl,sd,ld,wd⟩:=ok
  refine⟨lba,d,own,c0 _ rfl,cj 1 _ rfl,cj 2 _ rfl,?_⟩
  intro h2
  refine(Row.alc h1 [.int .i64 0,.slice Sl.nil.base Sl.nil.len Sl.nil.cap,.bool false] 51).put (vs:=[.int .i64 lba,.slice d.base d.len d.cap,.bool own]) rfl (by simp[cellOk]) fun h3 r3 s3 o3=>?_
  have f3:Ext h1 h3:=⟨by rw[s3,size_alc];omega,fun b hb=>by rw[o3 b (by omega),alc_old _ _ _ hb]⟩
  refine⟨d,r3.get rfl,(cloneB (y1.ht.ext f3) sd (by omega)).mono ?_⟩
  rintro _ h4 ⟨u,G4,rfl,y4,b4,W4⟩
  have y14:To (fun _=>False) G h G4 h4:=(y1.ext f3).trans y4
  have r4:=y4.row r3 id
  obtain⟨st,rr,os,sz⟩:=r4.set (i:=1) (by simp) (.slice u.base u.len u.cap)
  refine⟨u,rfl,st,?_⟩
  have k4:G4.k h1.size=.any:=by rw[y4.old _ r3.lt];exact y1.ht.fresh (Nat.le_refl _)
  have rr:Row (hset h4 ((nw h1).add 1) (.slice u.base u.len u.cap)) h1.size [.int .i64 lba,.slice u.base u.len u.cap,.bool own]:=rr
  have os:∀ k,k≠h1.size→(hset h4 ((nw h1).add 1) (.slice u.base u.len u.cap))[k]? = h4[k]?:=os
  have sz:(hset h4 ((nw h1).add 1) (.slice u.base u.len u.cap)).size=h4.size:=sz
  generalize hset h4 ((nw h1).add 1) (.slice u.base u.len u.cap)=h5 at *
  have y5:To (fun _=>False) G h G4 h5:=y14.own1 y1.size k4 (by rw[sz];exact Nat.le_refl _) fun k _ hk=>os k hk
  have o5:OwnN h.size 3 G4 h5 out l:=by
   have o4:=(o1.to (f3.to y1.ht (S:=fun _=>False))).to y4
   exact⟨o4.own.eq fun a ha=>os _ (by have:=(o1.own.lt ha).2;omega),o4.any⟩
  refine⟨lba,u,own,rr.get0 rfl,rr.get rfl,rr.get rfl,?_⟩
  refine OwnN.push (l:=l) y5 rfl o5 rfl (by simp[cellOk]) (by omega) (by omega) fun r' h7 y7 o7 l7 _ _=>⟨m-1,by omega,j+1,G4,l ++ [.int .i64 lba,.slice u.base u.len u.cap,.bool own],by rw[iAdd64 (by omega)];push_cast;rfl,by omega,y7,o7,by omega,W4.trans W1,fun k hk=>?_⟩
  have hll:=o1.own.len
  by_cases e:k<j
  ·have:=okE_mono y4.le (ok1 k e)
   rw[List.drop_append_of_le_length (by omega),List.take_append_of_le_length (by rw[List.length_drop];omega)]
   exact this
  ·obtain rfl:k=j:=by omega
   rw[← lo,← hll,List.drop_append_of_le_length (Nat.le_refl _),List.drop_length,List.nil_append]
   exact⟨lba,u,own,bs,rfl,b4,ld,wd.imp id (Or.imp id fun h=>by rw[W4];exact h)⟩
 ·obtain⟨G2,y2,s2,W2⟩:=OwnN.arr (a := .reads 0) y1 o1 (fun k hk=>ok1 k (by omega))
  exact⟨out,G2,rfl,y2,s2,by omega,W2.trans W1⟩
end Go.Proofs.YtdpdkpfnfllipaaGreatDoor
