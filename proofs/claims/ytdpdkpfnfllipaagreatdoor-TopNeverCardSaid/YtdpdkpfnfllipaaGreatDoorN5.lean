/- A part of the proof, no condition. -/
import Derived.Below
import Derived.ChangeOld
import Derived.Deep.Slices
import Derived.OpenShut
import Derived.ProofKit
import Derived.Test.YtdpdkpfnfllipaaGreatDoorN3
import Derived.Test.YtdpdkpfnfllipaaGreatDoorN4
set_option linter.unusedVariables false
set_option linter.unusedSimpArgs false
namespace Go.Proofs.YtdpdkpfnfllipaaGreatDoor
section
set_option maxRecDepth 100000
variable {h:Hp}{R:Value→Hp→Prop}
def vc25(text:ByteArray)(h:Hp)(R:Value→Hp→Prop):Prop:= let vh:=alc h [.pointer none,.slice Sl.nil.base Sl.nil.len Sl.nil.cap] 100;HC Tryz.prog 26 #[.agg #[iV 8,iV 96]] vh fun r vh1=>∃ c,∃ c1,r=.tuple #[.pointer c,iV c1]∧∃ a,(some (nw h))=some a∧StOk vh1 a∧Lt (hset vh1 a (.pointer c)) fun vh2=>IfB (decide ((text.size:Int) > (262144:Int))) (R (.string (ByteArray.mk #[101,114,114,111,114,32,55,10])) vh2) (HC Tryz.prog 48 #[.string text,.string (ByteArray.mk #[10])] vh2 fun r1 vh3=>∃ c2,r1=iV c2∧IfB (!(text.toList ==(ByteArray.mk #[]).toList)) (∃ (j:Nat) (y:UInt8),(iSub .i64 (text.size:Int) (1:Int))=(j:Int)∧text[j]? = some y∧IfB ((y.toNat:Int) != 10) (IfB (decide ((iAdd .i64 c2 (1:Int)) > (10000:Int))) (R (.string (ByteArray.mk #[101,114,114,111,114,32,55,10])) vh3) (∃ (vI:ByteArray→Nat→Hp→Prop) (n:Nat),vI text n vh3∧
 ∀ _junk:Nat→Value,∀ text1:ByteArray,∀ (n1:Nat) (vh4:Hp),vI text1 n1 vh4 →IfB (!(text1.toList ==(ByteArray.mk #[]).toList)) (HC Tryz.prog 49 #[.string text1,.string (ByteArray.mk #[10])] vh4 fun r2 vh5=>∃ c3:ByteArray,∃ c4:ByteArray,∃ c5,r2=.tuple #[.string c3,.string c4,.bool c5]∧IfB (c3.toList ==(ByteArray.mk #[]).toList) (∃ n2,n2<n1∧vI c4 n2 vh5) (∃ (j1:Nat) (y1:UInt8),(0:Int)=(j1:Int)∧c3[j1]? = some y1∧IfB ((y1.toNat:Int) == 35) (∃ n2,n2<n1∧vI c4 n2 vh5) (HC Tryz.prog 50 #[.pointer (some (nw h)),.string c3] vh5 fun r3 vh6=>∃ c6,r3=.bool c6∧IfB (!c6) (let vh7:=alc vh6 [.string (ByteArray.mk #[101,114,114,111,114,32,49])] 9;HC Tryz.prog 51 #[.pointer (some (nw h)),.slice (Sl.mk (some (nw vh6)) 1 1).base (Sl.mk (some (nw vh6)) 1 1).len (Sl.mk (some (nw vh6)) 1 1).cap] vh7 fun r4 vh8=>r4=.tuple #[]∧∃ n2,n2<n1∧vI c4 n2 vh8) (∃ n2,n2<n1∧vI c4 n2 vh6)))) (∃ a1,(some (nw h))=some a1∧
 ∃ c7:Sl,hY vh4 (a1.add 1)=some (sV c7)∧∃ bs:List UInt8,bs.length=c7.len∧RdC vh4 c7.base (bs.map fun x=>.int .u8 (x.toNat:Int))∧R (.string (ByteArray.mk bs.toArray)) vh4))) (IfB (decide (c2 > (10000:Int))) (R (.string (ByteArray.mk #[101,114,114,111,114,32,55,10])) vh3) (∃ (vI1:ByteArray→Nat→Hp→Prop) (n3:Nat),vI1 text n3 vh3∧∀ _junk:Nat→Value,∀ text2:ByteArray,∀ (n4:Nat) (vh9:Hp),vI1 text2 n4 vh9 →IfB (!(text2.toList ==(ByteArray.mk #[]).toList)) (HC Tryz.prog 49 #[.string text2,.string (ByteArray.mk #[10])] vh9 fun r5 vh10=>∃ c8:ByteArray,∃ c9:ByteArray,∃ c10,r5=.tuple #[.string c8,.string c9,.bool c10]∧IfB (c8.toList ==(ByteArray.mk #[]).toList) (∃ n5,n5<n4∧vI1 c9 n5 vh10) (∃ (j2:Nat) (y2:UInt8),(0:Int)=(j2:Int)∧c8[j2]? = some y2∧IfB ((y2.toNat:Int) == 35) (∃ n5,n5<n4∧vI1 c9 n5 vh10) (HC Tryz.prog 50 #[.pointer (some (nw h)),.string c8] vh10 fun r6 vh11=>
 ∃ c11,r6=.bool c11∧IfB (!c11) (let vh12:=alc vh11 [.string (ByteArray.mk #[101,114,114,111,114,32,49])] 9;HC Tryz.prog 51 #[.pointer (some (nw h)),.slice (Sl.mk (some (nw vh11)) 1 1).base (Sl.mk (some (nw vh11)) 1 1).len (Sl.mk (some (nw vh11)) 1 1).cap] vh12 fun r7 vh13=>r7=.tuple #[]∧∃ n5,n5<n4∧vI1 c9 n5 vh13) (∃ n5,n5<n4∧vI1 c9 n5 vh11)))) (∃ a2,(some (nw h))=some a2∧∃ c12:Sl,hY vh9 (a2.add 1)=some (sV c12)∧∃ bs1:List UInt8,bs1.length=c12.len∧RdC vh9 c12.base (bs1.map fun x=>.int .u8 (x.toNat:Int))∧R (.string (ByteArray.mk bs1.toArray)) vh9)))) (IfB (decide (c2 > (10000:Int))) (R (.string (ByteArray.mk #[101,114,114,111,114,32,55,10])) vh3) (∃ (vI2:ByteArray→Nat→Hp→Prop) (n6:Nat),vI2 text n6 vh3∧∀ _junk:Nat→Value,∀ text3:ByteArray,∀ (n7:Nat) (vh14:Hp),vI2 text3 n7 vh14 →
 IfB (!(text3.toList ==(ByteArray.mk #[]).toList)) (HC Tryz.prog 49 #[.string text3,.string (ByteArray.mk #[10])] vh14 fun r8 vh15=>∃ c13:ByteArray,∃ c14:ByteArray,∃ c15,r8=.tuple #[.string c13,.string c14,.bool c15]∧IfB (c13.toList ==(ByteArray.mk #[]).toList) (∃ n8,n8<n7∧vI2 c14 n8 vh15) (∃ (j3:Nat) (y3:UInt8),(0:Int)=(j3:Int)∧c13[j3]? = some y3∧IfB ((y3.toNat:Int) == 35) (∃ n8,n8<n7∧vI2 c14 n8 vh15) (HC Tryz.prog 50 #[.pointer (some (nw h)),.string c13] vh15 fun r9 vh16=>∃ c16,r9=.bool c16∧IfB (!c16) (let vh17:=alc vh16 [.string (ByteArray.mk #[101,114,114,111,114,32,49])] 9;HC Tryz.prog 51 #[.pointer (some (nw h)),.slice (Sl.mk (some (nw vh16)) 1 1).base (Sl.mk (some (nw vh16)) 1 1).len (Sl.mk (some (nw vh16)) 1 1).cap] vh17 fun r10 vh18=>r10=.tuple #[]∧∃ n8,n8<n7∧vI2 c14 n8 vh18) (∃ n8,n8<n7∧vI2 c14 n8 vh16)))) (∃ a3,(some (nw h))=some a3∧
 ∃ c17:Sl,hY vh14 (a3.add 1)=some (sV c17)∧∃ bs2:List UInt8,bs2.length=c17.len∧RdC vh14 c17.base (bs2.map fun x=>.int .u8 (x.toNat:Int))∧R (.string (ByteArray.mk bs2.toArray)) vh14))))
theorem wc25{text:ByteArray}(H:vc25 text h R):HC Tryz.prog 25 #[.string text] h R:=
 vc_fn (annOf [(0,[(0,.str)])] []) Tryz.func25 _ (by kernel_rfl) (by kernel_rfl) H
def vc50(s:Option Addr)(line:ByteArray)(h:Hp)(R:Value→Hp→Prop):Prop:= HC Tryz.prog 93 #[.string line,.string (ByteArray.mk #[111,112,32])] h fun r vh=>∃ c:ByteArray,∃ c1,r=.tuple #[.string c,.bool c1]∧IfB c1 (HC Tryz.prog 94 #[.pointer s,.string c] vh fun r1 vh1=>∃ c2,r1=.bool c2∧R (.bool c2) vh1) (HC Tryz.prog 95 #[.string line,.string (ByteArray.mk #[32])] vh fun r2 vh2=>∃ c3:Sl,r2=sV c3∧0≤(1:Int)∧(1:Int)≤(c3.len:Int)∧(c3.len:Int)≤(c3.cap:Int)∧(c3.cap:Int)≤(c3.cap:Int)∧HC Tryz.prog 96 #[.slice (cutSl c3 (1:Int) (c3.len:Int) (c3.cap:Int) 1).base (cutSl c3 (1:Int) (c3.len:Int) (c3.cap:Int) 1).len (cutSl c3 (1:Int) (c3.len:Int) (c3.cap:Int) 1).cap] vh2 fun r3 vh3=>∃ c4:Sl,∃ c5,r3=.tuple #[sV c4,.bool c5]∧IfB (!c5) (R (.bool false) vh3) (∃ a,c3.base=some a∧0≤(0:Int)∧(0:Int)<(c3.len:Int)∧
 ∃ c6:ByteArray,hY vh3 (a.add (((0:Int)).toNat*1))=some (.string c6)∧IfB (c6.toList ==(ByteArray.mk #[99,114,97,115,104]).toList) (∃ a1,s=some a1∧∃ c7,hY vh3 a1=some (.pointer c7)∧HC Tryz.prog 11 #[.pointer c7,sV c4,.slice Sl.nil.base Sl.nil.len Sl.nil.cap] vh3 fun r4 vh4=>∃ c8,r4=iV c8∧HC Tryz.prog 97 #[.pointer s,iV c8,.slice Sl.nil.base Sl.nil.len Sl.nil.cap] vh4 fun r5 vh5=>∃ c9,r5=.bool c9∧R (.bool c9) vh5) (IfB (c6.toList ==(ByteArray.mk #[116,101,97,114]).toList) (∃ a2,s=some a2∧∃ c10,hY vh3 a2=some (.pointer c10)∧let vh6:=alc vh3 [iV 1] 3;HC Tryz.prog 11 #[.pointer c10,sV c4,.slice (Sl.mk (some (nw vh3)) 1 1).base (Sl.mk (some (nw vh3)) 1 1).len (Sl.mk (some (nw vh3)) 1 1).cap] vh6 fun r6 vh7=>∃ c11,r6=iV c11∧
 HC Tryz.prog 97 #[.pointer s,iV c11,.slice Sl.nil.base Sl.nil.len Sl.nil.cap] vh7 fun r7 vh8=>∃ c12,r7=.bool c12∧R (.bool c12) vh8) (IfB ((c4.len:Int) == 0) (HC Tryz.prog 98 #[.pointer s,.string c6] vh3 fun r8 vh9=>∃ c13,r8=.bool c13∧R (.bool c13) vh9) (IfB ((c4.len:Int) == 1) (∃ a3,c4.base=some a3∧0≤(0:Int)∧(0:Int)<(c4.len:Int)∧∃ c14,hY vh3 (a3.add (((0:Int)).toNat*1))=some (iV c14)∧HC Tryz.prog 99 #[.pointer s,.string c6,iV c14] vh3 fun r9 vh10=>∃ c15,r9=.bool c15∧R (.bool c15) vh10) (IfB (c6.toList ==(ByteArray.mk #[110,101,119]).toList) (IfB ((c4.len:Int) == 2) (∃ a4,c4.base=some a4∧0≤(0:Int)∧(0:Int)<(c4.len:Int)∧∃ c16,hY vh3 (a4.add (((0:Int)).toNat*1))=some (iV c16)∧∃ a5,c4.base=some a5∧0≤(1:Int)∧(1:Int)<(c4.len:Int)∧∃ c17,hY vh3 (a5.add (((1:Int)).toNat*1))=some (iV c17)∧
 HC Tryz.prog 100 #[.pointer s,.agg #[iV c16,iV c17]] vh3 fun r10 vh11=>∃ c18,r10=.bool c18∧Ext vh3 vh11∧R (.bool c18) vh11) (IfB (c6.toList ==(ByteArray.mk #[115,117,109]).toList) (IfB ((c4.len:Int) == 2) (∃ a6,c4.base=some a6∧0≤(0:Int)∧(0:Int)<(c4.len:Int)∧∃ c19,hY vh3 (a6.add (((0:Int)).toNat*1))=some (iV c19)∧∃ a7,c4.base=some a7∧0≤(1:Int)∧(1:Int)<(c4.len:Int)∧∃ c20,hY vh3 (a7.add (((1:Int)).toNat*1))=some (iV c20)∧HC Tryz.prog 101 #[.pointer s,iV c19,iV c20] vh3 fun r11 vh12=>∃ c21,r11=.bool c21∧Ext vh3 vh12∧R (.bool c21) vh12) (R (.bool false) vh3)) (R (.bool false) vh3))) (IfB (c6.toList ==(ByteArray.mk #[115,117,109]).toList) (IfB ((c4.len:Int) == 2) (∃ a8,c4.base=some a8∧0≤(0:Int)∧(0:Int)<(c4.len:Int)∧∃ c22,hY vh3 (a8.add (((0:Int)).toNat*1))=some (iV c22)∧∃ a9,c4.base=some a9∧0≤(1:Int)∧(1:Int)<(c4.len:Int)∧
 ∃ c23,hY vh3 (a9.add (((1:Int)).toNat*1))=some (iV c23)∧HC Tryz.prog 101 #[.pointer s,iV c22,iV c23] vh3 fun r12 vh13=>∃ c24,r12=.bool c24∧Ext vh3 vh13∧R (.bool c24) vh13) (R (.bool false) vh3)) (R (.bool false) vh3))))))))
theorem wc50{s:Option Addr}{line:ByteArray}(H:vc50 s line h R):HC Tryz.prog 50 #[.pointer s,.string line] h R:=
 vc_fn (annOf [] []) Tryz.func50 _ (by kernel_rfl) (by kernel_rfl) H
def vc51(s:Option Addr)(l:Sl)(h:Hp)(R:Value→Hp→Prop):Prop:=∃ a,s=some a∧∃ c:Sl,hY h (a.add 1)=some (.slice c.base c.len c.cap)∧HC Tryz.prog 102 #[.slice l.base l.len l.cap,.string (ByteArray.mk #[32])] h fun r vh=>∃ c1:ByteArray,r=.string c1∧Ext h vh∧AppS 5 1 1 #[.int .u8 0] c c1 vh fun s1 vh1=>Ext h vh1∧∃ a1,s=some a1∧StOk vh1 (a1.add 1)∧Lt (hset vh1 (a1.add 1) (.slice s1.base s1.len s1.cap)) fun vh2=>∃ a2,s=some a2∧∃ c2:Sl,hY vh2 (a2.add 1)=some (.slice c2.base c2.len c2.cap)∧let vh3:=alc vh2 [.int .u8 10] 5;AppC 5 1 1 #[.int .u8 0] c2 (Sl.mk (some (nw vh2)) 1 1) vh3 fun s2 vh4=>∃ a3,s=some a3∧StOk vh4 (a3.add 1)∧Lt (hset vh4 (a3.add 1) (.slice s2.base s2.len s2.cap)) fun vh5=>R (.tuple #[]) vh5
theorem wc51{s:Option Addr}{l:Sl}(H:vc51 s l h R):HC Tryz.prog 51 #[.pointer s,.slice l.base l.len l.cap] h R:=
 vc_fn (annOf [] []) Tryz.func51 _ (by kernel_rfl) (by kernel_rfl) H
def vc98(s:Option Addr)(word:ByteArray)(h:Hp)(R:Value→Hp→Prop):Prop:= IfB (word.toList ==(ByteArray.mk #[102,108,117,115,104]).toList) (∃ a,s=some a∧∃ c,hY h a=some (.pointer c)∧HC Tryz.prog 10 #[.pointer c] h fun r vh=>∃ c1,r=iV c1∧HC Tryz.prog 97 #[.pointer s,iV c1,.slice Sl.nil.base Sl.nil.len Sl.nil.cap] vh fun r1 vh1=>∃ c2,r1=.bool c2∧R (.bool c2) vh1) (IfB (word.toList ==(ByteArray.mk #[99,104,101,99,107,112,111,105,110,116]).toList) (∃ a1,s=some a1∧∃ c3,hY h a1=some (.pointer c3)∧HC Tryz.prog 28 #[.pointer c3] h fun r2 vh2=>∃ c4,r2=iV c4∧HC Tryz.prog 97 #[.pointer s,iV c4,.slice Sl.nil.base Sl.nil.len Sl.nil.cap] vh2 fun r3 vh3=>∃ c5,r3=.bool c5∧R (.bool c5) vh3) (IfB (word.toList ==(ByteArray.mk #[99,108,101,97,110]).toList) (∃ a2,s=some a2∧∃ c6,hY h a2=some (.pointer c6)∧HC Tryz.prog 29 #[.pointer c6] h fun r4 vh4=>∃ c7,r4=iV c7∧
 HC Tryz.prog 147 #[iV c7] vh4 fun r5 vh5=>∃ c8:ByteArray,r5=.string c8∧let vh6:=alc vh5 [.string (ByteArray.mk #[99,108,101,97,110,101,100]),.string c8] 9;HC Tryz.prog 51 #[.pointer s,.slice (Sl.mk (some (nw vh5)) 2 2).base (Sl.mk (some (nw vh5)) 2 2).len (Sl.mk (some (nw vh5)) 2 2).cap] vh6 fun r6 vh7=>r6=.tuple #[]∧R (.bool true) vh7) (IfB (word.toList ==(ByteArray.mk #[114,101,97,100,111,110,108,121]).toList) (∃ a3,s=some a3∧∃ c9,hY h a3=some (.pointer c9)∧HC Tryz.prog 30 #[.pointer c9,.bool (word.toList ==(ByteArray.mk #[114,101,97,100,111,110,108,121]).toList)] h fun r7 vh8=>r7=.tuple #[]∧HC Tryz.prog 97 #[.pointer s,iV 0,.slice Sl.nil.base Sl.nil.len Sl.nil.cap] vh8 fun r8 vh9=>∃ c10,r8=.bool c10∧R (.bool c10) vh9) (IfB (word.toList ==(ByteArray.mk #[119,114,105,116,97,98,108,101]).toList) (∃ a4,s=some a4∧∃ c11,hY h a4=some (.pointer c11)∧
 HC Tryz.prog 30 #[.pointer c11,.bool (word.toList ==(ByteArray.mk #[114,101,97,100,111,110,108,121]).toList)] h fun r9 vh10=>r9=.tuple #[]∧HC Tryz.prog 97 #[.pointer s,iV 0,.slice Sl.nil.base Sl.nil.len Sl.nil.cap] vh10 fun r10 vh11=>∃ c12,r10=.bool c12∧R (.bool c12) vh11) (IfB (word.toList ==(ByteArray.mk #[100,117,109,112]).toList) (∃ a5,s=some a5∧∃ c13,hY h a5=some (.pointer c13)∧HC Tryz.prog 13 #[.pointer c13] h fun r11 vh12=>∃ c14,r11=.pointer c14∧HC Tryz.prog 14 #[.pointer c14] vh12 fun r12 vh13=>∃ c15:Sl,r12=sV c15∧∃ (vI:Int→Nat→Hp→Prop) (n:Nat),vI (0:Int) n vh13∧∀ _junk:Nat→Value,∀ t59:Int,∀ (n1:Nat) (vh14:Hp),vI t59 n1 vh14 →IfB (decide (t59<(c15.len:Int))) (∃ a6,c15.base=some a6∧0≤t59∧t59<(c15.len:Int)∧
 ∃ c16,∃ c17:Sl,hY vh14 (a6.add (t59.toNat*2))=some (iV c16)∧hY vh14 ((a6.add (t59.toNat*2)).add 1)=some (sV c17)∧let vh15:=alc vh14 [iV 0,.slice Sl.nil.base Sl.nil.len Sl.nil.cap] 46;stCells (nw vh14) 0 [iV c16,sV c17] vh15 fun vh16=>∃ c18,hY vh16 (nw vh14)=some (iV c18)∧∃ c19:Sl,hY vh16 ((nw vh14).add 1)=some (sV c19)∧HC Tryz.prog 147 #[iV c18] vh16 fun r13 vh17=>∃ c20:ByteArray,r13=.string c20∧Ext vh16 vh17∧HC Tryz.prog 148 #[sV c19] vh17 fun r14 vh18=>∃ c21:ByteArray,r14=.string c21∧Ext vh16 vh18∧let vh19:=alc vh18 [.string (ByteArray.mk #[98,108,111,99,107]),.string c20,.string c21] 9;Ext vh16 vh19∧
 HC Tryz.prog 51 #[.pointer s,.slice (Sl.mk (some (nw vh18)) 3 3).base (Sl.mk (some (nw vh18)) 3 3).len (Sl.mk (some (nw vh18)) 3 3).cap] vh19 fun r15 vh20=>r15=.tuple #[]∧Ext vh16 vh20∧∃ n2,n2<n1∧vI (iAdd .i64 t59 (1:Int)) n2 vh20) (HC Tryz.prog 97 #[.pointer s,iV 0,.slice Sl.nil.base Sl.nil.len Sl.nil.cap] vh14 fun r16 vh21=>∃ c22,r16=.bool c22∧R (.bool c22) vh21)) (IfB (word.toList ==(ByteArray.mk #[97,117,100,105,116]).toList) (HC Tryz.prog 149 #[.pointer s] h fun r17 vh22=>r17=.tuple #[]∧R (.bool true) vh22) (IfB (word.toList ==(ByteArray.mk #[115,116,97,116]).toList) (∃ a7,s=some a7∧∃ c23,hY h a7=some (.pointer c23)∧HC Tryz.prog 13 #[.pointer c23] h fun r18 vh23=>∃ c24,r18=.pointer c24∧HC Tryz.prog 135 #[.pointer c24] vh23 fun r19 vh24=>∃ c25,r19=iV c25∧HC Tryz.prog 147 #[iV c25] vh24 fun r20 vh25=>∃ c26:ByteArray,r20=.string c26∧
 HC Tryz.prog 19 #[.pointer c24] vh25 fun r21 vh26=>∃ c27,r21=iV c27∧HC Tryz.prog 147 #[iV c27] vh26 fun r22 vh27=>∃ c28:ByteArray,r22=.string c28∧HC Tryz.prog 17 #[.pointer c24] vh27 fun r23 vh28=>∃ c29,r23=iV c29∧HC Tryz.prog 147 #[iV c29] vh28 fun r24 vh29=>∃ c30:ByteArray,r24=.string c30∧HC Tryz.prog 150 #[.pointer c24] vh29 fun r25 vh30=>∃ c31,r25=iV c31∧HC Tryz.prog 147 #[iV c31] vh30 fun r26 vh31=>∃ c32:ByteArray,r26=.string c32∧let vh32:=alc vh31 [.string (ByteArray.mk #[108,97,115,116]),.string c26,.string (ByteArray.mk #[111,112,101,110]),.string c28,.string (ByteArray.mk #[113,117,101,117,101]),.string c30,.string (ByteArray.mk #[98,108,111,99,107,115]),.string c32] 9;HC Tryz.prog 51 #[.pointer s,.slice (Sl.mk (some (nw vh31)) 8 8).base (Sl.mk (some (nw vh31)) 8 8).len (Sl.mk (some (nw vh31)) 8 8).cap] vh32 fun r27 vh33=>
 r27=.tuple #[]∧R (.bool true) vh33) (R (.bool false) h))))))))
theorem wc98{s:Option Addr}{word:ByteArray}(H:vc98 s word h R):HC Tryz.prog 98 #[.pointer s,.string word] h R:=
 vc_fn (annOf [(0,[(59,.int .i64)])] []) Tryz.func98 _ (by kernel_rfl) (by kernel_rfl) H
def vc96(l:Sl)(h:Hp)(R:Value→Hp→Prop):Prop:=∃ (vI:Sl→Int→Nat→Hp→Prop) (n:Nat),vI Sl.nil (0:Int) n h∧∀ _junk:Nat→Value,∀ out:Sl,∀ t10:Int,∀ (n1:Nat) (vh:Hp),vI out t10 n1 vh →IfB (decide (t10<(l.len:Int))) (∃ a,l.base=some a∧0≤t10∧t10<(l.len:Int)∧∃ c:ByteArray,hY vh (a.add (t10.toNat*1))=some (.string c)∧False) (R (.tuple #[sV out,.bool true]) vh)
theorem wc96{l:Sl}(H:vc96 l h R):HC Tryz.prog 96 #[.slice l.base l.len l.cap] h R:=
 vc_fn (annOfD [(0,[(2,.sl),(10,.int .i64)])] [] [] [] [4]) Tryz.func96 _ (by kernel_rfl) (by kernel_rfl) H
end
theorem iAdd64{a b:Int}(h : -9223372036854775808≤a+b∧a+b≤9223372036854775807):iAdd .i64 a b=a+b:=IntWalk.i64_in _ h
theorem iSub64{a b:Int}(h : -9223372036854775808≤a-b∧a-b≤9223372036854775807):iSub .i64 a b=a-b:=IntWalk.i64_in _ h
theorem iMul64{a b:Int}(h : -9223372036854775808≤a*b∧a*b≤9223372036854775807):iMul .i64 a b=a*b:=IntWalk.i64_in _ h
theorem iConv64{a:Int}(h : -9223372036854775808≤a∧a≤9223372036854775807):iConv .i64 a=a:=IntWalk.i64_in _ h
theorem iQuo64{a b:Int}(h : -9223372036854775808≤a∧a≤9223372036854775807∧1≤b):iQuo .i64 a b=a.tdiv b:=IntWalk.i64_quo' a b h
theorem iRem_nn{a b:Int}(h:0≤a):iRem a b=a % b:=IntWalk.rem_in a b h
theorem wrap_nat{k:IntKind}(hk:k.signed=false)(n:Nat):k.wrap (n:Int)=((n % 2 ^ k.bits:Nat):Int):=by
 simp only[IntKind.wrap,hk,Bool.false_and]
 simp
theorem iOr_nat{k:IntKind}(hk:k.signed=false){a b:Nat}(ha:a<2 ^ k.bits)(hb:b<2 ^ k.bits):iOr k a b=((a ||| b:Nat):Int):=by
 unfold iOr
 rw[BitVec.ofInt_natCast,BitVec.ofInt_natCast,BitVec.toNat_or,BitVec.toNat_ofNat,BitVec.toNat_ofNat,Nat.mod_eq_of_lt ha,Nat.mod_eq_of_lt hb,wrap_nat hk,Nat.mod_eq_of_lt (Nat.or_lt_two_pow ha hb)]
theorem iAnd_nat{k:IntKind}(hk:k.signed=false){a b:Nat}(ha:a<2 ^ k.bits)(hb:b<2 ^ k.bits):iAnd k a b=((a &&& b:Nat):Int):=by
 unfold iAnd
 rw[BitVec.ofInt_natCast,BitVec.ofInt_natCast,BitVec.toNat_and,BitVec.toNat_ofNat,BitVec.toNat_ofNat,Nat.mod_eq_of_lt ha,Nat.mod_eq_of_lt hb,wrap_nat hk,Nat.mod_eq_of_lt (Nat.and_lt_two_pow _ hb)]
theorem iXor_nat{k:IntKind}(hk:k.signed=false){a b:Nat}(ha:a<2 ^ k.bits)(hb:b<2 ^ k.bits):iXor k a b=((a ^^^ b:Nat):Int):=by
 unfold iXor
 rw[BitVec.ofInt_natCast,BitVec.ofInt_natCast,BitVec.toNat_xor,BitVec.toNat_ofNat,BitVec.toNat_ofNat,Nat.mod_eq_of_lt ha,Nat.mod_eq_of_lt hb,wrap_nat hk,Nat.mod_eq_of_lt (Nat.xor_lt_two_pow ha hb)]
theorem iConv_nat{k:IntKind}(hk:k.signed=false)(a:Nat):iConv k a=((a % 2 ^ k.bits:Nat):Int):=wrap_nat hk a
theorem iShr_nat{k:IntKind}{a b:Nat}(hb:b≤k.bits):iShr k a b=((a / 2 ^ b:Nat):Int):=by
 unfold iShr
 rw[Int.toNat_natCast,Nat.min_eq_left hb]
 rw[Int.fdiv_eq_ediv_of_nonneg _ (by exact_mod_cast Nat.zero_le _)]
 push_cast;rfl
theorem iShl_nat{k:IntKind}(hk:k.signed=false){a b:Nat}(hb:b≤k.bits):iShl k a b=((a*2 ^ b % 2 ^ k.bits:Nat):Int):=by
 unfold iShl
 rw[Int.toNat_natCast,Nat.min_eq_left hb]
 rw[show(a:Int)*2 ^ b=((a*2 ^ b:Nat):Int) by push_cast;rfl,wrap_nat hk]
def bv(x:UInt8):Value := .int .u8 (x.toNat:Int)
theorem u8s:IntKind.u8.signed=false:=rfl
theorem u32s:IntKind.u32.signed=false:=rfl
theorem u64s:IntKind.u64.signed=false:=rfl
theorem bv_conv(n:Nat):Value.int .u8 (iConv .u8 (n:Int))=bv (UInt8.ofNat n):=by
 rw[iConv_nat u8s];simp[bv,IntKind.bits]
theorem IfB.intro{b:Bool}{A B:Prop}(h1:b=true→A)(h2:b=false→B):IfB b A B:=⟨h1,h2⟩
theorem IfB.dec{p:Prop}[Decidable p]{A B:Prop}(h1:p→A)(h2:¬ p→B):IfB (decide p) A B:=⟨fun h=>h1 (of_decide_eq_true h),fun h=>h2 (of_decide_eq_false h)⟩
theorem IfB.eq{x y:Int}{A B:Prop}(h1:x=y→A)(h2:x≠y→B):IfB (x == y) A B:=⟨fun h=>h1 (eq_of_beq h),fun h=>h2 (by simpa using h)⟩
theorem IfB.ne{x y:Int}{A B:Prop}(h1:x≠y→A)(h2:x=y→B):IfB (x != y) A B:=⟨fun h=>h1 (by simpa using h),fun h=>h2 (by simpa using h)⟩
theorem IfB.nilp{α:Type}{p:Option α}{A B:Prop}(h1:p=none→A)(h2:∀ a,p=some a→B):IfB (isNone? p) A B:=by
 cases p with
 | none=>exact⟨fun _=>h1 rfl,fun h=>by cases h⟩
 | some a=>exact⟨fun h=>(by cases h),fun _=>h2 a rfl⟩
theorem IfB.tt{A B:Prop}(h:A):IfB true A B:=⟨fun _=>h,fun h=>by cases h⟩
theorem IfB.ff{A B:Prop}(h:B):IfB false A B:=⟨fun h=>(by cases h),fun _=>h⟩
theorem IfB.not{b:Bool}{A B:Prop}(h:IfB b B A):IfB (!b) A B:=⟨fun e=>h.2 (by simpa using e),fun e=>h.1 (by simpa using e)⟩
theorem IfB.yes{b:Bool}{A B:Prop}(e:b=true)(h:A):IfB b A B:=by subst e;exact .tt h
theorem IfB.no{b:Bool}{A B:Prop}(e:b=false)(h:B):IfB b A B:=by subst e;exact .ff h
theorem size_alc(h:Hp)(c:List Value)(t:Nat):(alc h c t).size=h.size+1:=by simp[alc]
theorem alc_new(h:Hp)(c:List Value)(t:Nat):(alc h c t)[h.size]? = some (.cells c.toArray t (0,0)):=by simp[alc]
theorem alc_old(h:Hp)(c:List Value)(t:Nat){b:Nat}(hb:b<h.size):(alc h c t)[b]? = h[b]?:=by simp[alc,Array.getElem?_push,Nat.ne_of_lt hb]
theorem alc_ext(h:Hp)(c:List Value)(t:Nat):Ext h (alc h c t):=Ext.push _ _
theorem hcell_blk{h:Hp}{b:Nat}{c:Array Value}{e:Nat}{f:Nat × Nat}(hb:h[b]? = some (.cells c e f))(o:Nat):hY h ⟨b,o,none⟩=c[o]?:=by
 simp[hY,hw,World.cell?,hb]
theorem hcell_eq{h h':Hp}{a:Addr}(e:h'[a.block]? = h[a.block]?):hY h' a=hY h a:=by simp[hY,hw,World.cell?,e]
theorem hfroz_blk{h:Hp}{b:Nat}{c:Array Value}{e:Nat}(hb:h[b]? = some (.cells c e (0,0)))(o:Nat):hfroz h ⟨b,o,none⟩=false:=by
 simp[hfroz,hw,World.frozen?,hb]
theorem hcell_lt{h:Hp}{a:Addr}{v:Value}(e:hY h a=some v):a.block<h.size:=World.block_lt_of_cell? (hw h) a e
theorem add_block(a:Addr)(i:Nat):(a.add i).block=a.block:=by unfold Addr.add;split <;> rfl
theorem add_none(b o i:Nat):(⟨b,o,none⟩:Addr).add i=⟨b,o+i,none⟩:=by unfold Addr.add;split <;> simp_all
theorem nw_add(h:Hp)(i:Nat):(nw h).add i=⟨h.size,i,none⟩:=by unfold nw;rw[add_none];simp
theorem add_add(a:Addr)(i j:Nat):(a.add i).add j=a.add (i+j):=by
 unfold Addr.add
 by_cases hi:i=0
 ·subst hi;simp
 ·by_cases hj:j=0
  ·subst hj;simp[hi]
  ·simp[hi,hj];omega
theorem size_hset(h:Hp)(a:Addr)(v:Value):(hset h a v).size=h.size:=by simp[hset,hw,World.setCell]
theorem hset_other(h:Hp)(a:Addr)(v:Value){b:Nat}(hb:b≠a.block):(hset h a v)[b]? = h[b]?:=by
 simp[hset,hw,World.setCell,Array.getElem?_modify,Ne.symm hb]
theorem hset_blk{h:Hp}{b:Nat}{c:Array Value}{e:Nat}{f:Nat × Nat}(hb:h[b]? = some (.cells c e f))(o:Nat)(v:Value):(hset h ⟨b,o,none⟩ v)[b]? = some (.cells (c.setIfInBounds o v) e f):=by
 simp[hset,hw,World.setCell,Array.getElem?_modify,hb]
structure Keep(lo:Nat)(h h':Hp):Prop where
 size:h.size≤h'.size
 block:∀ b,b<lo→h'[b]? = h[b]?
theorem Keep.refl(lo:Nat)(h:Hp):Keep lo h h:=⟨Nat.le_refl _,fun _ _=>rfl⟩
theorem Keep.trans{lo:Nat}{a b c:Hp}(h:Keep lo a b)(g:Keep lo b c):Keep lo a c:=⟨Nat.le_trans h.size g.size,fun k hk=>(g.block k hk).trans (h.block k hk)⟩
theorem Keep.le{lo lo':Nat}{a b:Hp}(h:Keep lo a b)(hl:lo'≤lo):Keep lo' a b:=⟨h.size,fun k hk=>h.block k (by omega)⟩
theorem Ext.keep{h h':Hp}(e:Ext h h'){lo:Nat}(hl:lo≤h.size):Keep lo h h':=⟨e.size,fun b hb=>e.block b (by omega)⟩
theorem Keep.ext{h h':Hp}(e:Keep h.size h h'):Ext h h':=⟨e.size,e.block⟩
theorem Ext.toKeep{h h':Hp}(e:Ext h h'):Keep h.size h h':=⟨e.size,e.block⟩
theorem Keep.alc{lo:Nat}{h h':Hp}(k:Keep lo h h')(c:List Value)(t:Nat)(hl:lo≤h'.size):Keep lo h (Go.Proofs.YtdpdkpfnfllipaaGreatDoor.alc h' c t):=k.trans ((alc_ext h' c t).keep hl)
theorem Keep.hset{lo:Nat}{h h':Hp}(k:Keep lo h h'){a:Addr}(v:Value)(ha:lo≤a.block):Keep lo h (Go.Proofs.YtdpdkpfnfllipaaGreatDoor.hset h' a v):=
 ⟨by rw[size_hset];exact k.size,fun b hb=>by rw[hset_other _ _ _ (by omega)];exact k.block b hb⟩
theorem RdC.eq{h h':Hp}{b:Option Addr}{l:List Value}(hr:RdC h b l)(e:∀ a,b=some a→h'[a.block]? = h[a.block]?):RdC h' b l:=by
 intro i v hv
 obtain⟨a,ha,hc⟩:=hr i v hv
 refine⟨a,ha,?_⟩
 rw[hcell_eq (h:=h) (h':=h') (by rw[add_block];exact e a ha)]
 exact hc
theorem RdC.lt{h:Hp}{b:Option Addr}{l:List Value}(hr:RdC h b l)(hl:l ≠ []){a:Addr}(ha:b=some a):a.block<h.size:=by
 cases l with
 | nil=>exact absurd rfl hl
 | cons v r=>
   obtain⟨a',ha',hc⟩:=hr 0 v (by simp)
   have:a'=a:=Option.some.inj (ha'.symm.trans ha)
   subst this
   have:=hcell_lt hc
   rwa[add_block]at this
theorem RdC.nil(h:Hp)(b:Option Addr):RdC h b []:=by intro i v hv;simp at hv
theorem RdC.ext{h h':Hp}{b:Option Addr}{l:List Value}(hr:RdC h b l)(k:Ext h h'):RdC h' b l:=by
 intro i v hv
 obtain⟨a,ha,hc⟩:=hr i v hv
 exact⟨a,ha,k.cell hc⟩
theorem RdC.take{h:Hp}{b:Option Addr}{l:List Value}(hr:RdC h b l)(n:Nat):RdC h b (l.take n):=by
 intro i v hv
 rw[List.getElem?_take]at hv
 split at hv
 ·exact hr i v hv
 ·cases hv
theorem RdC.drop{h:Hp}{a:Addr}{l:List Value}(hr:RdC h (some a) l)(n:Nat):RdC h (some (a.add n)) (l.drop n):=by
 intro i v hv
 rw[List.getElem?_drop]at hv
 obtain⟨a',ha',hc⟩:=hr _ v hv
 cases ha'
 exact⟨_,rfl,by rw[add_add];exact hc⟩
theorem RdC.get{h:Hp}{b:Option Addr}{l:List Value}(hr:RdC h b l){i:Nat}(hi:i<l.length):∃ a,b=some a∧hY h (a.add i)=some l[i]:=hr i _ (List.getElem?_eq_getElem hi)
theorem RdC.alc(h:Hp)(c:List Value)(t:Nat):RdC (alc h c t) (some (nw h)) c:=by
 intro i v hv
 refine⟨_,rfl,?_⟩
 rw[nw_add,hcell_blk (alc_new h c t)]
 simpa using hv
structure Own(lo sz:Nat)(h:Hp)(s:Sl)(l:List Value):Prop where
 len:l.length=s.len*sz
 le:s.len≤s.cap
 row:(s.base=none∧s.cap=0) ∨∃ b c e,s.base=some ⟨b,0,none⟩∧lo≤b∧h[b]? = some (.cells c e (0,0))∧c.size=s.cap*sz∧c.toList.take (s.len*sz)=l
theorem Own.nil(lo sz:Nat)(h:Hp):Own lo sz h Sl.nil []:=⟨by simp[Sl.nil],Nat.le_refl _,.inl ⟨rfl,rfl⟩⟩
theorem Own.lt{lo sz:Nat}{h:Hp}{s:Sl}{l:List Value}(o:Own lo sz h s l){a:Addr}(ha:s.base=some a):lo≤a.block∧a.block<h.size:=by
 rcases o.row with ⟨h1,_⟩ | ⟨b,c,e,h1,h2,h3,_⟩
 ·rw[h1]at ha;cases ha
 ·rw[h1]at ha;cases ha;exact⟨h2,(Array.getElem?_eq_some_iff.1 h3).1⟩
theorem Own.rd{lo sz:Nat}{h:Hp}{s:Sl}{l:List Value}(o:Own lo sz h s l):RdC h s.base l:=by
 intro i v hv
 rcases o.row with ⟨h1,h2⟩ | ⟨b,c,e,h1,h2,h3,h4,h5⟩
 ·have e0:s.len=0:=by have:=o.le;omega
  have:l = []:=List.eq_nil_of_length_eq_zero (by rw[o.len,e0];simp)
  subst this;simp at hv
 ·refine⟨_,h1,?_⟩
  rw[add_none,hcell_blk h3]
  rw[← h5,List.getElem?_take]at hv
  split at hv
  ·simpa using hv
  ·cases hv
theorem Own.eq{lo sz:Nat}{h h':Hp}{s:Sl}{l:List Value}(o:Own lo sz h s l)(e:∀ a,s.base=some a→h'[a.block]? = h[a.block]?):Own lo sz h' s l:=by
 refine⟨o.len,o.le,?_⟩
 rcases o.row with h1 | ⟨b,c,t,h1,h2,h3,h4,h5⟩
 ·exact .inl h1
 ·exact .inr ⟨b,c,t,h1,h2,(e _ h1).trans h3,h4,h5⟩
theorem Own.ext{lo sz:Nat}{h h':Hp}{s:Sl}{l:List Value}(o:Own lo sz h s l)(e:Ext h h'):Own lo sz h' s l:=o.eq fun _ ha=>e.block _ (o.lt ha).2
theorem Own.weak{lo lo' sz:Nat}{h:Hp}{s:Sl}{l:List Value}(o:Own lo sz h s l)(hl:lo'≤lo):Own lo' sz h s l:=by
 refine⟨o.len,o.le,?_⟩
 rcases o.row with h1 | ⟨b,c,t,h1,h2,h3,h4,h5⟩
 ·exact .inl h1
 ·exact .inr ⟨b,c,t,h1,by omega,h3,h4,h5⟩
theorem Own.alc(h:Hp)(c:List Value)(t n sz:Nat)(hn:c.length=n*sz):Own h.size sz (alc h c t) ⟨some (nw h),n,n⟩ c:=
 ⟨hn,Nat.le_refl _,.inr ⟨h.size,c.toArray,t,rfl,Nat.le_refl _,alc_new h c t,by simpa using hn,by show c.toArray.toList.take (n*sz)=c;rw[← hn,List.take_length]⟩⟩
theorem stCells_row{b:Nat}{e:Nat}{K:Hp→Prop}:∀ (vs:List Value) (o i:Nat) (h:Hp) (c:Array Value),h[b]? = some (.cells c e (0,0))→o+i+vs.length≤c.size→(∀ v∈vs,cellOk v=true) →
 (∀ (h':Hp) (c':Array Value),h'[b]? = some (.cells c' e (0,0))→h'.size=h.size→(∀ k,k≠b→h'[k]? = h[k]?)→c'.size=c.size→(∀ j,c'[j]? = if o+i≤j∧j<o+i+vs.length then vs[j-(o+i)]? else c[j]?)→K h')→stCells ⟨b,o,none⟩ i vs h K
 | [],o,i,h,c,hb,_,_,hk=>hk h c hb rfl (fun _ _=>rfl) rfl (fun j=>by rw[if_neg (by simp only[List.length_nil];omega)])
 | v::r,o,i,h,c,hb,hsz,hok,hk=>by
   have hv:=hok v (by simp)
   simp only[List.length_cons]at hsz
   have hlt:o+i<c.size:=by omega
   unfold stCells
   rw[hv,add_none]
   refine⟨⟨?_,hfroz_blk hb _⟩,?_⟩
   ·rw[hcell_blk hb];simp[hlt]
   ·refine stCells_row r o (i+1) _ (c.setIfInBounds (o+i) v) (hset_blk hb _ _) (by simp;omega) (fun u hu=>hok u (by simp[hu])) ?_
    intro h' c' h1 h2 h3 h4 h5
    refine hk h' c' h1 (by rw[h2,size_hset]) (fun k hkb=>by rw[h3 k hkb,hset_other _ _ _ hkb]) (by rw[h4];simp) fun j=>?_
    rw[h5 j]
    by_cases e1:o+(i+1)≤j∧j<o+(i+1)+r.length
    ·rw[if_pos e1,if_pos (by simp only[List.length_cons];omega)]
     rw[show j-(o+i)=(j-(o+(i+1)))+1 by omega];simp
    ·rw[if_neg e1]
     by_cases e2:j=o+i
     ·subst e2;rw[if_pos (by simp only[List.length_cons];omega)];simp[hlt]
     ·rw[if_neg (by simp only[List.length_cons];omega)]
      rw[Array.getElem?_setIfInBounds_ne (Ne.symm e2)]
theorem size_zeroCells(z:Array Value)(n:Nat):(Builtin.zeroCells z n).size=n*z.size:=by simp[Builtin.zeroCells]
theorem zeroCells_one(z:Value)(n:Nat):Builtin.zeroCells #[z] n=(List.replicate n z).toArray:=by
 apply Array.ext_getElem?
 intro i
 simp only[Builtin.zeroCells,List.size_toArray,List.length_cons,List.length_nil,Nat.zero_add,Nat.mul_one]
 by_cases hi:i<n
 ·simp[hi,Nat.mod_one]
 ·simp[hi]
theorem App_core{lo e sz n:Nat}{zc:Array Value}{s:Sl}{h:Hp}{K:Sl→Hp→Prop}{l news:List Value}(hz:zc.size=sz)(o:Own lo sz h s l)(hlo:lo≤h.size)
 (hn:news.length=n*sz) (hok:∀ v∈news,cellOk v=true)
 (hK:∀ r h',Own lo sz h' r (l++news)→r.len=s.len+n→Keep lo h h'→(∀ b,b<h.size→(∀ a,s.base=some a→b≠a.block)→h'[b]? = h[b]?)→(∀ a,r.base=some a→s.base=some a∨a.block=h.size)→K r h') :
 (s.len+n≤s.cap→stAll s.base (s.len*sz) news h (fun h'=>K ⟨s.base,s.len+n,s.cap⟩ h'))∧
 (s.cap<s.len+n →∃ olds:List Value,olds.length=s.len*sz∧RdC h s.base olds∧
  ∀ c,s.len+n≤c→c<9223372036854775808→K ⟨some ⟨h.size,0,none⟩,s.len+n,c⟩ (h.push (.cells (olds.toArray++news.toArray++Builtin.zeroCells zc (c-(s.len+n))) e (0,0)))):=by
 refine⟨fun hc=>?_,fun hc=>⟨l,o.len,o.rd,fun c h1 h2=>?_⟩⟩
 ·rcases o.row with ⟨h1,h2⟩ | ⟨b,c,t,h1,h2,h3,h4,h5⟩
  ·have hx0:n=0∧s.len=0:=by omega
   have:news = []:=List.eq_nil_of_length_eq_zero (by rw[hn,hx0.1];simp)
   subst this
   unfold stAll
   rw[h1]
   have:(⟨none,s.len+n,s.cap⟩:Sl)=s:=by cases s;simp_all
   rw[this]
   exact hK s h (by simpa using o) (by omega) (.refl _ _) (fun _ _ _=>rfl) (fun a ha=>.inl ha)
  ·unfold stAll
   rw[h1]
   show stCells ((⟨b,0,none⟩:Addr).add (s.len*sz)) 0 news h _
   rw[add_none]
   have hfit:s.len*sz+n*sz≤c.size:=by rw[h4,← Nat.add_mul];exact Nat.mul_le_mul_right _ hc
   refine stCells_row news _ 0 h c h3 (by rw[hn];omega) hok ?_
   intro h' c' g1 g2 g3 g4 g5
   refine hK _ h' ⟨?_,hc,.inr ⟨b,c',t,rfl,h2,g1,by rw[g4];exact h4,?_⟩⟩ rfl ⟨by omega,fun k hk=>g3 k (by omega)⟩ (fun k hk hne=>g3 k (hne _ h1)) (fun a ha=>.inl (h1.trans ha))
   ·rw[List.length_append,o.len,hn,Nat.add_mul]
   ·apply List.ext_getElem?
    intro j
    show(c'.toList.take ((s.len+n)*sz))[j]? = _
    rw[List.getElem?_take,Array.getElem?_toList,g5 j,List.getElem?_append,o.len,Nat.add_mul]
    by_cases e1:j<s.len*sz
    ·rw[if_pos (by omega),if_neg (by omega),if_pos e1,← h5,List.getElem?_take,if_pos e1,Array.getElem?_toList]
    ·by_cases e2:j<s.len*sz+n*sz
     ·rw[if_pos e2,if_pos (by rw[hn];omega),if_neg e1];simp
     ·rw[if_neg e2,if_neg e1]
      exact(List.getElem?_eq_none (by rw[hn];omega)).symm
 ·refine hK _ _ ⟨by rw[List.length_append,o.len,hn,Nat.add_mul],h1,.inr ⟨h.size,_,e,rfl,hlo,by simp;rfl,?_,?_⟩⟩ rfl (Ext.keep (Ext.push _ _) hlo) (fun b hb _=>(Ext.push h _).block b hb) (fun a ha=>.inr (by cases ha;rfl))
  ·simp only[Array.size_append,List.size_toArray,size_zeroCells,hz]
   rw[List.length_append,o.len,hn,← Nat.add_mul,← Nat.add_mul];congr 1;omega
  ·simp only[Array.toList_append,List.append_assoc]
   rw[← List.append_assoc,show(s.len+n)*sz=(l++news).length by rw[List.length_append,o.len,hn,Nat.add_mul]]
   exact List.take_left
theorem AppC_own{lo e sz by_:Nat}{zc:Array Value}{s x:Sl}{h:Hp}{K:Sl→Hp→Prop}{l news:List Value}(hz:zc.size=sz)(o:Own lo sz h s l)(hlo:lo≤h.size)
 (hn:news.length=x.len*sz) (hr:RdC h x.base news) (hok:∀ v∈news,cellOk v=true) (hb:(s.len+x.len)*by_≤140737488355328) (hl:s.len+x.len<9223372036854775807)
 (hK:∀ r h',Own lo sz h' r (l++news)→r.len=s.len+x.len→Keep lo h h'→(∀ b,b<h.size→(∀ a,s.base=some a→b≠a.block)→h'[b]? = h[b]?)→K r h'):AppC e sz by_ zc s x h K:=
 ⟨news,hn,hr,hb,hl,App_core hz o hlo hn hok (fun r h' a b c d _=>hK r h' a b c d)⟩
theorem AppC_own5{lo e sz by_:Nat}{zc:Array Value}{s x:Sl}{h:Hp}{K:Sl→Hp→Prop}{l news:List Value}(hz:zc.size=sz)(o:Own lo sz h s l)(hlo:lo≤h.size)
 (hn:news.length=x.len*sz) (hr:RdC h x.base news) (hok:∀ v∈news,cellOk v=true) (hb:(s.len+x.len)*by_≤140737488355328) (hl:s.len+x.len<9223372036854775807)
 (hK:∀ r h',Own lo sz h' r (l++news)→r.len=s.len+x.len→Keep lo h h'→(∀ b,b<h.size→(∀ a,s.base=some a→b≠a.block)→h'[b]? = h[b]?)→(∀ a,r.base=some a→s.base=some a∨a.block=h.size)→K r h'):AppC e sz by_ zc s x h K:=
 ⟨news,hn,hr,hb,hl,App_core hz o hlo hn hok hK⟩
theorem AppZ_own{lo e by_ m:Nat}{z:Value}{s:Sl}{n:Int}{h:Hp}{K:Sl→Hp→Prop}{l:List Value}(hn:n=m)(o:Own lo 1 h s l)(hlo:lo≤h.size)
 (hok:cellOk z=true) (hb:(s.len+m)*by_≤140737488355328) (hl:s.len+m<9223372036854775807)
 (hK:∀ r h',Own lo 1 h' r (l++List.replicate m z)→r.len=s.len+m→Keep lo h h'→(∀ b,b<h.size→(∀ a,s.base=some a→b≠a.block)→h'[b]? = h[b]?)→K r h'):AppZ e 1 by_ #[z] s n h K:=by
 subst hn
 have hz:=zeroCells_one z m
 have c:=App_core (e:=e) (zc:=#[z]) (n:=m) (K:=K) (news:=List.replicate m z) rfl o hlo (by simp) (fun v hv=>by rw[List.eq_of_mem_replicate hv];exact hok) (fun r h' a b c d _=>hK r h' a b c d)
 unfold AppZ
 rw[Int.toNat_natCast,hz]
 refine⟨by omega,hb,hl,Nat.le_trans (Nat.mul_le_mul_right _ (Nat.le_add_left _ _)) hb,by omega,c.1,c.2⟩
theorem AppC_new{lo e t sz by_:Nat}{zc:Array Value}{s:Sl}{h:Hp}{K:Sl→Hp→Prop}{l news:List Value}{n:Nat}(hz:zc.size=sz)(o:Own lo sz h s l)(hlo:lo≤h.size)
 (hn:news.length=n*sz) (hok:∀ v∈news,cellOk v=true) (hb:(s.len+n)*by_≤140737488355328) (hl:s.len+n<9223372036854775807)
 (hK:∀ r h',Own lo sz h' r (l++news)→r.len=s.len+n→Keep lo h h'→(∀ b,b<h.size→(∀ a,s.base=some a→b≠a.block)→h'[b]? = h[b]?)→K r h'):AppC e sz by_ zc s (Sl.mk (some (nw h)) n n) (alc h news t) K:=
 AppC_own hz (o.ext (alc_ext _ _ _)) (by rw[size_alc];omega) hn (RdC.alc h news t) hok hb hl fun r h' h1 h2 h3 h4=>
  hK r h' h1 h2 (((Keep.refl lo h).alc news t hlo).trans h3) fun b hb hne=>(h4 b (by rw[size_alc];omega) hne).trans (alc_old h news t hb)
theorem Own.set{lo sz:Nat}{h:Hp}{s:Sl}{l:List Value}(o:Own lo sz h s l){a:Addr}(ha:s.base=some a){k:Nat}(hk:k<l.length)(v:Value) :
 StOk h (a.add k)∧Own lo sz (hset h (a.add k) v) s (l.set k v)∧Keep lo h (hset h (a.add k) v)∧(∀ b,b≠a.block→(hset h (a.add k) v)[b]? = h[b]?)∧(hset h (a.add k) v).size=h.size:=by
 have hlt:=o.lt ha
 rcases o.row with ⟨h1,_⟩ | ⟨b,c,t,h1,h2,h3,h4,h5⟩
 ·rw[h1]at ha;cases ha
 ·rw[h1]at ha
  cases ha
  rw[add_none,Nat.zero_add]
  have hkc:k<c.size:=by
   have:l.length≤c.toList.length:=by rw[← h5,List.length_take];exact Nat.min_le_right _ _
   simp at this;omega
  have hkl:k<s.len*sz:=by rw[← o.len];exact hk
  refine⟨⟨by rw[hcell_blk h3];simp[hkc],hfroz_blk h3 _⟩,⟨by simpa using o.len,o.le,.inr ⟨b,c.setIfInBounds k v,t,h1,h2,hset_blk h3 _ _,by simpa using h4,?_⟩⟩,(Keep.refl lo h).hset v (by simpa using h2),fun b' hb'=>hset_other _ _ _ hb',size_hset _ _ _⟩
  rw[← h5]
  apply List.ext_getElem?
  intro j
  rw[List.getElem?_take,List.getElem?_set,Array.getElem?_toList]
  by_cases e1:j<s.len*sz
  ·rw[if_pos e1]
   by_cases e2:k=j
   ·subst e2;simp[hkc];omega
   ·rw[if_neg e2,Array.getElem?_setIfInBounds_ne e2,List.getElem?_take,if_pos e1];simp
  ·rw[if_neg e1,if_neg (by omega),List.getElem?_take,if_neg e1]
theorem MkC_own{e by_:Nat}{z:Value}{n:Nat}{h:Hp}{K:Sl→Hp→Prop}(hb:n*by_≤140737488355328)(hl:n<9223372036854775807)
 (hK:K ⟨some (nw h),n,n⟩ (alc h (List.replicate n z) e)):MkC e by_ #[z] (n:Int) (n:Int) h K:=by
 refine⟨by omega,by omega,by simpa using hb,by omega,?_⟩
 simp only[Int.toNat_natCast]
 rw[zeroCells_one]
 exact hK
theorem ix1{h:Hp}{s:Sl}{l:List Value}(hr:RdC h s.base l)(hl:l.length=s.len){i:Int}(k:Nat)(hi:i=k)(hk:k<l.length){K:Addr→Prop}
 (hK:∀ a,s.base=some a→hY h (a.add (i.toNat*1))=some l[k]→K a):∃ a:Addr,s.base=some a∧0≤i∧i<(s.len:Int)∧K a:=by
 obtain⟨a,ha,hc⟩:=hr.get hk
 subst hi
 exact⟨a,ha,by omega,by omega,hK a ha (by simpa using hc)⟩
theorem ixB{h:Hp}{s:Sl}{l:List UInt8}(hr:RdC h s.base (l.map bv))(hl:l.length=s.len){i:Int}(k:Nat)(hi:i=k)(hk:k<l.length){K:Int→Prop}
 (hK:K (l[k].toNat:Int)):∃ a:Addr,s.base=some a∧0≤i∧i<(s.len:Int)∧∃ c:Int,hY h (a.add (i.toNat*1))=some (.int .u8 c)∧K c:=
 ix1 hr (by simpa using hl) k hi (by simpa using hk) fun a _ hc=>⟨_,by simpa [bv] using hc,hK⟩
theorem cellOk_bv(l:List UInt8):∀ v∈l.map bv,cellOk v=true:=by
 intro v hv
 obtain⟨x,_,rfl⟩:=List.mem_map.1 hv
 rfl
structure Rd(sz:Nat)(h:Hp)(s:Sl)(l:List Value):Prop where
 len:l.length=s.len*sz
 cap:s.len≤s.cap
 rd:RdC h s.base l
theorem Own.toRd{lo sz:Nat}{h:Hp}{s:Sl}{l:List Value}(o:Own lo sz h s l):Rd sz h s l:=⟨o.len,o.le,o.rd⟩
theorem Rd.ext{sz:Nat}{h h':Hp}{s:Sl}{l:List Value}(r:Rd sz h s l)(e:Ext h h'):Rd sz h' s l:=⟨r.len,r.cap,r.rd.ext e⟩
theorem Rd.nil(sz:Nat)(h:Hp):Rd sz h Sl.nil []:=⟨by simp[Sl.nil],Nat.le_refl _,RdC.nil _ _⟩
theorem Rd.cut{sz:Nat}{h:Hp}{s:Sl}{l:List Value}(r:Rd sz h s l){lo hi m:Nat}(h1:lo≤hi)(h2:hi≤s.len)(h3:hi≤m):Rd sz h (cutSl s lo hi m sz) ((l.drop (lo*sz)).take ((hi-lo)*sz)):=by
 have hlen:=r.len
 have hh:hi*sz≤s.len*sz:=Nat.mul_le_mul_right _ h2
 have hl:lo*sz≤hi*sz:=Nat.mul_le_mul_right _ h1
 have hs:(hi-lo)*sz=hi*sz-lo*sz:=Nat.sub_mul _ _ _
 refine⟨?_,?_,?_⟩
 ·simp only[cutSl,Int.toNat_natCast,List.length_take,List.length_drop];omega
 ·simp only[cutSl,Int.toNat_natCast];omega
 ·simp only[cutSl,Int.toNat_natCast]
  by_cases e:m=lo
  ·have:(hi-lo)*sz=0:=by rw[show hi-lo=0 by omega];simp
   rw[this];simp only[List.take_zero];exact RdC.nil _ _
  ·rw[if_neg e]
   cases hb:s.base with
   | none=>
     have hr:=r.rd
     rw[hb]at hr
     have:l = []:=by
      cases l with
      | nil=>rfl
      | cons v t=>obtain⟨_,e,_⟩:=hr 0 v (by simp);cases e
     subst this;simp;exact RdC.nil _ _
   | some a=>
     have hr:=r.rd
     rw[hb]at hr
     exact(hr.drop _).take _
theorem cut_len{s:Sl}{lo hi m:Nat}{sz:Nat}:(cutSl s lo hi m sz).len=hi-lo:=by simp[cutSl]
theorem cut_cap{s:Sl}{lo hi m:Nat}{sz:Nat}:(cutSl s lo hi m sz).cap=m-lo:=by simp[cutSl]
theorem Rd.cutB{h:Hp}{s:Sl}{l:List UInt8}(r:Rd 1 h s (l.map bv)){lo hi m:Nat}(h1:lo≤hi)(h2:hi≤s.len)(h3:hi≤m):Rd 1 h (cutSl s lo hi m 1) (((l.drop lo).take (hi-lo)).map bv):=by
 have:=r.cut h1 h2 h3
 simpa [List.map_take,List.map_drop] using this
theorem Rd.lenB{h:Hp}{s:Sl}{l:List UInt8}(r:Rd 1 h s (l.map bv)):l.length=s.len:=by simpa using r.len
def byteAt(v j:Nat):UInt8:=UInt8.ofNat (v / 2 ^ (8*j))
def leB(n v:Nat):List UInt8:=(List.range n).map (byteAt v)
theorem leB_length(n v:Nat):(leB n v).length=n:=by simp[leB]
theorem leB_get{n v j:Nat}(h:j<n):(leB n v)[j]? = some (byteAt v j):=by simp[leB,h]
def NewB(h:Hp)(l:List UInt8)(r:Value)(h':Hp):Prop:=∃ s:Sl,r=.slice s.base s.len s.cap∧Own h.size 1 h' s (l.map bv)∧s.len=l.length∧Ext h h'
theorem put_spec(v n:Nat)(hv:v<2 ^ 64)(hn:n≤8)(h:Hp):HC Tryz.prog 216 #[.int .u64 (v:Int),.int .i64 (n:Int)] h (NewB h (leB n v)):=by
 apply wc216
 unfold vc216
 refine MkC_own (by omega) (by omega) ?_
 have h0:Own h.size 1 (alc h (List.replicate n (.int .u8 (0:Int))) _) ⟨some (nw h),n,n⟩ (List.replicate n (.int .u8 (0:Int))):=Own.alc h _ 5 n 1 (by simp)
 refine⟨fun i m h'=>∃ (k:Nat) (l:List Value),i=k∧m+k=n∧Own h.size 1 h' ⟨some (nw h),n,n⟩ l∧l.length=n∧Keep h.size h h'∧∀ j,j<k→l[j]? = some (bv (byteAt v j)),n,⟨0,_,rfl,by omega,h0,by simp,((alc_ext _ _ _).toKeep),fun j hj=>by omega⟩,?_⟩
 rintro _ _ m h' ⟨k,l,rfl,hk,ho,hl,hkp,hj⟩
 refine IfB.dec (fun hlt=>?_) (fun hge=>?_)
 ·have hlt':k<n:=by have:(k:Int)<(n:Int):=hlt;omega
  have e8:iMul .i64 (8:Int) (k:Int)=((8*k:Nat):Int):=by rw[iMul64 (by omega)];push_cast;rfl
  rw[e8]
  refine⟨by omega,nw h,rfl,by omega,by simpa using hlt',?_⟩
  have e1:((k:Int).toNat*1)=k:=by simp
  rw[e1]
  rw[iShr_nat (k := .u64) (b:=8*k) (by simp[IntKind.bits];omega),bv_conv]
  obtain⟨g1,g2,g3,_,_⟩:=ho.set (a:=nw h) rfl (k:=k) (by omega) (bv (byteAt v k))
  refine⟨g1,m-1,by omega,k+1,_,?_,by omega,g2,by simpa using hl,hkp.trans g3,fun j hjk=>?_⟩
  ·rw[iAdd64 (by omega)];push_cast;rfl
  ·rw[List.getElem?_set]
   by_cases e:k=j
   ·subst e;simp[hl,hlt']
   ·rw[if_neg e];exact hj j (by omega)
 ·obtain rfl:k=n:=by have:¬ (k:Int)<(n:Int):=hge;omega
  refine⟨_,rfl,?_,by simp[leB_length],hkp.ext⟩
  have:l=(leB k v).map bv:=by
   apply List.ext_getElem?
   intro j
   by_cases hjk:j<k
   ·rw[hj j hjk,List.getElem?_map,leB_get hjk];rfl
   ·rw[List.getElem?_eq_none (by omega),List.getElem?_eq_none (by simp[leB_length];omega)]
  rw[← this];exact ho
theorem Put32_spec(v:Nat)(hv:v<2 ^ 32)(h:Hp):HC Tryz.prog 162 #[.int .u32 (v:Int)] h (NewB h (leB 4 v)):=by
 apply wc162
 unfold vc162
 have e:iConv .u64 (v:Int)=v:=by rw[iConv_nat u64s,Nat.mod_eq_of_lt (by simp only[IntKind.bits];omega)]
 rw[e]
 refine(put_spec v 4 (by omega) (by omega) h).mono ?_
 rintro r h' ⟨s,rfl,h1⟩
 exact⟨s,rfl,s,rfl,h1⟩
theorem Put64_spec(v:Nat)(hv:v<2 ^ 64)(h:Hp):HC Tryz.prog 160 #[.int .u64 (v:Int)] h (NewB h (leB 8 v)):=by
 apply wc160
 unfold vc160
 refine(put_spec v 8 (by omega) (by omega) h).mono ?_
 rintro r h' ⟨s,rfl,h1⟩
 exact⟨s,rfl,s,rfl,h1⟩
section
open Go.ChangeShapes Go.WideShapes Go.ChangeAt Go.RowKit
def Yes(h:Hp)(r:Value)(h':Hp):Prop:=r=.bool true∧Ext h h'
theorem toBelow{P:Program}{f:FuncId}{args:Array Value}{w:World}(H:HC P f args w.heap (Yes w.heap)):Calls P f args w fun e w'=>e=.returned (.bool true)∧Below w.heap.size w w':=by
 refine(H.2 w rfl).mono ?_
 rintro e w' ⟨v,rfl,hs,rfl,he⟩
 exact⟨rfl,hs.os,hs.tape,hs.output,he.size,he.block⟩
structure InI(k:IntKind)(h:Hp)(s:Sl)(l:List Int):Prop where
 len:l.length=s.len
 cap:s.len≤s.cap
 max:s.cap≤maxLen
 rd:RdC h s.base (l.map (Value.int k))
 wf:∀ n∈l,(Lit.int k n).wf=true
structure InB(h:Hp)(s:Sl)(l:List UInt8):Prop where
 len:l.length=s.len
 cap:s.len≤s.cap
 max:s.cap≤maxLen
 rd:RdC h s.base (l.map bv)
theorem InI.bytes{h:Hp}{s:Sl}{l:List Int}(H:InI .u8 h s l):∃ bs:List UInt8,InB h s bs:=by
 refine⟨l.map fun n=>UInt8.ofNat n.toNat,by simpa using H.len,H.cap,H.max,?_⟩
 have:(l.map fun n=>UInt8.ofNat n.toNat).map bv=l.map (Value.int .u8):=by
  rw[List.map_map]
  refine List.map_congr_left fun n hn=>?_
  have:=bounds_u8 (H.wf n hn)
  have h1:n.toNat<256:=by omega
  simp[bv,Nat.mod_eq_of_lt h1]
  omega
 rw[this];exact H.rd
end
section
open Go.ChangeShapes Go.WideShapes Go.ChangeAt Go.RowKit
theorem ints_of{H:Type}{enc:TypeId × Value→H}{P:Program}{w:World}{base fuel:Nat}{t e:TypeId}{k:IntKind}{v:Value}{x:DataW H × List MemPlace}
 (ht:P.underlying t=some (.slice e)) (he:P.underlying e=some (.int k)) (hc:P.cellsOf e=1)
 (hf:DataW.trod enc P w base (fun _=>true) true fuel t [v]=some x):∃ (s:Sl) (l:List Int),v=.slice s.base s.len s.cap∧InI k w.heap s l:=by
 rcases open_ints ht he hc hf with ⟨hcs,_⟩ | ⟨x,len,cap,zs,hcs,_,hl,hm,hz,_,hY,hwz⟩
 ·obtain rfl:v=.slice none 0 0:=by simpa using hcs
  exact⟨⟨none,0,0⟩,[],rfl,rfl,by simp,by simp[maxLen],RdC.nil _ _,by simp⟩
 ·obtain rfl:v=.slice (some x) len cap:=by simpa using hcs
  have hz':zs.length=cap:=by simpa using hz
  refine⟨⟨some x,len,cap⟩,zs.take len,rfl,by simp;omega,hl,hm,?_,fun n hn=>hwz n (List.mem_of_mem_take hn)⟩
  intro i v hv
  simp only[List.getElem?_map,List.getElem?_take]at hv
  split at hv
  ·rename_i hi
   have hi':i<zs.length:=by omega
   simp[List.getElem?_eq_getElem hi']at hv
   refine⟨x,rfl,?_⟩
   have:=hY i hi'
   rw[hcell_heap]at this
   rw[this,← hv]
   simp[List.getD,List.getElem?_eq_getElem hi']
  ·simp at hv
def slV(s:Sl):Value := .slice s.base s.len s.cap
instance:Inhabited Sl:=⟨Sl.nil⟩
end
theorem slEqual_spec{h:Hp}{s t:Sl}{a b:List UInt8}(ha:Rd 1 h s (a.map bv))(hb:Rd 1 h t (b.map bv))(hmax:a.length<9223372036854775807) :
 HC Tryz.prog 175 #[.slice s.base s.len s.cap,.slice t.base t.len t.cap] h fun r h'=>r=.bool (decide (a=b))∧h'=h:=by
 apply wc175
 unfold vc175
 have la:=ha.lenB
 have lb:=hb.lenB
 refine IfB.ne (fun hne=>⟨?_,rfl⟩) (fun heq=>?_)
 ·rw[decide_eq_false];rintro rfl;omega
 refine⟨fun i m h'=>h=h'∧∃ k:Nat,i=k∧m+k=a.length∧a.take k=b.take k,a.length,⟨rfl,0,rfl,rfl,rfl⟩,?_⟩
 rintro _ _ m _ ⟨rfl,k,rfl,hm,ht⟩
 refine IfB.dec (fun hlt=>?_) (fun hge=>?_)
 ·refine ixB ha.rd la k rfl (by omega) ?_
  refine ixB hb.rd lb k rfl (by omega) ?_
  refine IfB.ne (fun hne=>⟨?_,rfl⟩) (fun he=>?_)
  ·rw[decide_eq_false];rintro rfl;exact hne rfl
  ·refine⟨m-1,by omega,rfl,k+1,?_,by omega,?_⟩
   ·rw[iAdd64 (by omega)];push_cast;rfl
   ·rw[List.take_succ_eq_append_getElem (by omega),List.take_succ_eq_append_getElem (by omega),ht]
    congr 2
    exact UInt8.toNat_inj.1 (by omega)
 ·refine⟨?_,rfl⟩
  rw[List.take_of_length_le (by omega),List.take_of_length_le (by omega)]at ht
  rw[decide_eq_true ht]
theorem slClone_spec{h:Hp}{s:Sl}{l:List UInt8}(r:Rd 1 h s (l.map bv))(hmax:l.length≤140737488355328) :
 HC Tryz.prog 80 #[.slice s.base s.len s.cap] h (NewB h l):=by
 apply wc80
 unfold vc80
 have ll:=r.lenB
 refine IfB.nilp (fun hn=>?_) (fun a ha=>?_)
 ·have:l = []:=by
   rcases l with _ | ⟨x,l⟩
   ·rfl
   ·obtain⟨a,ha,_⟩:=r.rd 0 (bv x) rfl;rw[hn]at ha;cases ha
  subst this
  exact⟨Sl.nil,rfl,Own.nil _ _ _,rfl,.refl h⟩
 ·have o0:Own h.size 1 (alc h [] 5) ⟨some (nw h),0,0⟩ []:=Own.alc h [] 5 0 1 rfl
  refine AppC_own (news:=l.map bv) rfl o0 (by rw[size_alc];omega) (by simpa using ll) (r.ext (alc_ext _ _ _)).rd (cellOk_bv l) (by simp;omega) (by simp;omega) fun t h1 o1 l1 k1 _=>?_
  exact⟨t,rfl,by simpa using o1,by rw[l1];simp;omega,(((alc_ext h [] 5).toKeep).trans k1).ext⟩
theorem slGrow_spec(n:Nat)(hn:n≤140737488355328)(h:Hp) :
 HC Tryz.prog 267 #[.slice Sl.nil.base Sl.nil.len Sl.nil.cap,.int .i64 (n:Int)] h fun r h'=>∃ t:Sl,r=.slice t.base t.len t.cap∧Own h.size 1 h' t []∧t.len=0∧Ext h h':=by
 apply wc267
 unfold vc267
 have e0:iSub .i64 (n:Int) (iSub .i64 ((Sl.nil.cap:Nat):Int) ((Sl.nil.len:Nat):Int))=(n:Int):=by
  show iSub .i64 (n:Int) (iSub .i64 ((0:Nat):Int) ((0:Nat):Int))=_
  rw[iSub64 (a:=((0:Nat):Int)) (by omega),iSub64 (by omega)];omega
 rw[e0]
 refine IfB.dec (fun hh=>by omega) (fun _=>IfB.dec (fun hpos=>⟨by omega,by simp[Sl.nil],by omega,by omega,?_⟩) (fun _=>⟨Sl.nil,rfl,Own.nil _ _ _,rfl,.refl h⟩))
 have ec:cutSl Sl.nil (0:Int) ((Sl.nil.cap:Nat):Int) ((Sl.nil.cap:Nat):Int) 1=Sl.nil:=rfl
 rw[ec]
 refine AppZ_own (m:=n) rfl (Own.nil h.size 1 h) (Nat.le_refl _) rfl (by simp[Sl.nil];omega) (by simp[Sl.nil];omega) fun t h1 o1 l1 k1 _=>?_
 refine⟨by omega,by simp[Sl.nil],by simp[Sl.nil],by omega,?_⟩
 have hcap:=o1.le
 have hl:=o1.len
 refine⟨_,rfl,⟨by simp[cutSl,Sl.nil],by simp[cutSl,Sl.nil],?_⟩,by simp[cutSl,Sl.nil],k1.ext⟩
 rcases o1.row with ⟨g1,g2⟩ | ⟨b,c,e,g1,g2,g3,g4,g5⟩
 ·exact .inl ⟨by simp[cutSl,g1],by simp[cutSl,g2]⟩
 ·refine .inr ⟨b,c,e,?_,g2,g3,by simpa [cutSl] using g4,by simp[cutSl,Sl.nil]⟩
  simp only[cutSl,g1]
  split
  ·rfl
  ·simp[add_none]
def catS(l:List (Sl × List UInt8)):List UInt8:=(l.map (·.2)).flatten
theorem catS_snoc{l:List (Sl × List UInt8)}{j:Nat}(hj:j<l.length):catS (l.take (j+1))=catS (l.take j)++l[j].2:=by
 unfold catS;rw[List.take_succ_eq_append_getElem hj,List.map_append,List.flatten_append]
 simp only[List.map_cons,List.map_nil,List.flatten_cons,List.flatten_nil,List.append_nil]
theorem catS_take_le(l:List (Sl × List UInt8))(j:Nat):(catS (l.take j)).length≤(catS l).length:=by
 have:catS l=catS (l.take j)++catS (l.drop j):=by
  unfold catS
  rw[← List.flatten_append,← List.map_append,List.take_append_drop]
 rw[this,List.length_append];omega
theorem slConcat_spec{h:Hp}{s:Sl}{rows:List (Sl × List UInt8)}(hl:rows.length=s.len)(hr:RdC h s.base (rows.map fun p=>slV p.1))(each:∀ p∈rows,Rd 1 h p.1 (p.2.map bv))(hs:s.len≤1000000)(hmax:(catS rows).length≤140737488355328) :
 HC Tryz.prog 224 #[.slice s.base s.len s.cap] h (NewB h (catS rows)):=by
 apply wc224
 unfold vc224
 have row:∀ {h9:Hp},Ext h h9 →∀ (j:Nat) (hj:j<rows.length) {K:Sl→Prop},K rows[j].1 →∃ a:Addr,s.base=some a∧0≤(j:Int)∧(j:Int)<(s.len:Int)∧∃ c:Sl,hY h9 (a.add ((j:Int).toNat*1))=some (.slice c.base c.len c.cap)∧K c:=fun e9 j hj K hK=>
  ix1 (hr.ext e9) (by simpa using hl) j rfl (by simpa using hj) fun a _ hc=>⟨_,by simpa [slV] using hc,hK⟩
 have ln:∀ (j:Nat) (hj:j<rows.length),rows[j].1.len=rows[j].2.length∧(catS (rows.take j)).length+rows[j].2.length≤(catS rows).length:=fun j hj=>by
  have h1:=(each rows[j] (List.getElem_mem hj)).lenB
  have h2:=catS_take_le rows (j+1)
  rw[catS_snoc hj,List.length_append]at h2
  exact⟨h1.symm,h2⟩
 refine⟨fun n i m h'=>h=h'∧∃ j:Nat,i=j∧m+j=rows.length∧n=((catS (rows.take j)).length:Int),rows.length,⟨rfl,0,rfl,rfl,rfl⟩,?_⟩
 rintro _ _ _ m _ ⟨rfl,j,rfl,hm,rfl⟩
 refine IfB.dec (fun hlt=>?_) (fun hge=>?_)
 ·have hj:j<rows.length:=by omega
  obtain⟨l1,l2⟩:=ln j hj
  refine row (.refl h) j hj ?_
  rw[iAdd64 (by omega)]
  refine IfB.dec (fun hh=>by omega) (fun _=>⟨m-1,by omega,rfl,j+1,by rw[iAdd64 (by omega)];push_cast;rfl,by omega,?_⟩)
  rw[catS_snoc hj,List.length_append,l1];push_cast;rfl
 ·obtain rfl:j=rows.length:=by omega
  rw[List.take_length]
  refine(slGrow_spec _ hmax h).mono ?_
  rintro _ h1 ⟨t,rfl,o1,t0,e1⟩
  refine⟨_,rfl,?_⟩
  refine⟨fun t i m h'=>∃ j:Nat,i=j∧m+j=rows.length∧Ext h h'∧Own h.size 1 h' t ((catS (rows.take j)).map bv),rows.length,⟨0,rfl,rfl,e1,by simpa [catS] using o1⟩,?_⟩
  rintro _ t2 _ m2 h2 ⟨q,rfl,hq,e2,o2⟩
  refine IfB.dec (fun hlt2=>?_) (fun hge2=>?_)
  ·have hq':q<rows.length:=by omega
   obtain⟨l1,l2⟩:=ln q hq'
   have hbl:=o2.len
   rw[List.length_map]at hbl
   refine row e2 q hq' ?_
   have hR:=(each rows[q] (List.getElem_mem hq')).ext e2
   refine AppC_own (news:=rows[q].2.map bv) rfl o2 e2.size (by simpa using l1.symm) hR.rd (cellOk_bv _) (by omega) (by omega) fun r h3 o3 l3 k3 _=>?_
   rw[← List.map_append,← catS_snoc hq']at o3
   exact⟨m2-1,by omega,q+1,by rw[iAdd64 (by omega)];push_cast;rfl,by omega,(e2.toKeep.trans k3).ext,o3⟩
  ·obtain rfl:q=rows.length:=by omega
   rw[List.take_length]at o2
   exact⟨t2,rfl,o2,by simpa using o2.len.symm,e2⟩
theorem blk_lt{h:Hp}{b:Nat}{o:Obj}(e:h[b]? = some o):b<h.size:=(Array.getElem?_eq_some_iff.1 e).1
structure Only(z:Nat)(h h':Hp):Prop where
 size:h.size≤h'.size
 block:∀ b,b<h.size→b≠z→h'[b]? = h[b]?
theorem Only.ext{z:Nat}{h0 h h':Hp}(e:Ext h0 h)(o:Only z h h')(hz:h0.size≤z):Ext h0 h':=⟨Nat.le_trans e.size o.size,fun b hb=>(o.block b (Nat.lt_of_lt_of_le hb e.size) (by omega)).trans (e.block b hb)⟩
def Row(h:Hp)(b:Nat)(l:List Value):Prop:=∃ e,h[b]? = some (.cells l.toArray e (0,0))
theorem Row.eq{h h':Hp}{b:Nat}{l:List Value}(x:Row h b l)(e:h'[b]? = h[b]?):Row h' b l:=by
 obtain⟨t,ht⟩:=x;exact⟨t,by rw[e,ht]⟩
theorem Row.lt{h:Hp}{b:Nat}{l:List Value}(x:Row h b l):b<h.size:=by obtain⟨t,ht⟩:=x;exact blk_lt ht
theorem Row.get{h:Hp}{b:Nat}{l:List Value}(x:Row h b l){i:Nat}{v:Value}(hv:l[i]? = some v):hY h ((⟨b,0,none⟩:Addr).add i)=some v:=by
 obtain⟨t,ht⟩:=x;rw[add_none,hcell_blk ht];simpa using hv
theorem Row.set{h:Hp}{b:Nat}{l:List Value}(x:Row h b l){i:Nat}(hi:i<l.length)(v:Value) :
 StOk h ((⟨b,0,none⟩:Addr).add i)∧Row (hset h ((⟨b,0,none⟩:Addr).add i) v) b (l.set i v)∧(∀ k,k≠b→(hset h ((⟨b,0,none⟩:Addr).add i) v)[k]? = h[k]?)∧(hset h ((⟨b,0,none⟩:Addr).add i) v).size=h.size:=by
 obtain⟨t,ht⟩:=x
 refine⟨⟨?_,?_⟩,⟨t,?_⟩,fun k hk=>hset_other _ _ _ (by rw[add_block];exact hk),size_hset _ _ _⟩
 ·rw[add_none,hcell_blk ht];simp[hi]
 ·rw[add_none];exact hfroz_blk ht _
 ·rw[add_none,hset_blk ht];simp
theorem Row.alc(h:Hp)(l:List Value)(t:Nat):Row (alc h l t) h.size l:=⟨t,alc_new h l t⟩
theorem Row.put{h:Hp}{b:Nat}{l:List Value}(x:Row h b l){vs:List Value}(hl:vs.length=l.length)(hok:∀ v∈vs,cellOk v=true){K:Hp→Prop}
 (hK:∀ h',Row h' b vs→h'.size=h.size→(∀ k,k≠b→h'[k]? = h[k]?)→K h'):stCells ⟨b,0,none⟩ 0 vs h K:=by
 obtain⟨t,ht⟩:=x
 refine stCells_row vs 0 0 h _ ht (by simp[hl]) hok ?_
 intro h' c' h1 h2 h3 h4 h5
 refine hK h' ⟨t,?_⟩ h2 h3
 rw[h1]
 congr 2
 apply Array.ext_getElem?
 intro j
 rw[h5 j]
 by_cases hj:j<vs.length
 ·rw[if_pos (by omega)];simp
 ·rw[if_neg (by omega)]
  rw[List.getElem?_toArray,List.getElem?_toArray,List.getElem?_eq_none (by omega),List.getElem?_eq_none (by omega)]
theorem Row.get0{h:Hp}{b:Nat}{l:List Value}(x:Row h b l){v:Value}(hv:l[0]? = some v):hY h ⟨b,0,none⟩=some v:=by
 have:=x.get (i:=0) hv;rwa[add_none]at this
theorem Row.ext{h h':Hp}{b:Nat}{l:List Value}(x:Row h b l)(e:Ext h h'):Row h' b l:=x.eq (e.block _ x.lt)
theorem Own.only{lo sz zb:Nat}{h h':Hp}{s:Sl}{l:List Value}(o:Own lo sz h s l)(y:Only zb h h')(hz:zb<lo):Own lo sz h' s l:=
 o.eq fun a ha=>y.block _ (o.lt ha).2 (by have:=(o.lt ha).1;omega)
end Go.Proofs.YtdpdkpfnfllipaaGreatDoor
