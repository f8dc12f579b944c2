/- The functions that the law reaches as plain functions over plain data, each with a bound on its rounds; definitions only. -/
import Derived.Test.YtiglamoomghakaaDoorE3
import Derived.IntWalk
import Derived.Laws.Bits64
import Derived.KernelRfl
set_option linter.unusedVariables false
namespace Go.Ev.G
open Go Go.Ev

set_option maxRecDepth 100000
def spec_l1In(a0:Int)(a1:Int)(a2:Int):Option (Bool):=(bif decide (a0≥a1)then some (decide (a0≤a2))else some false)

def impl_inside(a0:Int)(a1:Int)(a2:Int):Option (Bool):=(bif decide (a0≥a1)then some (decide (a0≤a2))else some false)

def laws_roomBehind(a0:Int):Option (Int):=(bif ((Int.tmod a0 6)==5)then some 0 else(bif ((Int.tmod a0 3)==0)then some 1 else some a0))

def spec_l1All_L26(k:Nat):Nat→Int→Int→(List Int)→Int→Int→Option ((Bool) ⊕ (Unit))
 | 0,_,_,_,_,_=>none
 | n+1,x1,x2,x9,x10,x11=>(bif decide (x11<x10)then(bif decide (0≤x11)then(bif decide (x11<(x9.length:Int))then(Option.bind (spec_l1In (x9.getD (Int.toNat x11) 0) x1 x2) fun r1=>(bif (!r1)then some (Sum.inl false)else(spec_l1All_L26 k n x1 x2 x9 x10 (IntKind.wrap .i64 (x11+1)))))else none)else none)else some (Sum.inr ()))
def spec_l1All(k:Nat)(a0:List Int)(a1:Int)(a2:Int):Option (Bool):=(both (R:=Bool) (P:=Unit) (spec_l1All_L26 k k a1 a2 a0 (a0.length:Int) 0) (fun q4=>some q4) (fun y3=>some true))

def laws_toIntS_L122(k:Nat):Nat→(List Int)→(List Int)→Int→Option ((List Int×List Int) ⊕ ((List Int)×(List Int)×Unit))
 | 0,_,_,_=>none
 | n+1,x0,x5,x6=>(bif decide (x6<(x0.length:Int))then(bif decide (0≤x6)then(bif decide (x6<(x0.length:Int))then(bif decide (0≤x6)then(bif decide (x6<(x5.length:Int))then(laws_toIntS_L122 k n x0 (x5.set (Int.toNat x6) (x0.getD (Int.toNat x6) 0)) (IntKind.wrap .i64 (x6+1)))else none)else none)else none)else none)else some (Sum.inr (x0,x5,())))
def laws_toIntS_L250(k:Nat):Nat→(List Int)→(List Int)→Int→Option ((List Int×List Int) ⊕ ((List Int)×(List Int)×Unit))
 | 0,_,_,_=>none
 | n+1,x0,x5,x7=>(bif decide (x7<(x5.length:Int))then(bif decide (0≤x7)then(bif decide (x7<(x5.length:Int))then(laws_toIntS_L250 k n x0 (x5.set (Int.toNat x7) (-7000000000000000101)) (IntKind.wrap .i64 (x7+1)))else none)else none)else some (Sum.inr (x0,x5,())))
def laws_toIntS(k:Nat)(a0:List Int)(a1:Bool):Option (List Int×List Int):=(both (R:=List Int×List Int) (P:=(List Int)×Unit) ((bif a1 then(bif ((a0.length:Int)==0)then some (Sum.inl (([]:List Int),([]:List Int)))else some (Sum.inr (a0,())))else some (Sum.inr (a0,())))) (fun q9=>some q9) (fun y1=>(Option.bind (laws_roomBehind (y1.1.length:Int)) fun r2=>(bif decide (0≤(IntKind.wrap .i64 ((y1.1.length:Int)+r2)))then(bif decide ((Int.toNat (IntKind.wrap .i64 ((y1.1.length:Int)+r2)))<274877906944)then(both (R:=List Int×List Int) (P:=(List Int)×(List Int)×Unit) (laws_toIntS_L122 k k y1.1 (List.replicate (Int.toNat (IntKind.wrap .i64 ((y1.1.length:Int)+r2))) (0:Int)) 0) (fun q5=>some q5) (fun y4=>(both (R:=List Int×List Int) (P:=(List Int)×(List Int)×Unit) (laws_toIntS_L250 k k y4.1 y4.2.1 (y4.1.length:Int)) (fun q8=>some q8) (fun y7=>(bif decide (0≤(y7.1.length:Int))then(bif decide ((y7.1.length:Int)≤(y7.2.1.length:Int))then some ((y7.2.1.take (Int.toNat (y7.1.length:Int))),(y7.2.1.drop (Int.toNat (y7.1.length:Int))))else none)else none)))))else none)else none))))

def laws_eqIntS_L58(k:Nat):Nat→(List Int)→(List Int)→Int→Option ((Bool) ⊕ (Unit))
 | 0,_,_,_=>none
 | n+1,x0,x1,x5=>(bif decide (x5<(x0.length:Int))then(bif decide (0≤x5)then(bif decide (x5<(x0.length:Int))then(bif decide (0≤x5)then(bif decide (x5<(x1.length:Int))then(bif ((x0.getD (Int.toNat x5) 0) != (x1.getD (Int.toNat x5) 0))then some (Sum.inl false)else(laws_eqIntS_L58 k n x0 x1 (IntKind.wrap .i64 (x5+1))))else none)else none)else none)else none)else some (Sum.inr ()))
def laws_eqIntS(k:Nat)(a0:List Int)(a1:List Int):Option (Bool):=(bif ((a0.length:Int) != (a1.length:Int))then some false else(both (R:=Bool) (P:=Unit) (laws_eqIntS_L58 k k a0 a1 0) (fun q3=>some q3) (fun y2=>some true)))

def laws_intactIntS(k:Nat)(a0:List Int×List Int)(a1:List Int×List Int):Option (Bool):=(Option.bind (laws_roomBehind (a1.1.length:Int)) fun r1=>(bif ((a0.1.length:Int)==(a1.1.length:Int))then(bif decide (0≤(IntKind.wrap .i64 ((a1.1.length:Int)+r1)))then(bif decide ((IntKind.wrap .i64 ((a1.1.length:Int)+r1))≤((a0.1++a0.2).length:Int))then(bif decide (0≤(IntKind.wrap .i64 ((a1.1.length:Int)+r1)))then(bif decide ((IntKind.wrap .i64 ((a1.1.length:Int)+r1))≤((a1.1++a1.2).length:Int))then(Option.bind (laws_eqIntS k (((a0.1++a0.2).take (Int.toNat (IntKind.wrap .i64 ((a1.1.length:Int)+r1)))).drop 0) (((a1.1++a1.2).take (Int.toNat (IntKind.wrap .i64 ((a1.1.length:Int)+r1)))).drop 0)) fun r2=>some r2)else none)else none)else none)else none)else some false))

end Go.Ev.G

namespace Go.Ev.G
open Go Go.Ev
set_option maxRecDepth 100000
def impl_areLabels_1(a0:Int):Option (Bool):=(Option.bind (impl_inside a0 0 5) fun r1=>some (!r1))

def slices_IndexFunc_int_int_impl_areLabels_1_L26(k:Nat):Nat→(List Int)→Unit→Int→Int→Option ((Int) ⊕ (Unit))
 | 0,_,_,_,_=>none
 | n+1,x0,x1,x7,x8=>(bif decide (x8<x7)then(bif decide (0≤x8)then(bif decide (x8<(x0.length:Int))then(Option.bind (impl_areLabels_1 (x0.getD (Int.toNat x8) 0)) fun r1=>(bif r1 then some (Sum.inl x8)else(slices_IndexFunc_int_int_impl_areLabels_1_L26 k n x0 () x7 (IntKind.wrap .i64 (x8+1)))))else none)else none)else some (Sum.inr ()))
def slices_IndexFunc_int_int_impl_areLabels_1(k:Nat)(a0:List Int)(a1:Unit):Option (Int):=(both (R:=Int) (P:=Unit) (slices_IndexFunc_int_int_impl_areLabels_1_L26 k k a0 () (a0.length:Int) 0) (fun q4=>some q4) (fun y3=>some (-1)))

def slices_ContainsFunc_int_int_impl_areLabels_1(k:Nat)(a0:List Int)(a1:Unit):Option (Bool):=(Option.bind (slices_IndexFunc_int_int_impl_areLabels_1 k a0 ()) fun r1=>some (decide (r1≥0)))

def impl_areLabels(k:Nat)(a0:List Int):Option (Bool):=(Option.bind (slices_ContainsFunc_int_int_impl_areLabels_1 k a0 ()) fun r1=>some (!r1))

end Go.Ev.G

namespace Go.Ev.G
open Go Go.Ev
set_option maxRecDepth 100000
def spec_l1Num_B(k:Nat)(rc:Int→Option (ByteArray))(a0:Int):Option (ByteArray):=(bif decide (a0<10)then some (strOfNums ([(IntKind.wrap .u8 (IntKind.wrap .i64 (48+a0)))]:List Int))else(Option.bind (rc (IntKind.wrap .i64 (Int.tdiv a0 10))) fun r1=>(bif decide ((r1:ByteArray).size+((strOfNums ([(IntKind.wrap .u8 (IntKind.wrap .i64 (48+(Int.tmod a0 10))))]:List Int)):ByteArray).size<274877906944)then some ((r1:ByteArray)++((strOfNums ([(IntKind.wrap .u8 (IntKind.wrap .i64 (48+(Int.tmod a0 10))))]:List Int)):ByteArray))else none)))
def spec_l1Num_R(k:Nat):Nat→Int→Option (ByteArray)
 | 0,_=>none
 | n+1,a0=>spec_l1Num_B k (spec_l1Num_R k n) a0
def spec_l1Num(k:Nat)(a0:Int):Option (ByteArray):=spec_l1Num_R k k a0

def spec_LabelsText_L122(k:Nat):Nat→ByteArray→(List Int)→Int→Int→Option ((ByteArray×Bool) ⊕ (ByteArray×Unit))
 | 0,_,_,_,_=>none
 | n+1,x4,x15,x16,x17=>(bif decide (x17<x16)then(bif decide (0≤x17)then(bif decide (x17<(x15.length:Int))then(Option.bind (spec_l1Num k (x15.getD (Int.toNat x17) 0)) fun r2=>(bif decide ((x4:ByteArray).size+(r2:ByteArray).size<274877906944)then(spec_LabelsText_L122 k n ((x4:ByteArray)++(r2:ByteArray)) x15 x16 (IntKind.wrap .i64 (x17+1)))else none))else none)else none)else some (Sum.inr (x4,())))
def spec_LabelsText(k:Nat)(a0:List Int):Option (ByteArray×Bool):=(bif decide ((a0.length:Int)>96)then some (⟨#[]⟩,false)else(Option.bind (spec_l1All k a0 0 5) fun r1=>(bif (!r1)then some (⟨#[]⟩,false)else(both (R:=ByteArray×Bool) (P:=ByteArray×Unit) (spec_LabelsText_L122 k k ⟨#[]⟩ a0 (a0.length:Int) 0) (fun q5=>some q5) (fun y4=>some (y4.1,true))))))

def internal_strconv_small(a0:Int):Option (ByteArray):=(bif decide (a0<10)then(bif decide (0≤a0)then(bif decide (a0≤(IntKind.wrap .i64 (a0+1)))then(bif decide ((IntKind.wrap .i64 (a0+1))≤((⟨#[48,49,50,51,52,53,54,55,56,57,97,98,99,100,101,102,103,104,105,106,107,108,109,110,111,112,113,114,115,116,117,118,119,120,121,122]⟩:ByteArray).size:Int))then some ((⟨#[48,49,50,51,52,53,54,55,56,57,97,98,99,100,101,102,103,104,105,106,107,108,109,110,111,112,113,114,115,116,117,118,119,120,121,122]⟩:ByteArray).extract (Int.toNat a0) (Int.toNat (IntKind.wrap .i64 (a0+1))))else none)else none)else none)else(bif decide (0≤(IntKind.wrap .i64 (a0*2)))then(bif decide ((IntKind.wrap .i64 (a0*2))≤(IntKind.wrap .i64 ((IntKind.wrap .i64 (a0*2))+2)))then(bif decide ((IntKind.wrap .i64 ((IntKind.wrap .i64 (a0*2))+2))≤((⟨#[48,48,48,49,48,50,48,51,48,52,48,53,48,54,48,55,48,56,48,57,49,48,49,49,49,50,49,51,49,52,49,53,49,54,49,55,49,56,49,57,50,48,50,49,50,50,50,51,50,52,50,53,50,54,50,55,50,56,50,57,51,48,51,49,51,50,51,51,51,52,51,53,51,54,51,55,51,56,51,57,52,48,52,49,52,50,52,51,52,52,52,53,52,54,52,55,52,56,52,57,53,48,53,49,53,50,53,51,53,52,53,53,53,54,53,55,53,56,53,57,54,48,54,49,54,50,54,51,54,52,54,53,54,54,54,55,54,56,54,57,55,48,55,49,55,50,55,51,55,52,55,53,55,54,55,55,55,56,55,57,56,48,56,49,56,50,56,51,56,52,56,53,56,54,56,55,56,56,56,57,57,48,57,49,57,50,57,51,57,52,57,53,57,54,57,55,57,56,57,57]⟩:ByteArray).size:Int))then some ((⟨#[48,48,48,49,48,50,48,51,48,52,48,53,48,54,48,55,48,56,48,57,49,48,49,49,49,50,49,51,49,52,49,53,49,54,49,55,49,56,49,57,50,48,50,49,50,50,50,51,50,52,50,53,50,54,50,55,50,56,50,57,51,48,51,49,51,50,51,51,51,52,51,53,51,54,51,55,51,56,51,57,52,48,52,49,52,50,52,51,52,52,52,53,52,54,52,55,52,56,52,57,53,48,53,49,53,50,53,51,53,52,53,53,53,54,53,55,53,56,53,57,54,48,54,49,54,50,54,51,54,52,54,53,54,54,54,55,54,56,54,57,55,48,55,49,55,50,55,51,55,52,55,53,55,54,55,55,55,56,55,57,56,48,56,49,56,50,56,51,56,52,56,53,56,54,56,55,56,56,56,57,57,48,57,49,57,50,57,51,57,52,57,53,57,54,57,55,57,56,57,57]⟩:ByteArray).extract (Int.toNat (IntKind.wrap .i64 (a0*2))) (Int.toNat (IntKind.wrap .i64 ((IntKind.wrap .i64 (a0*2))+2))))else none)else none)else none))

def internal_strconv_FormatInt(a0:Int)(a1:Int):Option (ByteArray):=(bif (a1==10)then(both (R:=ByteArray) (P:=Int×Unit) ((bif decide (0≤a0)then(bif decide (a0<100)then(Option.bind (internal_strconv_small a0) fun r1=>some (Sum.inl r1))else some (Sum.inr (a0,())))else some (Sum.inr (a0,())))) (fun q5=>some q5) (fun y2=>(both (R:=ByteArray) (P:=Int×(Int×Int×Int×Int×Int×Int×Int×Int×Int×Int×Int×Int×Int×Int×Int×Int×Int×Int×Int×Int×Int×Int×Int×Int)×Int×Unit) ((bif decide (y2.1<0)then some (Sum.inr (y2.1,(0,0,0,0,0,0,0,0,0,0,0,0,0,0,0,0,0,0,0,0,0,0,0,0),(IntKind.wrap .u64 (0 - (IntKind.wrap .u64 y2.1))),()))else some (Sum.inr (y2.1,(0,0,0,0,0,0,0,0,0,0,0,0,0,0,0,0,0,0,0,0,0,0,0,0),(IntKind.wrap .u64 y2.1),())))) (fun q4=>some q4) (fun y3=>none))))else none)

def internal_strconv_Itoa(a0:Int):Option (ByteArray):=(Option.bind (internal_strconv_FormatInt a0 10) fun r1=>some r1)

def strconv_Itoa(a0:Int):Option (ByteArray):=(Option.bind (internal_strconv_Itoa a0) fun r1=>some r1)

def impl_digitsText_L58(k:Nat):Nat→ByteArray→(List Int)→Int→Int→Option ((ByteArray) ⊕ (ByteArray×Unit))
 | 0,_,_,_,_=>none
 | n+1,x3,x6,x7,x8=>(bif decide (x8<x7)then(bif decide (0≤x8)then(bif decide (x8<(x6.length:Int))then(Option.bind (strconv_Itoa (x6.getD (Int.toNat x8) 0)) fun r1=>(bif decide ((x3:ByteArray).size+(r1:ByteArray).size<274877906944)then(impl_digitsText_L58 k n ((x3:ByteArray)++(r1:ByteArray)) x6 x7 (IntKind.wrap .i64 (x8+1)))else none))else none)else none)else some (Sum.inr (x3,())))
def impl_digitsText(k:Nat)(a0:List Int):Option (ByteArray):=(both (R:=ByteArray) (P:=ByteArray×Unit) (impl_digitsText_L58 k k ⟨#[]⟩ a0 (a0.length:Int) 0) (fun q4=>some q4) (fun y3=>some y3.1))

def impl_LabelsText(k:Nat)(a0:List Int):Option (ByteArray×Bool):=(bif decide ((a0.length:Int)>96)then some (⟨#[]⟩,false)else(Option.bind (impl_areLabels k a0) fun r1=>(bif (!r1)then some (⟨#[]⟩,false)else(Option.bind (impl_digitsText k a0) fun r2=>some (r2,true)))))

def laws_FnExactLabelsText(k:Nat)(a0:List Int):Option (Bool):=(bif decide ((a0.length:Int)>1000000)then some true else(Option.bind (laws_toIntS k a0 false) fun r1=>(Option.bind (spec_LabelsText k r1.1) fun r2=>(Option.bind (laws_toIntS k a0 false) fun r3=>(Option.bind (impl_LabelsText k r3.1) fun r4=>(bif (!((r4.1:ByteArray).toList==(r2.1:ByteArray).toList))then some false else(bif (!(r4.2==r2.2))then some false else(Option.bind (laws_toIntS k a0 false) fun r5=>(Option.bind (laws_intactIntS k r3 r5) fun r6=>(bif (!r6)then some false else(Option.bind (laws_toIntS k a0 true) fun r7=>(Option.bind (impl_LabelsText k r7.1) fun r8=>(bif (!((r8.1:ByteArray).toList==(r2.1:ByteArray).toList))then some false else(bif (!(r8.2==r2.2))then some false else some true))))))))))))))
end Go.Ev.G

