/- The functions that the law reaches as plain functions over plain data, each with a bound on its rounds; definitions only. -/
import Derived.Test.YtonaeidijgneiaaE3
import Derived.IntWalk
import Derived.Laws.Bits64
set_option linter.unusedVariables false
namespace Go.Ev.G
open Go Go.Ev
abbrev bT1_1:Type:=(List (List (Int×Int)))×Bool
abbrev bT1_2:Type:=(List (List (Int×Int)))×Unit
abbrev bT1_3:Type:=(Int×Int)×Bool
abbrev bT1_4:Type:=(List (Int×Int))×Bool
abbrev bT1_5:Type:=(List (Int×Int))×Unit
set_option maxRecDepth 100000
def spec_l1In(a0:Int)(a1:Int)(a2:Int):Option (Bool):=(bif decide (a0≥a1)then some (decide (a0≤a2))else some false)

def spec_dyInt(a0:Int):Option (Int×Int):=some (a0,0)

def spec_UnitTable_L122(k:Nat):Nat→Int→(List (List (Int×Int)))→Int→Option (((List (List (Int×Int)))×Bool) ⊕ ((List (List (Int×Int)))×Unit))
 | 0,_,_,_=>none
 | n+1,x0,x4,x5=>(bif decide (x5<x0)then(bif decide (0≤x0)then(bif decide ((Int.toNat (x0))<274877906944)then(Option.bind (spec_dyInt 1) fun r2=>(bif decide (0≤x5)then(bif decide (x5<((List.replicate (Int.toNat x0) ((0,0):Int×Int)).length:Int))then(bif decide (x4.length+([((List.replicate (Int.toNat x0) ((0,0):Int×Int)).set (Int.toNat x5) r2)]:List (List (Int×Int))).length<274877906944)then(spec_UnitTable_L122 k n x0 (x4++([((List.replicate (Int.toNat x0) ((0,0):Int×Int)).set (Int.toNat x5) r2)]:List (List (Int×Int)))) (IntKind.wrap .i64 (x5+1)))else none)else none)else none))else none)else none)else some (Sum.inr (x4,())))
def spec_UnitTable(k:Nat)(a0:Int):Option ((List (List (Int×Int)))×Bool):=(Option.bind (spec_l1In a0 1 3) fun r1=>(bif (!r1)then some (([]:List (List (Int×Int))),false)else(both (R:=bT1_1) (P:=bT1_2) (spec_UnitTable_L122 k k a0 [] 0) (fun q5=>some q5) (fun y4=>some (y4.1,true)))))

def impl_inside(a0:Int)(a1:Int)(a2:Int):Option (Bool):=(bif decide (a0≥a1)then some (decide (a0≤a2))else some false)

def impl_integer(a0:Int):Option (Int×Int):=some (a0,0)

def impl_UnitTable_L122(k:Nat):Nat→Int→(List (List (Int×Int)))→Int→Int→Option (((List (List (Int×Int)))×Bool) ⊕ ((List (List (Int×Int)))×Unit))
 | 0,_,_,_,_=>none
 | n+1,x0,x4,x10,x11=>(bif decide (x11<x10)then(bif decide (0≤x0)then(bif decide ((Int.toNat (x0))<274877906944)then(Option.bind (impl_integer 1) fun r2=>(bif decide (0≤x11)then(bif decide (x11<((List.replicate (Int.toNat x0) ((0,0):Int×Int)).length:Int))then(bif decide (x4.length+([((List.replicate (Int.toNat x0) ((0,0):Int×Int)).set (Int.toNat x11) r2)]:List (List (Int×Int))).length<274877906944)then(impl_UnitTable_L122 k n x0 (x4++([((List.replicate (Int.toNat x0) ((0,0):Int×Int)).set (Int.toNat x11) r2)]:List (List (Int×Int)))) x10 (IntKind.wrap .i64 (x11+1)))else none)else none)else none))else none)else none)else some (Sum.inr (x4,())))
def impl_UnitTable(k:Nat)(a0:Int):Option ((List (List (Int×Int)))×Bool):=(Option.bind (impl_inside a0 1 3) fun r1=>(bif (!r1)then some (([]:List (List (Int×Int))),false)else(both (R:=bT1_1) (P:=bT1_2) (impl_UnitTable_L122 k k a0 [] a0 0) (fun q5=>some q5) (fun y4=>some (y4.1,true)))))

def spec_dyPower(a0:Int):Option (Int):=(bif decide ((IntKind.wrap .u64 a0)<0)then none else some (IntKind.wrap .i64 (1*2 ^ min (Int.toNat (IntKind.wrap .u64 a0)) (IntKind.bits .i64))))

def spec_dyGood(a0:Int×Int):Option (Bool):=(Option.bind (spec_l1In a0.2 0 24) fun r1=>(bif r1 then(Option.bind (spec_l1In a0.1 (-1099511627776) 1099511627776) fun r2=>(bif r2 then(bif (a0.2==0)then some true else some ((Int.tmod a0.1 2) != 0))else some false))else some false))

def spec_l1All_L26(k:Nat):Nat→Int→Int→(List Int)→Int→Int→Option ((Bool) ⊕ (Unit))
 | 0,_,_,_,_,_=>none
 | n+1,x1,x2,x9,x10,x11=>(bif decide (x11<x10)then(bif decide (0≤x11)then(bif decide (x11<(x9.length:Int))then(Option.bind (spec_l1In (x9.getD (Int.toNat x11) 0) x1 x2) fun r1=>(bif (!r1)then some (Sum.inl false)else(spec_l1All_L26 k n x1 x2 x9 x10 (IntKind.wrap .i64 (x11+1)))))else none)else none)else some (Sum.inr ()))
def spec_l1All(k:Nat)(a0:List Int)(a1:Int)(a2:Int):Option (Bool):=(both (R:=Bool) (P:=Unit) (spec_l1All_L26 k k a1 a2 a0 (a0.length:Int) 0) (fun q4=>some q4) (fun y3=>some true))

def spec_mxSquare(k:Nat)(a0:Int)(a1:List Int):Option (Bool):=(Option.bind (spec_l1In a0 1 3) fun r1=>(bif r1 then(Option.bind (spec_l1All k a1 a0 a0) fun r2=>some r2)else some false))

def spec_mxGood_L29898(k:Nat):Nat→(List (List (Int×Int)))→(List Int)→(List (Int×Int))→(List (List (Int×Int)))→Int→Int→(List (Int×Int))→Int→Int→Option ((Bool) ⊕ ((List (List (Int×Int)))×(List Int)×(List (Int×Int))×(List (List (Int×Int)))×Int×Int×Unit))
 | 0,_,_,_,_,_,_,_,_,_=>none
 | n+1,x0,x3,x5,x8,x9,x10,x14,x15,x16=>(bif decide (x16<x15)then(bif decide (0≤x16)then(bif decide (x16<(x14.length:Int))then(Option.bind (spec_dyGood (x14.getD (Int.toNat x16) (0,0))) fun r1=>(bif (!r1)then some (Sum.inl false)else(spec_mxGood_L29898 k n x0 x3 x5 x8 x9 x10 x14 x15 (IntKind.wrap .i64 (x16+1)))))else none)else none)else some (Sum.inr (x0,x3,x5,x8,x9,x10,())))
def spec_mxGood_L58(k:Nat):Nat→(List (List (Int×Int)))→(List Int)→(List (List (Int×Int)))→Int→Int→Option ((Bool) ⊕ ((List (List (Int×Int)))×(List Int)×Unit))
 | 0,_,_,_,_,_=>none
 | n+1,x0,x3,x8,x9,x10=>(bif decide (x10<x9)then(bif decide (0≤x10)then(bif decide (x10<(x8.length:Int))then(both (R:=Bool) (P:=(List (List (Int×Int)))×(List Int)×(List (Int×Int))×(List (List (Int×Int)))×Int×Int×Unit) (spec_mxGood_L29898 k k x0 x3 (x8.getD (Int.toNat x10) []) x8 x9 x10 (x8.getD (Int.toNat x10) []) ((x8.getD (Int.toNat x10) []).length:Int) 0) (fun q4=>some (Sum.inl q4)) (fun y3=>(bif decide (y3.2.1.length+([(y3.2.2.1.length:Int)]:List Int).length<274877906944)then(spec_mxGood_L58 k n y3.1 (y3.2.1++([(y3.2.2.1.length:Int)]:List Int)) y3.2.2.2.1 y3.2.2.2.2.1 (IntKind.wrap .i64 (y3.2.2.2.2.2.1+1)))else none)))else none)else none)else some (Sum.inr (x0,x3,())))
def spec_mxGood(k:Nat)(a0:List (List (Int×Int))):Option (Bool):=(both (R:=Bool) (P:=(List (List (Int×Int)))×(List Int)×Unit) (spec_mxGood_L58 k k a0 [] a0 (a0.length:Int) 0) (fun q7=>some q7) (fun y6=>(Option.bind (spec_mxSquare k (y6.1.length:Int) y6.2.1) fun r8=>some r8)))

def impl_isPlaces(a0:Int):Option (Bool):=(Option.bind (impl_inside a0 0 24) fun r1=>some r1)

def impl_isDyadic(a0:Int×Int):Option (Bool):=(Option.bind (impl_isPlaces a0.2) fun r1=>(bif r1 then(Option.bind (impl_inside a0.1 (-1099511627776) 1099511627776) fun r2=>(bif r2 then(bif (a0.2==0)then some true else some ((Int.tmod a0.1 2) != 0))else some false))else some false))

def impl_isTable_1(a0:Int×Int):Option (Bool):=(Option.bind (impl_isDyadic a0) fun r1=>some (!r1))

def slices_IndexFunc_Dyadic_Dyadic_impl_isTable_1_L26(k:Nat):Nat→(List (Int×Int))→Unit→Int→Int→Option ((Int) ⊕ (Unit))
 | 0,_,_,_,_=>none
 | n+1,x0,x1,x7,x8=>(bif decide (x8<x7)then(bif decide (0≤x8)then(bif decide (x8<(x0.length:Int))then(Option.bind (impl_isTable_1 (x0.getD (Int.toNat x8) (0,0))) fun r1=>(bif r1 then some (Sum.inl x8)else(slices_IndexFunc_Dyadic_Dyadic_impl_isTable_1_L26 k n x0 () x7 (IntKind.wrap .i64 (x8+1)))))else none)else none)else some (Sum.inr ()))
def slices_IndexFunc_Dyadic_Dyadic_impl_isTable_1(k:Nat)(a0:List (Int×Int))(a1:Unit):Option (Int):=(both (R:=Int) (P:=Unit) (slices_IndexFunc_Dyadic_Dyadic_impl_isTable_1_L26 k k a0 () (a0.length:Int) 0) (fun q4=>some q4) (fun y3=>some (-1)))

def slices_ContainsFunc_Dyadic_Dyadic_impl_isTable_1(k:Nat)(a0:List (Int×Int))(a1:Unit):Option (Bool):=(Option.bind (slices_IndexFunc_Dyadic_Dyadic_impl_isTable_1 k a0 ()) fun r1=>some (decide (r1≥0)))

def impl_isTable_L26(k:Nat):Nat→(List (List (Int×Int)))→(List (List (Int×Int)))→Int→Int→Option ((Bool) ⊕ ((List (List (Int×Int)))×Unit))
 | 0,_,_,_,_=>none
 | n+1,x0,x5,x6,x7=>(bif decide (x7<x6)then(bif decide (0≤x7)then(bif decide (x7<(x5.length:Int))then(bif (((x5.getD (Int.toNat x7) []).length:Int) != (x0.length:Int))then some (Sum.inl false)else(Option.bind (slices_ContainsFunc_Dyadic_Dyadic_impl_isTable_1 k (x5.getD (Int.toNat x7) []) ()) fun r1=>(bif r1 then some (Sum.inl false)else(impl_isTable_L26 k n x0 x5 x6 (IntKind.wrap .i64 (x7+1))))))else none)else none)else some (Sum.inr (x0,())))
def impl_isTable(k:Nat)(a0:List (List (Int×Int))):Option (Bool):=(both (R:=Bool) (P:=bT1_2) (impl_isTable_L26 k k a0 a0 (a0.length:Int) 0) (fun q4=>some q4) (fun y3=>(Option.bind (impl_inside (y3.1.length:Int) 1 3) fun r5=>some r5)))

def impl_IsTable(k:Nat)(a0:List (List (Int×Int))):Option (Bool):=(Option.bind (impl_isTable k a0) fun r1=>some r1)

def spec_dyMake_L28(k:Nat):Nat→Int→Int→(Int×Int)→Option (((Int×Int)×Bool) ⊕ (Int×Int×(Int×Int)×Unit))
 | 0,_,_,_=>none
 | n+1,x0,x1,x4=>(bif decide (x1>0)then(bif ((Int.tmod x0 2)==0)then(spec_dyMake_L28 k n (IntKind.wrap .i64 (Int.tdiv x0 2)) (IntKind.wrap .i64 (x1 - 1)) x4)else some (Sum.inr (x0,x1,x4,())))else some (Sum.inr (x0,x1,x4,())))
def spec_dyMake(k:Nat)(a0:Int)(a1:Int):Option ((Int×Int)×Bool):=(both (R:=bT1_3) (P:=Int×Int×(Int×Int)×Unit) ((bif (a0==0)then(bif decide (a1>0)then some (Sum.inr (a0,0,(0,0),()))else some (Sum.inr (a0,a1,(0,0),())))else some (Sum.inr (a0,a1,(0,0),())))) (fun q6=>some q6) (fun y1=>(both (R:=bT1_3) (P:=Int×Int×(Int×Int)×Unit) (spec_dyMake_L28 k k y1.1 y1.2.1 y1.2.2.1) (fun q4=>some q4) (fun y3=>(Option.bind (spec_dyGood (y3.1,y3.2.1)) fun r5=>(bif (!r5)then some ((0,0),false)else some ((y3.1,y3.2.1),true)))))))

def impl_size(a0:Int):Option (Int):=(bif decide (a0<0)then some (IntKind.wrap .u64 (IntKind.wrap .i64 (0 - a0)))else some (IntKind.wrap .u64 a0))

def impl_wideOf(a0:Int):Option (Bool×Int×Int):=(Option.bind (impl_size a0) fun r1=>some ((decide (a0<0)),0,r1))

def impl_wide_isZero(a0:Bool×Int×Int):Option (Bool):=(bif (a0.2.1==0)then some (a0.2.2==0)else some false)

def impl_wide_shift(a0:Bool×Int×Int)(a1:Int):Option (Bool×Int×Int):=(bif decide (a1≥0)then(bif decide (a1≥64)then(bif decide ((IntKind.wrap .i64 (a1 - 64))<0)then none else some (a0.1,(IntKind.wrap .u64 (a0.2.2*2 ^ min (Int.toNat (IntKind.wrap .i64 (a1 - 64))) (IntKind.bits .u64))),0))else(bif decide (a1<0)then none else(bif decide ((IntKind.wrap .i64 (64 - a1))<0)then none else(bif decide (a1<0)then none else some (a0.1,(IntKind.wrap .u64 (BitVec.toNat (BitVec.ofInt (IntKind.bits .u64) (IntKind.wrap .u64 (a0.2.1*2 ^ min (Int.toNat a1) (IntKind.bits .u64))) ||| BitVec.ofInt (IntKind.bits .u64) (Int.fdiv a0.2.2 (2 ^ min (Int.toNat (IntKind.wrap .i64 (64 - a1))) (IntKind.bits .u64)))):Int)),(IntKind.wrap .u64 (a0.2.2*2 ^ min (Int.toNat a1) (IntKind.bits .u64))))))))else(bif decide ((IntKind.wrap .i64 (0 - a1))≥64)then(bif decide ((IntKind.wrap .i64 ((IntKind.wrap .i64 (0 - a1)) - 64))<0)then none else some (a0.1,0,(Int.fdiv a0.2.1 (2 ^ min (Int.toNat (IntKind.wrap .i64 ((IntKind.wrap .i64 (0 - a1)) - 64))) (IntKind.bits .u64)))))else(bif decide ((IntKind.wrap .i64 (0 - a1))<0)then none else(bif decide ((IntKind.wrap .i64 (0 - a1))<0)then none else(bif decide ((IntKind.wrap .i64 (64 - (IntKind.wrap .i64 (0 - a1))))<0)then none else some (a0.1,(Int.fdiv a0.2.1 (2 ^ min (Int.toNat (IntKind.wrap .i64 (0 - a1))) (IntKind.bits .u64))),(IntKind.wrap .u64 (BitVec.toNat (BitVec.ofInt (IntKind.bits .u64) (Int.fdiv a0.2.2 (2 ^ min (Int.toNat (IntKind.wrap .i64 (0 - a1))) (IntKind.bits .u64))) ||| BitVec.ofInt (IntKind.bits .u64) (IntKind.wrap .u64 (a0.2.1*2 ^ min (Int.toNat (IntKind.wrap .i64 (64 - (IntKind.wrap .i64 (0 - a1))))) (IntKind.bits .u64)))):Int))))))))

def impl_wide_fit_L28(k:Nat):Nat→Int→(Bool×Int×Int)→(Int×Int)→Option (((Int×Int)×Bool) ⊕ (Int×(Bool×Int×Int)×(Int×Int)×Unit))
 | 0,_,_,_=>none
 | n+1,x1,x2,x4=>(bif decide (x1>0)then(bif ((Int.tmod x2.2.2 2)==0)then(Option.bind (impl_wide_shift x2 (-1)) fun r2=>(impl_wide_fit_L28 k n (IntKind.wrap .i64 (x1 - 1)) r2 x4))else some (Sum.inr (x1,x2,x4,())))else some (Sum.inr (x1,x2,x4,())))
def impl_wide_fit(k:Nat)(a0:Bool×Int×Int)(a1:Int):Option ((Int×Int)×Bool):=(Option.bind (impl_wide_isZero a0) fun r1=>(bif r1 then some ((0,0),true)else(both (R:=bT1_3) (P:=Int×(Bool×Int×Int)×(Int×Int)×Unit) (impl_wide_fit_L28 k k a1 a0 (0,0)) (fun q5=>some q5) (fun y4=>(bif decide (y4.1>24)then some ((0,0),false)else(bif decide (y4.2.1.2.1>0)then some ((0,0),false)else(bif decide (y4.2.1.2.2>1099511627776)then some ((0,0),false)else(bif y4.2.1.1 then some (((IntKind.wrap .i64 (0 - (IntKind.wrap .i64 y4.2.1.2.2))),y4.1),true)else some (((IntKind.wrap .i64 y4.2.1.2.2),y4.1),true)))))))))

def spec_l1Most(a0:Int)(a1:Int):Option (Int):=(bif decide (a0>a1)then some a0 else some a1)

def cmp_Or_int_L58(k:Nat):Nat→Int→(List Int)→Int→Int→Option ((Int) ⊕ (Int×Unit))
 | 0,_,_,_,_=>none
 | n+1,x3,x6,x7,x8=>(bif decide (x8<x7)then(bif decide (0≤x8)then(bif decide (x8<(x6.length:Int))then(bif ((x6.getD (Int.toNat x8) 0) != x3)then some (Sum.inl (x6.getD (Int.toNat x8) 0))else(cmp_Or_int_L58 k n x3 x6 x7 (IntKind.wrap .i64 (x8+1))))else none)else none)else some (Sum.inr (x3,())))
def cmp_Or_int(k:Nat)(a0:List Int):Option (Int):=(both (R:=Int) (P:=Int×Unit) (cmp_Or_int_L58 k k 0 a0 (a0.length:Int) 0) (fun q3=>some q3) (fun y2=>some y2.1))

def spec_l1Abs(a0:Int):Option (Int):=(Option.bind (spec_l1Most a0 (IntKind.wrap .i64 (0 - a0))) fun r1=>some r1)

def spec_mxAbs(a0:Int×Int):Option (Int×Int):=(Option.bind (spec_l1Abs a0.1) fun r1=>some (r1,a0.2))

def spec_dyAt_L58(k:Nat):Nat→Int→(Int×Int)→Int→Option ((Int×Bool) ⊕ ((Int×Int)×Unit))
 | 0,_,_,_=>none
 | n+1,x1,x2,x6=>(bif decide (x6<x1)then(Option.bind (spec_dyPower 60) fun r1=>(Option.bind (spec_dyPower 60) fun r2=>(Option.bind (spec_l1In x2.1 (IntKind.wrap .i64 (0 - r1)) r2) fun r3=>(bif (!r3)then some (Sum.inl (0,false))else(spec_dyAt_L58 k n x1 ((IntKind.wrap .i64 (x2.1*2)),x2.2) (IntKind.wrap .i64 (x6+1)))))))else some (Sum.inr (x2,())))
def spec_dyAt(k:Nat)(a0:Int×Int)(a1:Int):Option (Int×Bool):=(bif (a0.1==0)then some (0,true)else(both (R:=Int×Bool) (P:=(Int×Int)×Unit) (spec_dyAt_L58 k k a1 a0 a0.2) (fun q6=>some q6) (fun y5=>some (y5.1.1,true))))

def spec_dyAdd(k:Nat)(a0:Int×Int)(a1:Int×Int):Option ((Int×Int)×Bool):=(Option.bind (spec_l1Most a0.2 a1.2) fun r1=>(Option.bind (spec_dyAt k a0 r1) fun r2=>(Option.bind (spec_dyAt k a1 r1) fun r3=>(bif (!r2.2)then some ((0,0),false)else(bif (!r3.2)then some ((0,0),false)else(Option.bind (spec_dyMake k (IntKind.wrap .i64 (r2.1+r3.1)) r1) fun r4=>some (r4.1,r4.2)))))))

def spec_RowSums_L125338(k:Nat):Nat→(List (Int×Int))→(Int×Int)→(List (List (Int×Int)))→Int→Int→(List (Int×Int))→Int→Int→Option (((List (Int×Int))×Bool) ⊕ ((List (Int×Int))×(Int×Int)×(List (List (Int×Int)))×Int×Int×Unit))
 | 0,_,_,_,_,_,_,_,_=>none
 | n+1,x4,x7,x15,x16,x17,x22,x23,x24=>(bif decide (x24<x23)then(bif decide (0≤x24)then(bif decide (x24<(x22.length:Int))then(Option.bind (spec_mxAbs (x22.getD (Int.toNat x24) (0,0))) fun r2=>(Option.bind (spec_dyAdd k x7 r2) fun r3=>(bif (!r3.2)then some (Sum.inl (([]:List (Int×Int)),false))else(spec_RowSums_L125338 k n x4 r3.1 x15 x16 x17 x22 x23 (IntKind.wrap .i64 (x24+1))))))else none)else none)else some (Sum.inr (x4,x7,x15,x16,x17,())))
def spec_RowSums_L122(k:Nat):Nat→(List (Int×Int))→(List (List (Int×Int)))→Int→Int→Option (((List (Int×Int))×Bool) ⊕ ((List (Int×Int))×Unit))
 | 0,_,_,_,_=>none
 | n+1,x4,x15,x16,x17=>(bif decide (x17<x16)then(bif decide (0≤x17)then(bif decide (x17<(x15.length:Int))then(both (R:=bT1_4) (P:=(List (Int×Int))×(Int×Int)×(List (List (Int×Int)))×Int×Int×Unit) (spec_RowSums_L125338 k k x4 (0,0) x15 x16 x17 (x15.getD (Int.toNat x17) []) ((x15.getD (Int.toNat x17) []).length:Int) 0) (fun q6=>some (Sum.inl q6)) (fun y5=>(bif decide (y5.1.length+([y5.2.1]:List (Int×Int)).length<274877906944)then(spec_RowSums_L122 k n (y5.1++([y5.2.1]:List (Int×Int))) y5.2.2.1 y5.2.2.2.1 (IntKind.wrap .i64 (y5.2.2.2.2.1+1)))else none)))else none)else none)else some (Sum.inr (x4,())))
def spec_RowSums(k:Nat)(a0:List (List (Int×Int))):Option ((List (Int×Int))×Bool):=(Option.bind (spec_mxGood k a0) fun r1=>(bif (!r1)then some (([]:List (Int×Int)),false)else(both (R:=bT1_4) (P:=bT1_5) (spec_RowSums_L122 k k [] a0 (a0.length:Int) 0) (fun q9=>some q9) (fun y8=>some (y8.1,true)))))

def impl_minus(a0:Int×Int):Option (Int×Int):=some ((IntKind.wrap .i64 (0 - a0.1)),a0.2)

def cmp_isNaN_uint64(a0:Int):Option (Bool):=some (a0 != a0)

def cmp_Compare_uint64(a0:Int)(a1:Int):Option (Int):=(Option.bind (cmp_isNaN_uint64 a0) fun r1=>(Option.bind (cmp_isNaN_uint64 a1) fun r2=>(bif r1 then(bif r2 then some 0 else some (-1))else(bif r2 then some 1 else(bif decide (a0<a1)then some (-1)else(bif decide (a0>a1)then some 1 else some 0))))))

def impl_compareSizes(k:Nat)(a0:Bool×Int×Int)(a1:Bool×Int×Int):Option (Int):=(Option.bind (cmp_Compare_uint64 a0.2.1 a1.2.1) fun r1=>(Option.bind (cmp_Compare_uint64 a0.2.2 a1.2.2) fun r2=>(Option.bind (cmp_Or_int k ([r1,r2]:List Int)) fun r3=>some r3)))

def impl_compareWide(k:Nat)(a0:Bool×Int×Int)(a1:Bool×Int×Int):Option (Int):=(both (R:=Int) (P:=(Bool×Int×Int)×(Bool×Int×Int)×Unit) ((Option.bind (impl_wide_isZero a0) fun r1=>(bif r1 then(Option.bind (impl_wide_isZero a1) fun r2=>(bif r2 then some (Sum.inl 0)else(bif (!(a0.1==a1.1))then(bif a0.1 then some (Sum.inl (-1))else some (Sum.inl 1))else(bif a0.1 then(Option.bind (impl_compareSizes k a1 a0) fun r3=>some (Sum.inl r3))else some (Sum.inr (a0,a1,()))))))else(bif (!(a0.1==a1.1))then(bif a0.1 then some (Sum.inl (-1))else some (Sum.inl 1))else(bif a0.1 then(Option.bind (impl_compareSizes k a1 a0) fun r4=>some (Sum.inl r4))else some (Sum.inr (a0,a1,()))))))) (fun q7=>some q7) (fun y5=>(Option.bind (impl_compareSizes k y5.1 y5.2.1) fun r6=>some r6)))

def impl_compareD(k:Nat)(a0:Int×Int)(a1:Int×Int):Option (Int):=(Option.bind (impl_wideOf a0.1) fun r1=>(Option.bind (impl_wide_shift r1 (IntKind.wrap .i64 ((if a0.2<a1.2 then a1.2 else a0.2) - a0.2))) fun r2=>(Option.bind (impl_wideOf a1.1) fun r3=>(Option.bind (impl_wide_shift r3 (IntKind.wrap .i64 ((if a0.2<a1.2 then a1.2 else a0.2) - a1.2))) fun r4=>(Option.bind (impl_compareWide k r2 r4) fun r5=>some r5)))))

def impl_greater(k:Nat)(a0:Int×Int)(a1:Int×Int):Option (Int×Int):=(Option.bind (impl_compareD k a1 a0) fun r1=>(bif decide (r1>0)then some a1 else some a0))

def impl_wide_add(k:Nat)(a0:Bool×Int×Int)(a1:Bool×Int×Int):Option (Bool×Int×Int):=(bif (a0.1==a1.1)then(Option.bind (math_bits_Add64 a0.2.2 a1.2.2 0) fun r1=>(Option.bind (math_bits_Add64 a0.2.1 a1.2.1 r1.2) fun r2=>some (a0.1,r2.1,r1.1)))else(both (R:=Bool×Int×Int) (P:=(Bool×Int×Int)×(Bool×Int×Int)×(Bool×Int×Int)×Unit) ((Option.bind (impl_compareSizes k a0 a1) fun r3=>(bif decide (r3<0)then some (Sum.inr (a1,a0,(false,0,0),()))else some (Sum.inr (a0,a1,(false,0,0),()))))) (fun q7=>some q7) (fun y4=>(Option.bind (math_bits_Sub64 y4.1.2.2 y4.2.1.2.2 0) fun r5=>(Option.bind (math_bits_Sub64 y4.1.2.1 y4.2.1.2.1 r5.2) fun r6=>some (y4.1.1,r6.1,r5.1))))))

def impl_sumOf(k:Nat)(a0:Int×Int)(a1:Int×Int):Option ((Int×Int)×Bool):=(Option.bind (impl_wideOf a0.1) fun r1=>(Option.bind (impl_wide_shift r1 (IntKind.wrap .i64 ((if a0.2<a1.2 then a1.2 else a0.2) - a0.2))) fun r2=>(Option.bind (impl_wideOf a1.1) fun r3=>(Option.bind (impl_wide_shift r3 (IntKind.wrap .i64 ((if a0.2<a1.2 then a1.2 else a0.2) - a1.2))) fun r4=>(Option.bind (impl_wide_add k r2 r4) fun r5=>(Option.bind (impl_wide_fit k r5 (if a0.2<a1.2 then a1.2 else a0.2)) fun r6=>some (r6.1,r6.2)))))))

def impl_reckoner_keep(a0:Bool)(a1:Int×Int)(a2:Bool):Option ((Int×Int)×Bool):=(bif a0 then(bif (!a2)then some ((0,0),a2)else some (a1,a2))else some ((0,0),false))

def impl_reckoner_sum(k:Nat)(a0:Bool)(a1:Int×Int)(a2:Int×Int):Option ((Int×Int)×Bool):=(Option.bind (impl_sumOf k a1 a2) fun r1=>(Option.bind (impl_reckoner_keep a0 r1.1 r1.2) fun r2=>some (r2.1,r2.2)))

def impl_reckoner_total_L58(k:Nat):Nat→Bool→(Int×Int)→(Int×Int)→(List (Int×Int))→Int→Int→Option (((Int×Int)×Bool) ⊕ ((Int×Int)×(Int×Int)×Bool×Unit))
 | 0,_,_,_,_,_,_=>none
 | n+1,x0,x4,x5,x12,x13,x14=>(bif decide (x14<x13)then(bif decide (0≤x14)then(bif decide (x14<(x12.length:Int))then(Option.bind (impl_reckoner_sum k x0 x5 (x12.getD (Int.toNat x14) (0,0))) fun r1=>(impl_reckoner_total_L58 k n r1.2 x4 r1.1 x12 x13 (IntKind.wrap .i64 (x14+1))))else none)else none)else some (Sum.inr (x4,x5,x0,())))
def impl_reckoner_total(k:Nat)(a0:Bool)(a1:List (Int×Int)):Option ((Int×Int)×Bool):=(bif decide (0<(a1.length:Int))then(bif decide (1≤(a1.length:Int))then(both (R:=bT1_3) (P:=(Int×Int)×(Int×Int)×Bool×Unit) (impl_reckoner_total_L58 k k a0 (0,0) (a1.getD 0 (0,0)) ((a1.take (Int.toNat (a1.length:Int))).drop 1) (((a1.take (Int.toNat (a1.length:Int))).drop 1).length:Int) 0) (fun q4=>some q4) (fun y3=>some (y3.2.1,y3.2.2.1)))else none)else none)

def impl_RowSums_L256410(k:Nat):Nat→Bool→(List (Int×Int))→(List (Int×Int))→(List (List (Int×Int)))→Int→Int→(List (Int×Int))→Int→Int→Option (((List (Int×Int))×Bool) ⊕ (Bool×(List (Int×Int))×(List (Int×Int))×(List (List (Int×Int)))×Int×Int×Unit))
 | 0,_,_,_,_,_,_,_,_,_=>none
 | n+1,x4,x5,x8,x16,x17,x18,x22,x23,x24=>(bif decide (x24<x23)then(bif decide (0≤x24)then(bif decide (x24<(x22.length:Int))then(Option.bind (impl_minus (x22.getD (Int.toNat x24) (0,0))) fun r2=>(Option.bind (impl_greater k (x22.getD (Int.toNat x24) (0,0)) r2) fun r3=>(bif decide (x8.length+([r3]:List (Int×Int)).length<274877906944)then(impl_RowSums_L256410 k n x4 x5 (x8++([r3]:List (Int×Int))) x16 x17 x18 x22 x23 (IntKind.wrap .i64 (x24+1)))else none)))else none)else none)else some (Sum.inr (x4,x5,x8,x16,x17,x18,())))
def impl_RowSums_L250(k:Nat):Nat→Bool→(List (Int×Int))→(List (List (Int×Int)))→Int→Int→Option (((List (Int×Int))×Bool) ⊕ (Bool×(List (Int×Int))×Unit))
 | 0,_,_,_,_,_=>none
 | n+1,x4,x5,x16,x17,x18=>(bif decide (x18<x17)then(bif decide (0≤x18)then(bif decide (x18<(x16.length:Int))then(both (R:=bT1_4) (P:=Bool×(List (Int×Int))×(List (Int×Int))×(List (List (Int×Int)))×Int×Int×Unit) (impl_RowSums_L256410 k k x4 x5 [] x16 x17 x18 (x16.getD (Int.toNat x18) []) ((x16.getD (Int.toNat x18) []).length:Int) 0) (fun q6=>some (Sum.inl q6)) (fun y5=>(Option.bind (impl_reckoner_total k y5.1 y5.2.2.1) fun r7=>(bif decide (y5.2.1.length+([r7.1]:List (Int×Int)).length<274877906944)then(impl_RowSums_L250 k n r7.2 (y5.2.1++([r7.1]:List (Int×Int))) y5.2.2.2.1 y5.2.2.2.2.1 (IntKind.wrap .i64 (y5.2.2.2.2.2.1+1)))else none))))else none)else none)else some (Sum.inr (x4,x5,())))
def impl_RowSums(k:Nat)(a0:List (List (Int×Int))):Option ((List (Int×Int))×Bool):=(Option.bind (impl_isTable k a0) fun r1=>(bif (!r1)then some (([]:List (Int×Int)),false)else(both (R:=bT1_4) (P:=Bool×(List (Int×Int))×Unit) (impl_RowSums_L250 k k true [] a0 (a0.length:Int) 0) (fun q10=>some q10) (fun y9=>(bif (!y9.1)then some (([]:List (Int×Int)),false)else some (y9.2.1,true))))))

end Go.Ev.G

namespace Go.Ev.G
open Go Go.Ev
set_option maxRecDepth 100000
def spec_bxPoint_L26(k:Nat):Nat→(List (Int×Int))→Int→(List (Int×Int))→Int→Int→Option ((Bool) ⊕ ((List (Int×Int))×Int×Unit))
 | 0,_,_,_,_,_=>none
 | n+1,x0,x1,x7,x8,x9=>(bif decide (x9<x8)then(bif decide (0≤x9)then(bif decide (x9<(x7.length:Int))then(Option.bind (spec_dyGood (x7.getD (Int.toNat x9) (0,0))) fun r1=>(bif (!r1)then some (Sum.inl false)else(spec_bxPoint_L26 k n x0 x1 x7 x8 (IntKind.wrap .i64 (x9+1)))))else none)else none)else some (Sum.inr (x0,x1,())))
def spec_bxPoint(k:Nat)(a0:List (Int×Int))(a1:Int):Option (Bool):=(both (R:=Bool) (P:=(List (Int×Int))×Int×Unit) (spec_bxPoint_L26 k k a0 a1 a0 (a0.length:Int) 0) (fun q4=>some q4) (fun y3=>some ((y3.1.length:Int)==y3.2.1)))

def spec_dyMul_L60(k:Nat):Nat→(Int×Int)→(Int×Int)→(Int×Int)→Int→Option (((Int×Int)×Bool) ⊕ ((Int×Int)×(Int×Int)×(Int×Int)×Int×Unit))
 | 0,_,_,_,_=>none
 | n+1,x2,x3,x4,x6=>(bif decide (x6>0)then(bif ((Int.tmod x2.1 2)==0)then(spec_dyMul_L60 k n ((IntKind.wrap .i64 (Int.tdiv x2.1 2)),x2.2) x3 x4 (IntKind.wrap .i64 (x6 - 1)))else some (Sum.inr (x2,x3,x4,x6,())))else some (Sum.inr (x2,x3,x4,x6,())))
def spec_dyMul_L124(k:Nat):Nat→(Int×Int)→(Int×Int)→(Int×Int)→Int→Option (((Int×Int)×Bool) ⊕ ((Int×Int)×(Int×Int)×(Int×Int)×Int×Unit))
 | 0,_,_,_,_=>none
 | n+1,x2,x3,x4,x6=>(bif decide (x6>0)then(bif ((Int.tmod x3.1 2)==0)then(spec_dyMul_L124 k n x2 ((IntKind.wrap .i64 (Int.tdiv x3.1 2)),x3.2) x4 (IntKind.wrap .i64 (x6 - 1)))else some (Sum.inr (x2,x3,x4,x6,())))else some (Sum.inr (x2,x3,x4,x6,())))
def spec_dyMul(k:Nat)(a0:Int×Int)(a1:Int×Int):Option ((Int×Int)×Bool):=(bif (a0.1==0)then some ((0,0),true)else(bif (a1.1==0)then some ((0,0),true)else(both (R:=bT1_3) (P:=(Int×Int)×(Int×Int)×(Int×Int)×Int×Unit) (spec_dyMul_L60 k k a0 a1 (0,0) (IntKind.wrap .i64 (a0.2+a1.2))) (fun q3=>some q3) (fun y2=>(both (R:=bT1_3) (P:=(Int×Int)×(Int×Int)×(Int×Int)×Int×Unit) (spec_dyMul_L124 k k y2.1 y2.2.1 y2.2.2.1 y2.2.2.2.1) (fun q6=>some q6) (fun y5=>(Option.bind (spec_l1Abs y5.1.1) fun r7=>(Option.bind (spec_l1Abs y5.2.1.1) fun r8=>(bif (r8==0)then none else(bif decide (r7>(IntKind.wrap .i64 (Int.tdiv 1099511627776 r8)))then some ((0,0),false)else(Option.bind (spec_dyMake k (IntKind.wrap .i64 (y5.1.1*y5.2.1.1)) y5.2.2.2.1) fun r9=>some (r9.1,r9.2))))))))))))

def spec_mxSum_L58(k:Nat):Nat→(List (Int×Int))→(Int×Int)→(Int×Int)→(List (Int×Int))→Int→Int→Option (((Int×Int)×Bool) ⊕ ((Int×Int)×(Int×Int)×Unit))
 | 0,_,_,_,_,_,_=>none
 | n+1,x1,x4,x6,x14,x15,x16=>(bif decide (x16<x15)then(bif decide (0≤x16)then(bif decide (x16<(x14.length:Int))then(bif decide (0≤x16)then(bif decide (x16<(x1.length:Int))then(Option.bind (spec_dyMul k (x14.getD (Int.toNat x16) (0,0)) (x1.getD (Int.toNat x16) (0,0))) fun r1=>(Option.bind (spec_dyAdd k x6 r1.1) fun r2=>(bif (!r1.2)then some (Sum.inl ((0,0),false))else(bif (!r2.2)then some (Sum.inl ((0,0),false))else(spec_mxSum_L58 k n x1 x4 r2.1 x14 x15 (IntKind.wrap .i64 (x16+1)))))))else none)else none)else none)else none)else some (Sum.inr (x4,x6,())))
def spec_mxSum(k:Nat)(a0:List (Int×Int))(a1:List (Int×Int)):Option ((Int×Int)×Bool):=(both (R:=bT1_3) (P:=(Int×Int)×(Int×Int)×Unit) (spec_mxSum_L58 k k a1 (0,0) (0,0) a0 (a0.length:Int) 0) (fun q5=>some q5) (fun y4=>some (y4.2.1,true)))

def spec_mxTimes_L58(k:Nat):Nat→(List (Int×Int))→(List (Int×Int))→(List (List (Int×Int)))→Int→Int→Option (((List (Int×Int))×Bool) ⊕ ((List (Int×Int))×Unit))
 | 0,_,_,_,_,_=>none
 | n+1,x1,x6,x11,x12,x13=>(bif decide (x13<x12)then(bif decide (0≤x13)then(bif decide (x13<(x11.length:Int))then(Option.bind (spec_mxSum k (x11.getD (Int.toNat x13) []) x1) fun r1=>(bif (!r1.2)then some (Sum.inl (([]:List (Int×Int)),false))else(bif decide (x6.length+([r1.1]:List (Int×Int)).length<274877906944)then(spec_mxTimes_L58 k n x1 (x6++([r1.1]:List (Int×Int))) x11 x12 (IntKind.wrap .i64 (x13+1)))else none)))else none)else none)else some (Sum.inr (x6,())))
def spec_mxTimes(k:Nat)(a0:List (List (Int×Int)))(a1:List (Int×Int)):Option ((List (Int×Int))×Bool):=(both (R:=bT1_4) (P:=bT1_5) (spec_mxTimes_L58 k k a1 [] a0 (a0.length:Int) 0) (fun q4=>some q4) (fun y3=>some (y3.1,true)))

def spec_TimesPoint(k:Nat)(a0:List (List (Int×Int)))(a1:List (Int×Int)):Option ((List (Int×Int))×Bool):=(Option.bind (spec_mxGood k a0) fun r1=>(bif (!r1)then some (([]:List (Int×Int)),false)else(Option.bind (spec_bxPoint k a1 (a0.length:Int)) fun r2=>(bif (!r2)then some (([]:List (Int×Int)),false)else(Option.bind (spec_mxTimes k a0 a1) fun r3=>some (r3.1,r3.2))))))

def impl_TimesPoint_1(a0:Int×Int):Option (Bool):=(Option.bind (impl_isDyadic a0) fun r1=>some (!r1))

def slices_IndexFunc_Dyadic_Dyadic_impl_TimesPoint_1_L26(k:Nat):Nat→(List (Int×Int))→Unit→Int→Int→Option ((Int) ⊕ (Unit))
 | 0,_,_,_,_=>none
 | n+1,x0,x1,x7,x8=>(bif decide (x8<x7)then(bif decide (0≤x8)then(bif decide (x8<(x0.length:Int))then(Option.bind (impl_TimesPoint_1 (x0.getD (Int.toNat x8) (0,0))) fun r1=>(bif r1 then some (Sum.inl x8)else(slices_IndexFunc_Dyadic_Dyadic_impl_TimesPoint_1_L26 k n x0 () x7 (IntKind.wrap .i64 (x8+1)))))else none)else none)else some (Sum.inr ()))
def slices_IndexFunc_Dyadic_Dyadic_impl_TimesPoint_1(k:Nat)(a0:List (Int×Int))(a1:Unit):Option (Int):=(both (R:=Int) (P:=Unit) (slices_IndexFunc_Dyadic_Dyadic_impl_TimesPoint_1_L26 k k a0 () (a0.length:Int) 0) (fun q4=>some q4) (fun y3=>some (-1)))

def slices_ContainsFunc_Dyadic_Dyadic_impl_TimesPoint_1(k:Nat)(a0:List (Int×Int))(a1:Unit):Option (Bool):=(Option.bind (slices_IndexFunc_Dyadic_Dyadic_impl_TimesPoint_1 k a0 ()) fun r1=>some (decide (r1≥0)))

def math_bits_Mul64(a0:Int)(a1:Int):Option (Int×Int):=some ((IntKind.wrap .u64 ((IntKind.wrap .u64 ((IntKind.wrap .u64 ((Int.fdiv a0 (2 ^ min (Int.toNat 32) (IntKind.bits .u64)))*(Int.fdiv a1 (2 ^ min (Int.toNat 32) (IntKind.bits .u64)))))+(Int.fdiv (IntKind.wrap .u64 ((IntKind.wrap .u64 ((Int.fdiv a0 (2 ^ min (Int.toNat 32) (IntKind.bits .u64)))*(IntKind.wrap .u64 (BitVec.toNat (BitVec.ofInt (IntKind.bits .u64) a1 &&& BitVec.ofInt (IntKind.bits .u64) 4294967295):Int))))+(Int.fdiv (IntKind.wrap .u64 ((IntKind.wrap .u64 (BitVec.toNat (BitVec.ofInt (IntKind.bits .u64) a0 &&& BitVec.ofInt (IntKind.bits .u64) 4294967295):Int))*(IntKind.wrap .u64 (BitVec.toNat (BitVec.ofInt (IntKind.bits .u64) a1 &&& BitVec.ofInt (IntKind.bits .u64) 4294967295):Int)))) (2 ^ min (Int.toNat 32) (IntKind.bits .u64))))) (2 ^ min (Int.toNat 32) (IntKind.bits .u64)))))+(Int.fdiv (IntKind.wrap .u64 ((IntKind.wrap .u64 (BitVec.toNat (BitVec.ofInt (IntKind.bits .u64) (IntKind.wrap .u64 ((IntKind.wrap .u64 ((Int.fdiv a0 (2 ^ min (Int.toNat 32) (IntKind.bits .u64)))*(IntKind.wrap .u64 (BitVec.toNat (BitVec.ofInt (IntKind.bits .u64) a1 &&& BitVec.ofInt (IntKind.bits .u64) 4294967295):Int))))+(Int.fdiv (IntKind.wrap .u64 ((IntKind.wrap .u64 (BitVec.toNat (BitVec.ofInt (IntKind.bits .u64) a0 &&& BitVec.ofInt (IntKind.bits .u64) 4294967295):Int))*(IntKind.wrap .u64 (BitVec.toNat (BitVec.ofInt (IntKind.bits .u64) a1 &&& BitVec.ofInt (IntKind.bits .u64) 4294967295):Int)))) (2 ^ min (Int.toNat 32) (IntKind.bits .u64))))) &&& BitVec.ofInt (IntKind.bits .u64) 4294967295):Int))+(IntKind.wrap .u64 ((IntKind.wrap .u64 (BitVec.toNat (BitVec.ofInt (IntKind.bits .u64) a0 &&& BitVec.ofInt (IntKind.bits .u64) 4294967295):Int))*(Int.fdiv a1 (2 ^ min (Int.toNat 32) (IntKind.bits .u64))))))) (2 ^ min (Int.toNat 32) (IntKind.bits .u64))))),(IntKind.wrap .u64 (a0*a1)))

def impl_timesWide(a0:Int)(a1:Int):Option (Bool×Int×Int):=(Option.bind (impl_size a0) fun r1=>(Option.bind (impl_size a1) fun r2=>(Option.bind (math_bits_Mul64 r1 r2) fun r3=>some ((!((decide (a0<0))==(decide (a1<0)))),r3))))

def impl_productOf(k:Nat)(a0:Int×Int)(a1:Int×Int):Option ((Int×Int)×Bool):=(Option.bind (impl_timesWide a0.1 a1.1) fun r1=>(Option.bind (impl_wide_fit k r1 (IntKind.wrap .i64 (a0.2+a1.2))) fun r2=>some (r2.1,r2.2)))

def impl_reckoner_product(k:Nat)(a0:Bool)(a1:Int×Int)(a2:Int×Int):Option ((Int×Int)×Bool):=(Option.bind (impl_productOf k a1 a2) fun r1=>(Option.bind (impl_reckoner_keep a0 r1.1 r1.2) fun r2=>some (r2.1,r2.2)))

def impl_reckoner_inner_L58(k:Nat):Nat→Bool→(List (Int×Int))→(List (Int×Int))→(Int×Int)→(List (Int×Int))→Int→Int→Option (((Int×Int)×Bool) ⊕ (Bool×(Int×Int)×(List (Int×Int))×Unit))
 | 0,_,_,_,_,_,_,_=>none
 | n+1,x0,x1,x2,x6,x7,x10,x11=>(bif decide (x11<x10)then(bif decide (0≤x11)then(bif decide (x11<(x1.length:Int))then(bif decide (0≤x11)then(bif decide (x11<(x2.length:Int))then(Option.bind (impl_reckoner_product k x0 (x1.getD (Int.toNat x11) (0,0)) (x2.getD (Int.toNat x11) (0,0))) fun r1=>(bif decide (x7.length+([r1.1]:List (Int×Int)).length<274877906944)then(impl_reckoner_inner_L58 k n r1.2 x1 x2 x6 (x7++([r1.1]:List (Int×Int))) x10 (IntKind.wrap .i64 (x11+1)))else none))else none)else none)else none)else none)else some (Sum.inr (x0,x6,x7,())))
def impl_reckoner_inner(k:Nat)(a0:Bool)(a1:List (Int×Int))(a2:List (Int×Int)):Option ((Int×Int)×Bool):=(both (R:=bT1_3) (P:=Bool×(Int×Int)×(List (Int×Int))×Unit) (impl_reckoner_inner_L58 k k a0 a1 a2 (0,0) [] (a1.length:Int) 0) (fun q4=>some q4) (fun y3=>(Option.bind (impl_reckoner_total k y3.1 y3.2.2.1) fun r5=>some (r5.1,r5.2))))

def impl_timesPoint_L122(k:Nat):Nat→(List (Int×Int))→Bool→(List (Int×Int))→(List (List (Int×Int)))→Int→Int→Option (((List (Int×Int))×Bool) ⊕ (Bool×(List (Int×Int))×Unit))
 | 0,_,_,_,_,_,_=>none
 | n+1,x1,x6,x7,x12,x13,x14=>(bif decide (x14<x13)then(bif decide (0≤x14)then(bif decide (x14<(x12.length:Int))then(Option.bind (impl_reckoner_inner k x6 (x12.getD (Int.toNat x14) []) x1) fun r1=>(bif decide (x7.length+([r1.1]:List (Int×Int)).length<274877906944)then(impl_timesPoint_L122 k n x1 r1.2 (x7++([r1.1]:List (Int×Int))) x12 x13 (IntKind.wrap .i64 (x14+1)))else none))else none)else none)else some (Sum.inr (x6,x7,())))
def impl_timesPoint(k:Nat)(a0:List (List (Int×Int)))(a1:List (Int×Int)):Option ((List (Int×Int))×Bool):=(both (R:=bT1_4) (P:=Bool×(List (Int×Int))×Unit) (impl_timesPoint_L122 k k a1 true [] a0 (a0.length:Int) 0) (fun q4=>some q4) (fun y3=>(bif (!y3.1)then some (([]:List (Int×Int)),false)else some (y3.2.1,true))))

def impl_TimesPoint(k:Nat)(a0:List (List (Int×Int)))(a1:List (Int×Int)):Option ((List (Int×Int))×Bool):=(Option.bind (impl_isTable k a0) fun r1=>(bif (!r1)then some (([]:List (Int×Int)),false)else(bif ((a1.length:Int) != (a0.length:Int))then some (([]:List (Int×Int)),false)else(Option.bind (slices_ContainsFunc_Dyadic_Dyadic_impl_TimesPoint_1 k a1 ()) fun r2=>(bif r2 then some (([]:List (Int×Int)),false)else(Option.bind (impl_timesPoint k a0 a1) fun r3=>some (r3.1,r3.2)))))))

def spec_mxColumn_L58(k:Nat):Nat→Int→(List (Int×Int))→(List (List (Int×Int)))→Int→Int→Option ((List (Int×Int)) ⊕ ((List (Int×Int))×Unit))
 | 0,_,_,_,_,_=>none
 | n+1,x1,x5,x8,x9,x10=>(bif decide (x10<x9)then(bif decide (0≤x10)then(bif decide (x10<(x8.length:Int))then(bif decide (0≤x1)then(bif decide (x1<((x8.getD (Int.toNat x10) []).length:Int))then(bif decide (x5.length+([((x8.getD (Int.toNat x10) []).getD (Int.toNat x1) (0,0))]:List (Int×Int)).length<274877906944)then(spec_mxColumn_L58 k n x1 (x5++([((x8.getD (Int.toNat x10) []).getD (Int.toNat x1) (0,0))]:List (Int×Int))) x8 x9 (IntKind.wrap .i64 (x10+1)))else none)else none)else none)else none)else none)else some (Sum.inr (x5,())))
def spec_mxColumn(k:Nat)(a0:List (List (Int×Int)))(a1:Int):Option (List (Int×Int)):=(both (R:=List (Int×Int)) (P:=bT1_5) (spec_mxColumn_L58 k k a1 [] a0 (a0.length:Int) 0) (fun q3=>some q3) (fun y2=>some y2.1))

def spec_MultiplyTables_L125338(k:Nat):Nat→(List (List (Int×Int)))→(List (List (Int×Int)))→(List (Int×Int))→(List (Int×Int))→(List (List (Int×Int)))→Int→Int→Int→Int→Option (((List (List (Int×Int)))×Bool) ⊕ ((List (List (Int×Int)))×(List (List (Int×Int)))×(List (Int×Int))×(List (List (Int×Int)))×Int×Int×Unit))
 | 0,_,_,_,_,_,_,_,_,_=>none
 | n+1,x1,x6,x8,x9,x28,x29,x30,x35,x36=>(bif decide (x36<x35)then(Option.bind (spec_mxColumn k x1 x36) fun r3=>(Option.bind (spec_mxSum k x8 r3) fun r4=>(bif (!r4.2)then some (Sum.inl (([]:List (List (Int×Int))),false))else(bif decide (x9.length+([r4.1]:List (Int×Int)).length<274877906944)then(spec_MultiplyTables_L125338 k n x1 x6 x8 (x9++([r4.1]:List (Int×Int))) x28 x29 x30 x35 (IntKind.wrap .i64 (x36+1)))else none))))else some (Sum.inr (x1,x6,x9,x28,x29,x30,())))
def spec_MultiplyTables_L122(k:Nat):Nat→(List (List (Int×Int)))→(List (List (Int×Int)))→(List (List (Int×Int)))→Int→Int→Option (((List (List (Int×Int)))×Bool) ⊕ ((List (List (Int×Int)))×Unit))
 | 0,_,_,_,_,_=>none
 | n+1,x1,x6,x28,x29,x30=>(bif decide (x30<x29)then(bif decide (0≤x30)then(bif decide (x30<(x28.length:Int))then(both (R:=bT1_1) (P:=(List (List (Int×Int)))×(List (List (Int×Int)))×(List (Int×Int))×(List (List (Int×Int)))×Int×Int×Unit) (spec_MultiplyTables_L125338 k k x1 x6 (x28.getD (Int.toNat x30) []) [] x28 x29 x30 (x1.length:Int) 0) (fun q7=>some (Sum.inl q7)) (fun y6=>(bif decide (y6.2.1.length+([y6.2.2.1]:List (List (Int×Int))).length<274877906944)then(spec_MultiplyTables_L122 k n y6.1 (y6.2.1++([y6.2.2.1]:List (List (Int×Int)))) y6.2.2.2.1 y6.2.2.2.2.1 (IntKind.wrap .i64 (y6.2.2.2.2.2.1+1)))else none)))else none)else none)else some (Sum.inr (x6,())))
def spec_MultiplyTables(k:Nat)(a0:List (List (Int×Int)))(a1:List (List (Int×Int))):Option ((List (List (Int×Int)))×Bool):=(Option.bind (spec_mxGood k a0) fun r1=>(bif (!r1)then some (([]:List (List (Int×Int))),false)else(Option.bind (spec_mxGood k a1) fun r2=>(bif (!r2)then some (([]:List (List (Int×Int))),false)else(bif ((a0.length:Int) != (a1.length:Int))then some (([]:List (List (Int×Int))),false)else(both (R:=bT1_1) (P:=bT1_2) (spec_MultiplyTables_L122 k k a1 [] a0 (a0.length:Int) 0) (fun q10=>some q10) (fun y9=>some (y9.1,true))))))))

def impl_MultiplyTables_L262564250(k:Nat):Nat→(List (List (Int×Int)))→(List (List (Int×Int)))→Bool→(List (List (Int×Int)))→Int→(List (Int×Int))→Int→(List (Int×Int))→Int→Int→Int→Int→Int→Int→Option (((List (List (Int×Int)))×Bool) ⊕ ((List (List (Int×Int)))×(List (List (Int×Int)))×Bool×(List (List (Int×Int)))×Int×(List (Int×Int))×(List (Int×Int))×Int×Int×Int×Int×Unit))
 | 0,_,_,_,_,_,_,_,_,_,_,_,_,_,_=>none
 | n+1,x0,x1,x6,x7,x8,x9,x10,x11,x31,x32,x36,x37,x41,x42=>(bif decide (x42<x41)then(bif decide (0≤x42)then(bif decide (x42<(x1.length:Int))then(bif decide (0≤x10)then(bif decide (x10<((x1.getD (Int.toNat x42) []).length:Int))then(bif decide (x11.length+([((x1.getD (Int.toNat x42) []).getD (Int.toNat x10) (0,0))]:List (Int×Int)).length<274877906944)then(impl_MultiplyTables_L262564250 k n x0 x1 x6 x7 x8 x9 x10 (x11++([((x1.getD (Int.toNat x42) []).getD (Int.toNat x10) (0,0))]:List (Int×Int))) x31 x32 x36 x37 x41 (IntKind.wrap .i64 (x42+1)))else none)else none)else none)else none)else none)else some (Sum.inr (x0,x1,x6,x7,x8,x9,x11,x31,x32,x36,x37,())))
def impl_MultiplyTables_L256410(k:Nat):Nat→(List (List (Int×Int)))→(List (List (Int×Int)))→Bool→(List (List (Int×Int)))→Int→(List (Int×Int))→Int→Int→Int→Int→Option (((List (List (Int×Int)))×Bool) ⊕ ((List (List (Int×Int)))×(List (List (Int×Int)))×Bool×(List (List (Int×Int)))×(List (Int×Int))×Int×Int×Unit))
 | 0,_,_,_,_,_,_,_,_,_,_=>none
 | n+1,x0,x1,x6,x7,x8,x9,x31,x32,x36,x37=>(bif decide (x37<x36)then(both (R:=bT1_1) (P:=(List (List (Int×Int)))×(List (List (Int×Int)))×Bool×(List (List (Int×Int)))×Int×(List (Int×Int))×(List (Int×Int))×Int×Int×Int×Int×Unit) (impl_MultiplyTables_L262564250 k k x0 x1 x6 x7 x8 x9 x37 [] x31 x32 x36 x37 (x1.length:Int) 0) (fun q5=>some (Sum.inl q5)) (fun y4=>(bif decide (0≤y4.2.2.2.2.1)then(bif decide (y4.2.2.2.2.1<(y4.1.length:Int))then(Option.bind (impl_reckoner_inner k y4.2.2.1 (y4.1.getD (Int.toNat y4.2.2.2.2.1) []) y4.2.2.2.2.2.2.1) fun r6=>(bif decide (y4.2.2.2.2.2.1.length+([r6.1]:List (Int×Int)).length<274877906944)then(impl_MultiplyTables_L256410 k n y4.1 y4.2.1 r6.2 y4.2.2.2.1 y4.2.2.2.2.1 (y4.2.2.2.2.2.1++([r6.1]:List (Int×Int))) y4.2.2.2.2.2.2.2.1 y4.2.2.2.2.2.2.2.2.1 y4.2.2.2.2.2.2.2.2.2.1 (IntKind.wrap .i64 (y4.2.2.2.2.2.2.2.2.2.2.1+1)))else none))else none)else none)))else some (Sum.inr (x0,x1,x6,x7,x9,x31,x32,())))
def impl_MultiplyTables_L250(k:Nat):Nat→(List (List (Int×Int)))→(List (List (Int×Int)))→Bool→(List (List (Int×Int)))→Int→Int→Option (((List (List (Int×Int)))×Bool) ⊕ (Bool×(List (List (Int×Int)))×Unit))
 | 0,_,_,_,_,_,_=>none
 | n+1,x0,x1,x6,x7,x31,x32=>(bif decide (x32<x31)then(both (R:=bT1_1) (P:=(List (List (Int×Int)))×(List (List (Int×Int)))×Bool×(List (List (Int×Int)))×(List (Int×Int))×Int×Int×Unit) (impl_MultiplyTables_L256410 k k x0 x1 x6 x7 x32 [] x31 x32 (x1.length:Int) 0) (fun q9=>some (Sum.inl q9)) (fun y8=>(bif decide (y8.2.2.2.1.length+([y8.2.2.2.2.1]:List (List (Int×Int))).length<274877906944)then(impl_MultiplyTables_L250 k n y8.1 y8.2.1 y8.2.2.1 (y8.2.2.2.1++([y8.2.2.2.2.1]:List (List (Int×Int)))) y8.2.2.2.2.2.1 (IntKind.wrap .i64 (y8.2.2.2.2.2.2.1+1)))else none)))else some (Sum.inr (x6,x7,())))
def impl_MultiplyTables(k:Nat)(a0:List (List (Int×Int)))(a1:List (List (Int×Int))):Option ((List (List (Int×Int)))×Bool):=(Option.bind (impl_isTable k a0) fun r1=>(bif (!r1)then some (([]:List (List (Int×Int))),false)else(Option.bind (impl_isTable k a1) fun r2=>(bif (!r2)then some (([]:List (List (Int×Int))),false)else(bif ((a0.length:Int) != (a1.length:Int))then some (([]:List (List (Int×Int))),false)else(both (R:=bT1_1) (P:=Bool×(List (List (Int×Int)))×Unit) (impl_MultiplyTables_L250 k k a0 a1 true [] (a0.length:Int) 0) (fun q12=>some q12) (fun y11=>(bif (!y11.1)then some (([]:List (List (Int×Int))),false)else some (y11.2.1,true)))))))))

end Go.Ev.G

namespace Go.Ev.G
open Go Go.Ev
set_option maxRecDepth 100000
def spec_mxPart_L58(k:Nat):Nat→Int→Int→(List (List (Int×Int)))→(List (List (Int×Int)))→Int→Int→Option ((List (List (Int×Int))) ⊕ ((List (List (Int×Int)))×Unit))
 | 0,_,_,_,_,_,_=>none
 | n+1,x1,x2,x7,x10,x11,x12=>(bif decide (x12<x11)then(bif decide (0≤x12)then(bif decide (x12<(x10.length:Int))then(bif (x12 != x1)then(bif decide (0≤x2)then(bif decide (x2≤((x10.getD (Int.toNat x12) []).length:Int))then(bif decide (([]:List (Int×Int)).length+(((x10.getD (Int.toNat x12) []).take (Int.toNat x2)).drop 0).length<274877906944)then(bif decide (0≤(IntKind.wrap .i64 (x2+1)))then(bif decide ((IntKind.wrap .i64 (x2+1))≤((x10.getD (Int.toNat x12) []).length:Int))then(bif decide ((([]:List (Int×Int))++(((x10.getD (Int.toNat x12) []).take (Int.toNat x2)).drop 0)).length+(((x10.getD (Int.toNat x12) []).take (Int.toNat ((x10.getD (Int.toNat x12) []).length:Int))).drop (Int.toNat (IntKind.wrap .i64 (x2+1)))).length<274877906944)then(bif decide (x7.length+([((([]:List (Int×Int))++(((x10.getD (Int.toNat x12) []).take (Int.toNat x2)).drop 0))++(((x10.getD (Int.toNat x12) []).take (Int.toNat ((x10.getD (Int.toNat x12) []).length:Int))).drop (Int.toNat (IntKind.wrap .i64 (x2+1)))))]:List (List (Int×Int))).length<274877906944)then(spec_mxPart_L58 k n x1 x2 (x7++([((([]:List (Int×Int))++(((x10.getD (Int.toNat x12) []).take (Int.toNat x2)).drop 0))++(((x10.getD (Int.toNat x12) []).take (Int.toNat ((x10.getD (Int.toNat x12) []).length:Int))).drop (Int.toNat (IntKind.wrap .i64 (x2+1)))))]:List (List (Int×Int)))) x10 x11 (IntKind.wrap .i64 (x12+1)))else none)else none)else none)else none)else none)else none)else none)else(spec_mxPart_L58 k n x1 x2 x7 x10 x11 (IntKind.wrap .i64 (x12+1))))else none)else none)else some (Sum.inr (x7,())))
def spec_mxPart(k:Nat)(a0:List (List (Int×Int)))(a1:Int)(a2:Int):Option (List (List (Int×Int))):=(both (R:=List (List (Int×Int))) (P:=bT1_2) (spec_mxPart_L58 k k a1 a2 [] a0 (a0.length:Int) 0) (fun q3=>some q3) (fun y2=>some y2.1))

def spec_dyMinus(a0:Int×Int):Option (Int×Int):=some ((IntKind.wrap .i64 (0 - a0.1)),a0.2)

def spec_mxDet_L122(k:Nat)(rc:(List (List (Int×Int)))→Option ((Int×Int)×Bool)):Nat→(List (List (Int×Int)))→(Int×Int)→(Int×Int)→(List (Int×Int))→Int→Int→Option (((Int×Int)×Bool) ⊕ ((Int×Int)×(Int×Int)×Unit))
 | 0,_,_,_,_,_,_=>none
 | n+1,x0,x2,x4,x24,x25,x26=>(bif decide (x26<x25)then(bif decide (0≤x26)then(bif decide (x26<(x24.length:Int))then(Option.bind (spec_mxPart k x0 0 x26) fun r1=>(Option.bind (rc r1) fun r2=>(bif (!r2.2)then some (Sum.inl ((0,0),false))else(Option.bind (spec_dyMul k (x24.getD (Int.toNat x26) (0,0)) r2.1) fun r3=>(both (R:=bT1_3) (P:=(List (List (Int×Int)))×(Int×Int)×(Int×Int)×(Int×Int)×Bool×(List (Int×Int))×Int×Int×Unit) ((bif ((Int.tmod x26 2)==1)then(Option.bind (spec_dyMinus r3.1) fun r4=>some (Sum.inr (x0,x2,x4,r4,r3.2,x24,x25,x26,())))else some (Sum.inr (x0,x2,x4,r3.1,r3.2,x24,x25,x26,())))) (fun q7=>some (Sum.inl q7)) (fun y5=>(Option.bind (spec_dyAdd k y5.2.2.1 y5.2.2.2.1) fun r6=>(bif (!y5.2.2.2.2.1)then some (Sum.inl ((0,0),false))else(bif (!r6.2)then some (Sum.inl ((0,0),false))else(spec_mxDet_L122 k rc n y5.1 y5.2.1 r6.1 y5.2.2.2.2.2.1 y5.2.2.2.2.2.2.1 (IntKind.wrap .i64 (y5.2.2.2.2.2.2.2.1+1))))))))))))else none)else none)else some (Sum.inr (x2,x4,())))
def spec_mxDet_B(k:Nat)(rc:(List (List (Int×Int)))→Option ((Int×Int)×Bool))(a0:List (List (Int×Int))):Option ((Int×Int)×Bool):=(bif ((a0.length:Int)==1)then(bif decide (0<(a0.length:Int))then(bif decide (0<((a0.getD 0 []).length:Int))then some (((a0.getD 0 []).getD 0 (0,0)),true)else none)else none)else(bif decide (0<(a0.length:Int))then(both (R:=bT1_3) (P:=(Int×Int)×(Int×Int)×Unit) (spec_mxDet_L122 k rc k a0 (0,0) (0,0) (a0.getD 0 []) ((a0.getD 0 []).length:Int) 0) (fun q10=>some q10) (fun y9=>some (y9.2.1,true)))else none))
def spec_mxDet_R(k:Nat):Nat→(List (List (Int×Int)))→Option ((Int×Int)×Bool)
 | 0,_=>none
 | n+1,a0=>spec_mxDet_B k (spec_mxDet_R k n) a0
def spec_mxDet(k:Nat)(a0:List (List (Int×Int))):Option ((Int×Int)×Bool):=spec_mxDet_R k k a0

def spec_DeterminantOf(k:Nat)(a0:List (List (Int×Int))):Option ((Int×Int)×Bool):=(Option.bind (spec_mxGood k a0) fun r1=>(bif (!r1)then some ((0,0),false)else(Option.bind (spec_mxDet k a0) fun r2=>some (r2.1,r2.2))))

def slices_Grow_Dyadic_Dyadic(a0:Unit)(a1:Int):Option (List (Int×Int)):=(bif decide (a1<0)then none else(bif decide ((IntKind.wrap .i64 (a1 - (IntKind.wrap .i64 (0 - 0))))>0)then(bif decide (0≤(IntKind.wrap .i64 (a1 - (IntKind.wrap .i64 (0 - 0)))))then(bif decide ((Int.toNat (IntKind.wrap .i64 (a1 - (IntKind.wrap .i64 (0 - 0)))))<274877906944)then(bif decide (0≤((List.replicate (Int.toNat (IntKind.wrap .i64 (a1 - (IntKind.wrap .i64 (0 - 0))))) ((0,0):Int×Int)).length:Int))then some ((List.replicate (Int.toNat (IntKind.wrap .i64 (a1 - (IntKind.wrap .i64 (0 - 0))))) ((0,0):Int×Int)).take 0)else none)else none)else none)else some ([]:List (Int×Int))))

def slices_Concat_Dyadic_Dyadic_L58(k:Nat):Nat→(List (List (Int×Int)))→Int→(List (List (Int×Int)))→Int→Int→Option ((List (Int×Int)) ⊕ ((List (List (Int×Int)))×Int×Unit))
 | 0,_,_,_,_,_=>none
 | n+1,x0,x3,x9,x10,x11=>(bif decide (x11<x10)then(bif decide (0≤x11)then(bif decide (x11<(x9.length:Int))then(bif decide ((IntKind.wrap .i64 (x3+((x9.getD (Int.toNat x11) []).length:Int)))<0)then none else(slices_Concat_Dyadic_Dyadic_L58 k n x0 (IntKind.wrap .i64 (x3+((x9.getD (Int.toNat x11) []).length:Int))) x9 x10 (IntKind.wrap .i64 (x11+1))))else none)else none)else some (Sum.inr (x0,x3,())))
def slices_Concat_Dyadic_Dyadic_L250(k:Nat):Nat→(List (Int×Int))→(List (List (Int×Int)))→Int→Int→Option ((List (Int×Int)) ⊕ ((List (Int×Int))×Unit))
 | 0,_,_,_,_=>none
 | n+1,x6,x25,x26,x27=>(bif decide (x27<x26)then(bif decide (0≤x27)then(bif decide (x27<(x25.length:Int))then(bif decide (x6.length+(x25.getD (Int.toNat x27) []).length<274877906944)then(slices_Concat_Dyadic_Dyadic_L250 k n (x6++(x25.getD (Int.toNat x27) [])) x25 x26 (IntKind.wrap .i64 (x27+1)))else none)else none)else none)else some (Sum.inr (x6,())))
def slices_Concat_Dyadic_Dyadic(k:Nat)(a0:List (List (Int×Int))):Option (List (Int×Int)):=(both (R:=List (Int×Int)) (P:=(List (List (Int×Int)))×Int×Unit) (slices_Concat_Dyadic_Dyadic_L58 k k a0 0 a0 (a0.length:Int) 0) (fun q3=>some q3) (fun y2=>(Option.bind (slices_Grow_Dyadic_Dyadic () y2.2.1) fun r4=>(both (R:=List (Int×Int)) (P:=bT1_5) (slices_Concat_Dyadic_Dyadic_L250 k k r4 y2.1 (y2.1.length:Int) 0) (fun q7=>some q7) (fun y6=>some y6.1)))))

def impl_part_Dyadic_L58(k:Nat):Nat→Int→Int→(List (List (Int×Int)))→(List (List (Int×Int)))→Int→Int→Option ((List (List (Int×Int))) ⊕ ((List (List (Int×Int)))×Unit))
 | 0,_,_,_,_,_,_=>none
 | n+1,x1,x2,x7,x10,x11,x12=>(bif decide (x12<x11)then(bif decide (0≤x12)then(bif decide (x12<(x10.length:Int))then(bif (x12 != x1)then(bif decide (0≤x2)then(bif decide (x2≤((x10.getD (Int.toNat x12) []).length:Int))then(bif decide (0≤(IntKind.wrap .i64 (x2+1)))then(bif decide ((IntKind.wrap .i64 (x2+1))≤((x10.getD (Int.toNat x12) []).length:Int))then(Option.bind (slices_Concat_Dyadic_Dyadic k ([(((x10.getD (Int.toNat x12) []).take (Int.toNat x2)).drop 0),(((x10.getD (Int.toNat x12) []).take (Int.toNat ((x10.getD (Int.toNat x12) []).length:Int))).drop (Int.toNat (IntKind.wrap .i64 (x2+1))))]:List (List (Int×Int)))) fun r1=>(bif decide (x7.length+([r1]:List (List (Int×Int))).length<274877906944)then(impl_part_Dyadic_L58 k n x1 x2 (x7++([r1]:List (List (Int×Int)))) x10 x11 (IntKind.wrap .i64 (x12+1)))else none))else none)else none)else none)else none)else(impl_part_Dyadic_L58 k n x1 x2 x7 x10 x11 (IntKind.wrap .i64 (x12+1))))else none)else none)else some (Sum.inr (x7,())))
def impl_part_Dyadic(k:Nat)(a0:List (List (Int×Int)))(a1:Int)(a2:Int):Option (List (List (Int×Int))):=(both (R:=List (List (Int×Int))) (P:=bT1_2) (impl_part_Dyadic_L58 k k a1 a2 [] a0 (a0.length:Int) 0) (fun q4=>some q4) (fun y3=>some y3.1))

def impl_reckoner_determinant_L122(k:Nat)(rc:Bool→(List (List (Int×Int)))→Option ((Int×Int)×Bool)):Nat→Bool→(List (List (Int×Int)))→(Int×Int)→(List (Int×Int))→(List (Int×Int))→Int→Int→Option (((Int×Int)×Bool) ⊕ (Bool×(Int×Int)×(List (Int×Int))×Unit))
 | 0,_,_,_,_,_,_,_=>none
 | n+1,x0,x1,x4,x5,x19,x20,x21=>(bif decide (x21<x20)then(bif decide (0≤x21)then(bif decide (x21<(x19.length:Int))then(Option.bind (impl_part_Dyadic k x1 0 x21) fun r1=>(Option.bind (rc x0 r1) fun r2=>(Option.bind (impl_reckoner_product k r2.2 (x19.getD (Int.toNat x21) (0,0)) r2.1) fun r3=>(both (R:=bT1_3) (P:=Bool×(List (List (Int×Int)))×(Int×Int)×(List (Int×Int))×(Int×Int)×(List (Int×Int))×Int×Int×Unit) ((bif ((Int.tmod x21 2)==1)then(Option.bind (impl_minus r3.1) fun r4=>some (Sum.inr (r3.2,x1,x4,x5,r4,x19,x20,x21,())))else some (Sum.inr (r3.2,x1,x4,x5,r3.1,x19,x20,x21,())))) (fun q6=>some (Sum.inl q6)) (fun y5=>(bif decide (y5.2.2.2.1.length+([y5.2.2.2.2.1]:List (Int×Int)).length<274877906944)then(impl_reckoner_determinant_L122 k rc n y5.1 y5.2.1 y5.2.2.1 (y5.2.2.2.1++([y5.2.2.2.2.1]:List (Int×Int))) y5.2.2.2.2.2.1 y5.2.2.2.2.2.2.1 (IntKind.wrap .i64 (y5.2.2.2.2.2.2.2.1+1)))else none))))))else none)else none)else some (Sum.inr (x0,x4,x5,())))
def impl_reckoner_determinant_B(k:Nat)(rc:Bool→(List (List (Int×Int)))→Option ((Int×Int)×Bool))(a0:Bool)(a1:List (List (Int×Int))):Option ((Int×Int)×Bool):=(bif ((a1.length:Int)==1)then(bif decide (0<(a1.length:Int))then(bif decide (0<((a1.getD 0 []).length:Int))then some (((a1.getD 0 []).getD 0 (0,0)),a0)else none)else none)else(bif decide (0<(a1.length:Int))then(both (R:=bT1_3) (P:=Bool×(Int×Int)×(List (Int×Int))×Unit) (impl_reckoner_determinant_L122 k rc k a0 a1 (0,0) [] (a1.getD 0 []) ((a1.getD 0 []).length:Int) 0) (fun q9=>some q9) (fun y8=>(Option.bind (impl_reckoner_total k y8.1 y8.2.2.1) fun r10=>some (r10.1,r10.2))))else none))
def impl_reckoner_determinant_R(k:Nat):Nat→Bool→(List (List (Int×Int)))→Option ((Int×Int)×Bool)
 | 0,_,_=>none
 | n+1,a0,a1=>impl_reckoner_determinant_B k (impl_reckoner_determinant_R k n) a0 a1
def impl_reckoner_determinant(k:Nat)(a0:Bool)(a1:List (List (Int×Int))):Option ((Int×Int)×Bool):=impl_reckoner_determinant_R k k a0 a1

def impl_DeterminantOf(k:Nat)(a0:List (List (Int×Int))):Option ((Int×Int)×Bool):=(Option.bind (impl_isTable k a0) fun r1=>(bif (!r1)then some ((0,0),false)else(Option.bind (impl_reckoner_determinant k true a0) fun r2=>some (r2.1,r2.2))))

def spec_mxAdjoint_L125338(k:Nat):Nat→(List (List (Int×Int)))→(List (List (Int×Int)))→Int→(List (Int×Int))→Int→Int→Int→Int→Option (((List (List (Int×Int)))×Bool) ⊕ ((List (List (Int×Int)))×(List (List (Int×Int)))×(List (Int×Int))×Int×Int×Unit))
 | 0,_,_,_,_,_,_,_,_=>none
 | n+1,x0,x4,x5,x6,x17,x18,x22,x23=>(bif decide (x23<x22)then(Option.bind (spec_mxPart k x0 x23 x5) fun r2=>(Option.bind (spec_mxDet k r2) fun r3=>(bif (!r3.2)then some (Sum.inl (([]:List (List (Int×Int))),false))else(both (R:=bT1_1) (P:=(List (List (Int×Int)))×(List (List (Int×Int)))×Int×(List (Int×Int))×(Int×Int)×Int×Int×Int×Int×Unit) ((bif ((Int.tmod (IntKind.wrap .i64 (x5+x23)) 2)==1)then(Option.bind (spec_dyMinus r3.1) fun r4=>some (Sum.inr (x0,x4,x5,x6,r4,x17,x18,x22,x23,())))else some (Sum.inr (x0,x4,x5,x6,r3.1,x17,x18,x22,x23,())))) (fun q6=>some (Sum.inl q6)) (fun y5=>(bif decide (y5.2.2.2.1.length+([y5.2.2.2.2.1]:List (Int×Int)).length<274877906944)then(spec_mxAdjoint_L125338 k n y5.1 y5.2.1 y5.2.2.1 (y5.2.2.2.1++([y5.2.2.2.2.1]:List (Int×Int))) y5.2.2.2.2.2.1 y5.2.2.2.2.2.2.1 y5.2.2.2.2.2.2.2.1 (IntKind.wrap .i64 (y5.2.2.2.2.2.2.2.2.1+1)))else none))))))else some (Sum.inr (x0,x4,x6,x17,x18,())))
def spec_mxAdjoint_L122(k:Nat):Nat→(List (List (Int×Int)))→(List (List (Int×Int)))→Int→Int→Option (((List (List (Int×Int)))×Bool) ⊕ ((List (List (Int×Int)))×Unit))
 | 0,_,_,_,_=>none
 | n+1,x0,x4,x17,x18=>(bif decide (x18<x17)then(both (R:=bT1_1) (P:=(List (List (Int×Int)))×(List (List (Int×Int)))×(List (Int×Int))×Int×Int×Unit) (spec_mxAdjoint_L125338 k k x0 x4 x18 [] x17 x18 (x0.length:Int) 0) (fun q9=>some (Sum.inl q9)) (fun y8=>(bif decide (y8.2.1.length+([y8.2.2.1]:List (List (Int×Int))).length<274877906944)then(spec_mxAdjoint_L122 k n y8.1 (y8.2.1++([y8.2.2.1]:List (List (Int×Int)))) y8.2.2.2.1 (IntKind.wrap .i64 (y8.2.2.2.2.1+1)))else none)))else some (Sum.inr (x4,())))
def spec_mxAdjoint(k:Nat)(a0:List (List (Int×Int))):Option ((List (List (Int×Int)))×Bool):=(bif ((a0.length:Int)==1)then(Option.bind (spec_dyInt 1) fun r1=>some (([([r1]:List (Int×Int))]:List (List (Int×Int))),true))else(both (R:=bT1_1) (P:=bT1_2) (spec_mxAdjoint_L122 k k a0 [] (a0.length:Int) 0) (fun q12=>some q12) (fun y11=>some (y11.1,true))))

def spec_AdjointOf(k:Nat)(a0:List (List (Int×Int))):Option ((List (List (Int×Int)))×Bool):=(Option.bind (spec_mxGood k a0) fun r1=>(bif (!r1)then some (([]:List (List (Int×Int))),false)else(Option.bind (spec_mxAdjoint k a0) fun r2=>some (r2.1,r2.2))))

def impl_adjoint_L256410(k:Nat):Nat→(List (List (Int×Int)))→Bool→(List (List (Int×Int)))→Int→(List (Int×Int))→Int→Int→Int→Int→Option (((List (List (Int×Int)))×Bool) ⊕ ((List (List (Int×Int)))×Bool×(List (List (Int×Int)))×(List (Int×Int))×Int×Int×Unit))
 | 0,_,_,_,_,_,_,_,_,_=>none
 | n+1,x0,x4,x5,x6,x7,x19,x20,x24,x25=>(bif decide (x25<x24)then(Option.bind (impl_part_Dyadic k x0 x25 x6) fun r2=>(Option.bind (impl_reckoner_determinant k x4 r2) fun r3=>(both (R:=bT1_1) (P:=(List (List (Int×Int)))×Bool×(List (List (Int×Int)))×Int×(List (Int×Int))×(Int×Int)×Int×Int×Int×Int×Unit) ((bif ((Int.tmod (IntKind.wrap .i64 (x6+x25)) 2)==1)then(Option.bind (impl_minus r3.1) fun r4=>some (Sum.inr (x0,r3.2,x5,x6,x7,r4,x19,x20,x24,x25,())))else some (Sum.inr (x0,r3.2,x5,x6,x7,r3.1,x19,x20,x24,x25,())))) (fun q6=>some (Sum.inl q6)) (fun y5=>(bif decide (y5.2.2.2.2.1.length+([y5.2.2.2.2.2.1]:List (Int×Int)).length<274877906944)then(impl_adjoint_L256410 k n y5.1 y5.2.1 y5.2.2.1 y5.2.2.2.1 (y5.2.2.2.2.1++([y5.2.2.2.2.2.1]:List (Int×Int))) y5.2.2.2.2.2.2.1 y5.2.2.2.2.2.2.2.1 y5.2.2.2.2.2.2.2.2.1 (IntKind.wrap .i64 (y5.2.2.2.2.2.2.2.2.2.1+1)))else none)))))else some (Sum.inr (x0,x4,x5,x7,x19,x20,())))
def impl_adjoint_L250(k:Nat):Nat→(List (List (Int×Int)))→Bool→(List (List (Int×Int)))→Int→Int→Option (((List (List (Int×Int)))×Bool) ⊕ (Bool×(List (List (Int×Int)))×Unit))
 | 0,_,_,_,_,_=>none
 | n+1,x0,x4,x5,x19,x20=>(bif decide (x20<x19)then(both (R:=bT1_1) (P:=(List (List (Int×Int)))×Bool×(List (List (Int×Int)))×(List (Int×Int))×Int×Int×Unit) (impl_adjoint_L256410 k k x0 x4 x5 x20 [] x19 x20 (x0.length:Int) 0) (fun q9=>some (Sum.inl q9)) (fun y8=>(bif decide (y8.2.2.1.length+([y8.2.2.2.1]:List (List (Int×Int))).length<274877906944)then(impl_adjoint_L250 k n y8.1 y8.2.1 (y8.2.2.1++([y8.2.2.2.1]:List (List (Int×Int)))) y8.2.2.2.2.1 (IntKind.wrap .i64 (y8.2.2.2.2.2.1+1)))else none)))else some (Sum.inr (x4,x5,())))
def impl_adjoint(k:Nat)(a0:List (List (Int×Int))):Option ((List (List (Int×Int)))×Bool):=(bif ((a0.length:Int)==1)then(Option.bind (impl_integer 1) fun r1=>some (([([r1]:List (Int×Int))]:List (List (Int×Int))),true))else(both (R:=bT1_1) (P:=Bool×(List (List (Int×Int)))×Unit) (impl_adjoint_L250 k k a0 true [] (a0.length:Int) 0) (fun q12=>some q12) (fun y11=>(bif (!y11.1)then some (([]:List (List (Int×Int))),false)else some (y11.2.1,true)))))

def impl_AdjointOf(k:Nat)(a0:List (List (Int×Int))):Option ((List (List (Int×Int)))×Bool):=(Option.bind (impl_isTable k a0) fun r1=>(bif (!r1)then some (([]:List (List (Int×Int))),false)else(Option.bind (impl_adjoint k a0) fun r2=>some (r2.1,r2.2))))

end Go.Ev.G

namespace Go.Ev.G
open Go Go.Ev
set_option maxRecDepth 100000
def laws_big(a0:List Int)(a1:List Int):Option (Bool):=(bif decide ((a0.length:Int)>1048576)then some true else some (decide ((a1.length:Int)>(IntKind.wrap .i64 (1048576 - (a0.length:Int))))))

def spec_l1Cur_next(ks:List Int)(a0:Unit×Int×Int):Option (Int×Unit×Int×Int):=(both (R:=Int×Unit×Int×Int) (P:=(Unit×Int×Int)×Int×Unit) ((bif decide (a0.2.1<(ks.length:Int))then(bif decide (0≤a0.2.1)then(bif decide (a0.2.1<(ks.length:Int))then some (Sum.inr (((),a0.2),(IntKind.wrap .i64 (ks.getD (Int.toNat a0.2.1) 0)),()))else none)else none)else some (Sum.inr (((),a0.2),0,())))) (fun q2=>some q2) (fun y1=>(bif decide ((IntKind.wrap .i64 (y1.1.2.1+1))≤(ks.length:Int))then some (y1.2.1,(),(IntKind.wrap .i64 (y1.1.2.1+1)),(IntKind.wrap .u64 ((IntKind.wrap .u64 ((IntKind.wrap .u64 (y1.1.2.2*6364136223846793005))+(IntKind.wrap .u64 y1.2.1)))+1442695040888963407)))else some ((IntKind.wrap .i64 (IntKind.wrap .u64 (BitVec.toNat (BitVec.ofInt (IntKind.bits .u64) (Int.fdiv (IntKind.wrap .u64 ((IntKind.wrap .u64 ((IntKind.wrap .u64 (y1.1.2.2*6364136223846793005))+(IntKind.wrap .u64 y1.2.1)))+1442695040888963407)) (2 ^ min (Int.toNat 40) (IntKind.bits .u64))) &&& BitVec.ofInt (IntKind.bits .u64) 255):Int))),(),(IntKind.wrap .i64 (y1.1.2.1+1)),(IntKind.wrap .u64 ((IntKind.wrap .u64 ((IntKind.wrap .u64 (y1.1.2.2*6364136223846793005))+(IntKind.wrap .u64 y1.2.1)))+1442695040888963407))))))

def spec_l1Cur_pick(ks:List Int)(a0:Unit×Int×Int)(a1:Int):Option (Int×Unit×Int×Int):=(bif decide (a1≤1)then some (0,(),a0.2)else(Option.bind (spec_l1Cur_next ks ((),a0.2)) fun r1=>(bif decide (a1>200)then(Option.bind (spec_l1Cur_next ks ((),r1.2.2)) fun r2=>(bif (a1==0)then none else some ((Int.tmod (IntKind.wrap .i64 ((IntKind.wrap .i64 (r1.1*256))+r2.1)) a1),(),r2.2.2)))else(bif (a1==0)then none else some ((Int.tmod r1.1 a1),(),r1.2.2)))))

def spec_l1Cur_among(ks:List Int)(a0:Unit×Int×Int)(a1:List Int):Option (Int×Unit×Int×Int):=(Option.bind (spec_l1Cur_pick ks ((),a0.2) (a1.length:Int)) fun r1=>(bif decide (0≤r1.1)then(bif decide (r1.1<(a1.length:Int))then some ((a1.getD (Int.toNat r1.1) 0),(),r1.2.2)else none)else none))

def spec_l1Cur_one(ks:List Int)(a0:Unit×Int×Int)(a1:Int):Option (Bool×Unit×Int×Int):=(Option.bind (spec_l1Cur_pick ks ((),a0.2) a1) fun r1=>some ((r1.1==0),(),r1.2.2))

def spec_l1Cur_dyadic(k:Nat)(ks:List Int)(a0:Unit×Int×Int):Option ((Int×Int)×Unit×Int×Int):=(Option.bind (spec_l1Cur_pick ks ((),a0.2) 65) fun r1=>(Option.bind (spec_l1Cur_pick ks ((),r1.2.2) 60000) fun r2=>(Option.bind (spec_l1Cur_among ks ((),r2.2.2) ([0,1,(-1),3,(-5),7,(IntKind.wrap .i64 (r1.1 - 32)),(IntKind.wrap .i64 (r2.1 - 30000))]:List Int)) fun r3=>(Option.bind (spec_l1Cur_among ks ((),r3.2.2) ([0,0,1,2,3,8,16,24]:List Int)) fun r4=>(Option.bind (spec_dyMake k r3.1 r4.1) fun r5=>(both (R:=(Int×Int)×Unit×Int×Int) (P:=(Int×Int)×(Int×Int)×Bool×(Unit×Int×Int)×Unit) ((Option.bind (spec_l1Cur_one ks ((),r4.2.2) 16) fun r6=>(bif r6.1 then(Option.bind (spec_l1Cur_among ks ((),r6.2.2) ([1099511627776,(-1099511627776),1099511627775,(-1099511627775)]:List Int)) fun r7=>(Option.bind (spec_l1Cur_among ks ((),r7.2.2) ([0,1,24]:List Int)) fun r8=>(Option.bind (spec_dyMake k r7.1 r8.1) fun r9=>some (Sum.inr ((0,0),r9.1,r9.2,((),r8.2.2),())))))else some (Sum.inr ((0,0),r5.1,r5.2,((),r6.2.2),()))))) (fun q12=>some q12) (fun y10=>(bif (!y10.2.2.1)then(Option.bind (spec_dyInt 1) fun r11=>some (r11,(),y10.2.2.2.1.2))else some (y10.2.1,(),y10.2.2.2.1.2)))))))))

def spec_l1Cur_anyDyadic(k:Nat)(ks:List Int)(a0:Unit×Int×Int):Option ((Int×Int)×Unit×Int×Int):=(Option.bind (spec_l1Cur_dyadic k ks ((),a0.2)) fun r1=>(Option.bind (spec_l1Cur_pick ks ((),r1.2.2) 30) fun r2=>(bif (r2.1==0)then(Option.bind (spec_l1Cur_among ks ((),r2.2.2) ([(-1),25,4611686018427387904]:List Int)) fun r3=>some ((r1.1.1,r3.1),(),r3.2.2))else(bif (r2.1==1)then(Option.bind (spec_l1Cur_among ks ((),r2.2.2) ([1099511627777,(-1099511627777),(-9223372036854775808)]:List Int)) fun r4=>some ((r4.1,r1.1.2),(),r4.2.2))else(bif (r2.1==2)then(Option.bind (spec_l1Cur_pick ks ((),r2.2.2) 9) fun r5=>(Option.bind (spec_l1Cur_pick ks ((),r5.2.2) 4) fun r6=>some (((IntKind.wrap .i64 (2*r5.1)),(IntKind.wrap .i64 (1+r6.1))),(),r6.2.2)))else some (r1.1,(),r2.2.2))))))

def spec_l1Cur_entry(k:Nat)(ks:List Int)(a0:Unit×Int×Int):Option ((Int×Int)×Unit×Int×Int):=(Option.bind (spec_l1Cur_one ks ((),a0.2) 40) fun r1=>(bif r1.1 then(Option.bind (spec_l1Cur_anyDyadic k ks ((),r1.2.2)) fun r2=>some (r2.1,(),r2.2.2))else(Option.bind (spec_l1Cur_pick ks ((),r1.2.2) 41) fun r3=>(Option.bind (spec_l1Cur_among ks ((),r3.2.2) ([0,0,1,(-1),2,3,(IntKind.wrap .i64 (r3.1 - 20))]:List Int)) fun r4=>(Option.bind (spec_l1Cur_among ks ((),r4.2.2) ([0,0,1,2,4]:List Int)) fun r5=>(Option.bind (spec_dyMake k r4.1 r5.1) fun r6=>some (r6.1,(),r5.2.2)))))))

def spec_l1Cur_table_L1812(k:Nat)(ks:List Int):Nat→(Unit×Int×Int)→Int→(List (List (Int×Int)))→(List (Int×Int))→Option (((List (List (Int×Int)))×Unit×Int×Int) ⊕ ((Unit×Int×Int)×Int×(List (List (Int×Int)))×(List (Int×Int))×Unit))
 | 0,_,_,_,_=>none
 | n+1,x0,x1,x5,x6=>(bif decide ((x6.length:Int)<x1)then(Option.bind (spec_l1Cur_entry k ks ((),x0.2)) fun r1=>(bif decide (x6.length+([r1.1]:List (Int×Int)).length<274877906944)then(spec_l1Cur_table_L1812 k ks n ((),r1.2.2) x1 x5 (x6++([r1.1]:List (Int×Int))))else none))else some (Sum.inr (((),x0.2),x1,x5,x6,())))
def spec_l1Cur_table_L28(k:Nat)(ks:List Int):Nat→(Unit×Int×Int)→Int→(List (List (Int×Int)))→Option (((List (List (Int×Int)))×Unit×Int×Int) ⊕ ((Unit×Int×Int)×Int×(List (List (Int×Int)))×Unit))
 | 0,_,_,_=>none
 | n+1,x0,x1,x5=>(bif decide ((x5.length:Int)<x1)then(both (R:=(List (List (Int×Int)))×Unit×Int×Int) (P:=(Unit×Int×Int)×Int×(List (List (Int×Int)))×(List (Int×Int))×Unit) (spec_l1Cur_table_L1812 k ks k ((),x0.2) x1 x5 []) (fun q4=>some (Sum.inl q4)) (fun y3=>(bif decide (y3.2.2.1.length+([y3.2.2.2.1]:List (List (Int×Int))).length<274877906944)then(spec_l1Cur_table_L28 k ks n ((),y3.1.2) y3.2.1 (y3.2.2.1++([y3.2.2.2.1]:List (List (Int×Int)))))else none)))else some (Sum.inr (((),x0.2),x1,x5,())))
def spec_l1Cur_table(k:Nat)(ks:List Int)(a0:Unit×Int×Int)(a1:Int):Option ((List (List (Int×Int)))×Unit×Int×Int):=(both (R:=(List (List (Int×Int)))×Unit×Int×Int) (P:=(Unit×Int×Int)×Int×(List (List (Int×Int)))×Unit) (spec_l1Cur_table_L28 k ks k ((),a0.2) a1 []) (fun q7=>some q7) (fun y6=>(Option.bind (spec_l1Cur_pick ks ((),y6.1.2) 40) fun r8=>(bif (r8.1==0)then(bif decide (0<(y6.2.2.1.length:Int))then(bif decide (1≤((y6.2.2.1.getD 0 []).length:Int))then(bif decide (0<(y6.2.2.1.length:Int))then some ((y6.2.2.1.set 0 ((y6.2.2.1.getD 0 []).drop 1)),(),r8.2.2)else none)else none)else none)else(bif (r8.1==1)then some (([]:List (List (Int×Int))),(),r8.2.2)else(bif (r8.1==2)then(bif decide (0<(y6.2.2.1.length:Int))then(bif decide (([]:List (Int×Int)).length+(y6.2.2.1.getD 0 []).length<274877906944)then(bif decide (0≤(IntKind.wrap .i64 (y6.2.1 - 1)))then(bif decide ((IntKind.wrap .i64 (y6.2.1 - 1))<(y6.2.2.1.length:Int))then some ((y6.2.2.1.set (Int.toNat (IntKind.wrap .i64 (y6.2.1 - 1))) (([]:List (Int×Int))++(y6.2.2.1.getD 0 []))),(),r8.2.2)else none)else none)else none)else none)else some (y6.2.2.1,(),r8.2.2)))))))

def spec_DrawIsTable(k:Nat)(ks:List Int):Option (List (List (Int×Int))):=(Option.bind (spec_l1Cur_among ks ((),0,0) ([3,4]:List Int)) fun r1=>(Option.bind (spec_l1Cur_among ks ((),r1.2.2) ([1,2,2,3,r1.1]:List Int)) fun r2=>(Option.bind (spec_l1Cur_table k ks ((),r2.2.2) r2.1) fun r3=>some r3.1)))

def spec_DrawAdjointOf(k:Nat)(a0:List Int):Option (List (List (Int×Int))):=(Option.bind (spec_DrawIsTable k a0) fun r1=>some r1)

def laws_pSamePoint_L58(k:Nat):Nat→(List (Int×Int))→(List (Int×Int))→Int→Int→Option ((Bool) ⊕ (Unit))
 | 0,_,_,_,_=>none
 | n+1,x0,x1,x12,x13=>(bif decide (x13<x12)then(bif decide (0≤x13)then(bif decide (x13<(x0.length:Int))then(bif decide (0≤x13)then(bif decide (x13<(x1.length:Int))then(bif (!(((x0.getD (Int.toNat x13) (0,0)).1==(x1.getD (Int.toNat x13) (0,0)).1)&&(((x0.getD (Int.toNat x13) (0,0)).2==(x1.getD (Int.toNat x13) (0,0)).2)&&true)))then some (Sum.inl false)else(laws_pSamePoint_L58 k n x0 x1 x12 (IntKind.wrap .i64 (x13+1))))else none)else none)else none)else none)else some (Sum.inr ()))
def laws_pSamePoint(k:Nat)(a0:List (Int×Int))(a1:List (Int×Int)):Option (Bool):=(bif ((a0.length:Int) != (a1.length:Int))then some false else(both (R:=Bool) (P:=Unit) (laws_pSamePoint_L58 k k a0 a1 (a0.length:Int) 0) (fun q3=>some q3) (fun y2=>some true)))

def laws_pSameTable_L58(k:Nat):Nat→(List (List (Int×Int)))→(List (List (Int×Int)))→Int→Int→Option ((Bool) ⊕ (Unit))
 | 0,_,_,_,_=>none
 | n+1,x0,x1,x12,x13=>(bif decide (x13<x12)then(bif decide (0≤x13)then(bif decide (x13<(x0.length:Int))then(bif decide (0≤x13)then(bif decide (x13<(x1.length:Int))then(Option.bind (laws_pSamePoint k (x0.getD (Int.toNat x13) []) (x1.getD (Int.toNat x13) [])) fun r1=>(bif (!r1)then some (Sum.inl false)else(laws_pSameTable_L58 k n x0 x1 x12 (IntKind.wrap .i64 (x13+1)))))else none)else none)else none)else none)else some (Sum.inr ()))
def laws_pSameTable(k:Nat)(a0:List (List (Int×Int)))(a1:List (List (Int×Int))):Option (Bool):=(bif ((a0.length:Int) != (a1.length:Int))then some false else(both (R:=Bool) (P:=Unit) (laws_pSameTable_L58 k k a0 a1 (a0.length:Int) 0) (fun q4=>some q4) (fun y3=>some true)))

def spec_l1Cur_sides(ks:List Int)(a0:Unit×Int×Int):Option (Int×Unit×Int×Int):=(Option.bind (spec_l1Cur_among ks ((),a0.2) ([1,2,2,3]:List Int)) fun r1=>some (r1.1,(),r1.2.2))

def spec_DrawMultiplyTables(k:Nat)(ks:List Int):Option ((List (List (Int×Int)))×List (List (Int×Int))):=(Option.bind (spec_l1Cur_sides ks ((),0,0)) fun r1=>(Option.bind (spec_l1Cur_table k ks ((),r1.2.2) r1.1) fun r2=>(Option.bind (spec_l1Cur_one ks ((),r2.2.2) 20) fun r3=>(bif r3.1 then(Option.bind (spec_l1Cur_sides ks ((),r3.2.2)) fun r4=>(Option.bind (spec_l1Cur_table k ks ((),r4.2.2) r4.1) fun r5=>some (r2.1,r5.1)))else(Option.bind (spec_l1Cur_table k ks ((),r3.2.2) r1.1) fun r6=>some (r2.1,r6.1))))))

def spec_dyTwo(a0:Int×Int)(a1:Int×Int):Option (Bool):=(Option.bind (spec_dyGood a0) fun r1=>(bif r1 then(Option.bind (spec_dyGood a1) fun r2=>some r2)else some false))

def spec_MultiplyDyadic(k:Nat)(a0:Int×Int)(a1:Int×Int):Option ((Int×Int)×Bool):=(Option.bind (spec_dyTwo a0 a1) fun r1=>(bif (!r1)then some ((0,0),false)else(Option.bind (spec_dyMul k a0 a1) fun r2=>some (r2.1,r2.2))))

def spec_DrawTimesPoint_L252(k:Nat)(ks:List Int):Nat→(Unit×Int×Int)→Int→(List (List (Int×Int)))→(List (Int×Int))→Option (((List (List (Int×Int)))×List (Int×Int)) ⊕ ((List (List (Int×Int)))×(List (Int×Int))×Unit))
 | 0,_,_,_,_=>none
 | n+1,x4,x5,x6,x7=>(Option.bind (spec_l1Cur_pick ks ((),x4.2) 16) fun r3=>(bif decide ((x7.length:Int)<(IntKind.wrap .i64 (x5+(IntKind.wrap .i64 (Int.tdiv r3.1 15)))))then(Option.bind (spec_l1Cur_entry k ks ((),r3.2.2)) fun r4=>(bif decide (x7.length+([r4.1]:List (Int×Int)).length<274877906944)then(spec_DrawTimesPoint_L252 k ks n ((),r4.2.2) x5 x6 (x7++([r4.1]:List (Int×Int))))else none))else some (Sum.inr (x6,x7,()))))
def spec_DrawTimesPoint(k:Nat)(ks:List Int):Option ((List (List (Int×Int)))×List (Int×Int)):=(Option.bind (spec_l1Cur_sides ks ((),0,0)) fun r1=>(Option.bind (spec_l1Cur_table k ks ((),r1.2.2) r1.1) fun r2=>(both (R:=(List (List (Int×Int)))×List (Int×Int)) (P:=(List (List (Int×Int)))×(List (Int×Int))×Unit) (spec_DrawTimesPoint_L252 k ks k ((),r2.2.2) r1.1 r2.1 []) (fun q7=>some q7) (fun y6=>some (y6.1,y6.2.1)))))

def spec_DrawRowSums(k:Nat)(a0:List Int):Option (List (List (Int×Int))):=(Option.bind (spec_DrawIsTable k a0) fun r1=>some r1)

def spec_DrawUnitTable(ks:List Int):Option (Int):=(Option.bind (spec_l1Cur_among ks ((),0,0) ([0,4,(-1)]:List Int)) fun r1=>(Option.bind (spec_l1Cur_among ks ((),r1.2.2) ([1,2,3,r1.1]:List Int)) fun r2=>some r2.1))

def laws_FnTables_L134052454(k:Nat):Nat→(List Int)→(Int×Int)→Int→(List (List (Int×Int)))→Int→Int→(List (Int×Int))→Int→Int→Option ((Bool) ⊕ ((List Int)×(Int×Int)×(List (List (Int×Int)))×Int×Int×Unit))
 | 0,_,_,_,_,_,_,_,_,_=>none
 | n+1,x1,x12,x18,x145,x146,x147,x152,x153,x154=>(bif decide (x154<x153)then(bif decide (0≤x154)then(bif decide (x154<(x152.length:Int))then(bif (x18==x154)then(bif (!(((x152.getD (Int.toNat x154) (0,0)).1==x12.1)&&(((x152.getD (Int.toNat x154) (0,0)).2==x12.2)&&true)))then some (Sum.inl false)else(laws_FnTables_L134052454 k n x1 x12 x18 x145 x146 x147 x152 x153 (IntKind.wrap .i64 (x154+1))))else(bif (!(((x152.getD (Int.toNat x154) (0,0)).1==0)&&(((x152.getD (Int.toNat x154) (0,0)).2==0)&&true)))then some (Sum.inl false)else(laws_FnTables_L134052454 k n x1 x12 x18 x145 x146 x147 x152 x153 (IntKind.wrap .i64 (x154+1)))))else none)else none)else some (Sum.inr (x1,x12,x145,x146,x147,())))
def laws_FnTables_L523642(k:Nat):Nat→(List Int)→(Int×Int)→(List (List (Int×Int)))→Int→Int→Option ((Bool) ⊕ ((List Int)×Unit))
 | 0,_,_,_,_,_=>none
 | n+1,x1,x12,x145,x146,x147=>(bif decide (x147<x146)then(bif decide (0≤x147)then(bif decide (x147<(x145.length:Int))then(both (R:=Bool) (P:=(List Int)×(Int×Int)×(List (List (Int×Int)))×Int×Int×Unit) (laws_FnTables_L134052454 k k x1 x12 x147 x145 x146 x147 (x145.getD (Int.toNat x147) []) ((x145.getD (Int.toNat x147) []).length:Int) 0) (fun q17=>some (Sum.inl q17)) (fun y16=>(laws_FnTables_L523642 k n y16.1 y16.2.1 y16.2.2.1 y16.2.2.2.1 (IntKind.wrap .i64 (y16.2.2.2.2.1+1)))))else none)else none)else some (Sum.inr (x1,())))
def laws_FnTables(k:Nat)(a0:List Int)(a1:List Int):Option (Bool):=(Option.bind (laws_big a0 a1) fun r1=>(bif r1 then some true else(Option.bind (spec_DrawAdjointOf k a0) fun r2=>(Option.bind (impl_AdjointOf k r2) fun r3=>(Option.bind (spec_AdjointOf k r2) fun r4=>(Option.bind (impl_DeterminantOf k r2) fun r5=>(Option.bind (spec_DeterminantOf k r2) fun r6=>(both (R:=Bool) (P:=(List Int)×(List (List (Int×Int)))×(List (List (Int×Int)))×Bool×(List (List (Int×Int)))×Bool×(Int×Int)×Unit) ((bif (!(r3.2==r4.2))then some (Sum.inl false)else(Option.bind (laws_pSameTable k r3.1 r4.1) fun r7=>(bif (!r7)then some (Sum.inl false)else(bif (!(r5.2==r6.2))then some (Sum.inl false)else(bif (!((r5.1.1==r6.1.1)&&((r5.1.2==r6.1.2)&&true)))then some (Sum.inl false)else(bif r3.2 then(Option.bind (impl_IsTable k r2) fun r8=>(bif (!r8)then some (Sum.inl false)else(bif r5.2 then(Option.bind (impl_IsTable k r2) fun r9=>(bif (!r9)then some (Sum.inl false)else some (Sum.inr (a1,r2,r3.1,r3.2,r4.1,r5.2,r6.1,()))))else some (Sum.inr (a1,r2,r3.1,r3.2,r4.1,r5.2,r6.1,())))))else(bif r5.2 then(Option.bind (impl_IsTable k r2) fun r10=>(bif (!r10)then some (Sum.inl false)else some (Sum.inr (a1,r2,r3.1,r3.2,r4.1,r5.2,r6.1,()))))else some (Sum.inr (a1,r2,r3.1,r3.2,r4.1,r5.2,r6.1,())))))))))) (fun q51=>some q51) (fun y11=>(both (R:=Bool) (P:=(List Int)×Unit) ((bif y11.2.2.2.1 then(bif y11.2.2.2.2.2.1 then(Option.bind (impl_MultiplyTables k y11.2.2.1 y11.2.1) fun r12=>(Option.bind (spec_MultiplyTables k y11.2.2.2.2.1 y11.2.1) fun r13=>(bif (!(r12.2==r13.2))then some (Sum.inl false)else(Option.bind (laws_pSameTable k r12.1 r13.1) fun r14=>(bif (!r14)then some (Sum.inl false)else(bif r13.2 then(both (R:=Bool) (P:=(List Int)×Unit) (laws_FnTables_L523642 k k y11.1 y11.2.2.2.2.2.2.1 r13.1 (r13.1.length:Int) 0) (fun q20=>some (Sum.inl q20)) (fun y19=>some (Sum.inr (y19.1,()))))else some (Sum.inr (y11.1,()))))))))else some (Sum.inr (y11.1,())))else some (Sum.inr (y11.1,())))) (fun q50=>some q50) (fun y21=>(Option.bind (spec_DrawMultiplyTables k y21.1) fun r22=>(Option.bind (impl_MultiplyTables k r22.1 r22.2) fun r23=>(Option.bind (spec_MultiplyTables k r22.1 r22.2) fun r24=>(bif (!(r23.2==r24.2))then some false else(Option.bind (laws_pSameTable k r23.1 r24.1) fun r25=>(bif (!r25)then some false else(both (R:=Bool) (P:=(List Int)×Unit) ((bif r23.2 then(Option.bind (spec_DeterminantOf k r22.1) fun r26=>(Option.bind (spec_DeterminantOf k r22.2) fun r27=>(Option.bind (spec_MultiplyDyadic k r26.1 r27.1) fun r28=>(Option.bind (impl_DeterminantOf k r23.1) fun r29=>(Option.bind (spec_DeterminantOf k r24.1) fun r30=>(both (R:=Bool) (P:=(List Int)×(List (List (Int×Int)))×Unit) ((bif (!(r29.2==r30.2))then some (Sum.inl false)else(bif (!((r29.1.1==r30.1.1)&&((r29.1.2==r30.1.2)&&true)))then some (Sum.inl false)else(bif r26.2 then(bif r27.2 then(bif r28.2 then(bif r30.2 then(bif (!((r30.1.1==r28.1.1)&&((r30.1.2==r28.1.2)&&true)))then some (Sum.inl false)else some (Sum.inr (y21.1,r22.1,())))else some (Sum.inr (y21.1,r22.1,())))else some (Sum.inr (y21.1,r22.1,())))else some (Sum.inr (y21.1,r22.1,())))else some (Sum.inr (y21.1,r22.1,())))))) (fun q35=>some (Sum.inl q35)) (fun y31=>(Option.bind (impl_UnitTable k (y31.2.1.length:Int)) fun r32=>(Option.bind (impl_MultiplyTables k y31.2.1 r32.1) fun r33=>(bif (!r32.2)then some (Sum.inl false)else(bif (!r33.2)then some (Sum.inl false)else(Option.bind (laws_pSameTable k r33.1 y31.2.1) fun r34=>(bif (!r34)then some (Sum.inl false)else some (Sum.inr (y31.1,())))))))))))))))else some (Sum.inr (y21.1,())))) (fun q49=>some q49) (fun y36=>(Option.bind (spec_DrawTimesPoint k y36.1) fun r37=>(Option.bind (impl_TimesPoint k r37.1 r37.2) fun r38=>(Option.bind (spec_TimesPoint k r37.1 r37.2) fun r39=>(Option.bind (spec_DrawRowSums k y36.1) fun r40=>(Option.bind (impl_RowSums k r40) fun r41=>(Option.bind (spec_RowSums k r40) fun r42=>(Option.bind (spec_DrawUnitTable y36.1) fun r43=>(Option.bind (impl_UnitTable k r43) fun r44=>(Option.bind (spec_UnitTable k r43) fun r45=>(bif (r38.2==r39.2)then(Option.bind (laws_pSamePoint k r38.1 r39.1) fun r46=>(bif r46 then(bif (r41.2==r42.2)then(Option.bind (laws_pSamePoint k r41.1 r42.1) fun r47=>(bif r47 then(bif (r44.2==r45.2)then(Option.bind (laws_pSameTable k r44.1 r45.1) fun r48=>some r48)else some false)else some false))else some false)else some false))else some false)))))))))))))))))))))))))))))
end Go.Ev.G

