/- The functions that the law reaches as plain functions over plain data, each with a bound on its rounds; definitions only. -/
import Derived.Test.YtiglamoomghakaaGreatE3
import Derived.IntWalk
import Derived.Laws.Bits64
import Derived.KernelRfl
set_option linter.unusedVariables false
namespace Go.Ev.G
open Go Go.Ev
abbrev bT1_1:Type:=Int×Unit
abbrev bT1_2:Type:=(Int×Int)×Bool
abbrev bT1_3:Type:=(List (Int×Int×Int×Int))×Unit
abbrev bT1_4:Type:=((Int×Int)×Int×Int)×((Int×Int)×Int×Int)×Unit
abbrev bT1_5:Type:=((Int×Int)×Int×Int)×Bool
abbrev bT1_6:Type:=List (Int×(Int×Int)×(Int×Int)×Int×Int)
abbrev bT1_7:Type:=(List (Int×(Int×Int)×(Int×Int)×Int×Int))×Unit
abbrev bT1_8:Type:=List (Int×Int×Int×Int)
abbrev bT1_9:Type:=(List (Int×Int×Int×Int))×Int×Unit×Int×Int×Unit
abbrev bT1_10:Type:=List (List Int×List Int)×List (List Int×List Int)
abbrev bT1_11:Type:=(List (Int×Int×Int×Int))×(List (Int×Int×Int×Int))×Unit
abbrev bT1_12:Type:=(List (List (Int×Int×Int×Int)))×Bool
abbrev bT1_13:Type:=(List (Int×Int×Int×Int))×(List (Int×Int×Int×Int))×(List (List Int))×Int×Int×Unit
set_option maxRecDepth 100000
def spec_l1In(a0:Int)(a1:Int)(a2:Int):Option (Bool):=(bif decide (a0≥a1)then some (decide (a0≤a2))else some false)

def spec_dyInt(a0:Int):Option (Int×Int):=some (a0,0)

def impl_inside(a0:Int)(a1:Int)(a2:Int):Option (Bool):=(bif decide (a0≥a1)then some (decide (a0≤a2))else some false)

def impl_integer(a0:Int):Option (Int×Int):=some (a0,0)

def spec_dyPower(a0:Int):Option (Int):=(bif decide ((IntKind.wrap .u64 a0)<0)then none else some (IntKind.wrap .i64 (1*2 ^ min (Int.toNat (IntKind.wrap .u64 a0)) (IntKind.bits .i64))))

def laws_roomBehind(a0:Int):Option (Int):=(bif ((Int.tmod a0 6)==5)then some 0 else(bif ((Int.tmod a0 3)==0)then some 1 else some a0))

def spec_dyGood(a0:Int×Int):Option (Bool):=(Option.bind (spec_l1In a0.2 0 24) fun r1=>(bif r1 then(Option.bind (spec_l1In a0.1 (-1099511627776) 1099511627776) fun r2=>(bif r2 then(bif (a0.2==0)then some true else some ((Int.tmod a0.1 2) != 0))else some false))else some false))

def spec_l1All_L26(k:Nat):Nat→Int→Int→(List Int)→Int→Int→Option ((Bool) ⊕ (Unit))
 | 0,_,_,_,_,_=>none
 | n+1,x1,x2,x9,x10,x11=>(bif decide (x11<x10)then(bif decide (0≤x11)then(bif decide (x11<(x9.length:Int))then(Option.bind (spec_l1In (x9.getD (Int.toNat x11) 0) x1 x2) fun r1=>(bif (!r1)then some (Sum.inl false)else(spec_l1All_L26 k n x1 x2 x9 x10 (IntKind.wrap .i64 (x11+1)))))else none)else none)else some (Sum.inr ()))
def spec_l1All(k:Nat)(a0:List Int)(a1:Int)(a2:Int):Option (Bool):=(both (R:=Bool) (P:=Unit) (spec_l1All_L26 k k a1 a2 a0 (a0.length:Int) 0) (fun q4=>some q4) (fun y3=>some true))

def laws_toIntS_L122(k:Nat):Nat→(List Int)→(List Int)→Int→Option ((List Int×List Int) ⊕ ((List Int)×(List Int)×Unit))
 | 0,_,_,_=>none
 | n+1,x0,x5,x6=>(bif decide (x6<(x0.length:Int))then(bif decide (0≤x6)then(bif decide (x6<(x0.length:Int))then(bif decide (0≤x6)then(bif decide (x6<(x5.length:Int))then(laws_toIntS_L122 k n x0 (x5.set (Int.toNat x6) (x0.getD (Int.toNat x6) 0)) (IntKind.wrap .i64 (x6+1)))else none)else none)else none)else none)else some (Sum.inr (x0,x5,())))
def laws_toIntS_L250(k:Nat):Nat→(List Int)→(List Int)→Int→Option ((List Int×List Int) ⊕ ((List Int)×(List Int)×Unit))
 | 0,_,_,_=>none
 | n+1,x0,x5,x7=>(bif decide (x7<(x5.length:Int))then(bif decide (0≤x7)then(bif decide (x7<(x5.length:Int))then(laws_toIntS_L250 k n x0 (x5.set (Int.toNat x7) (-7000000000000000101)) (IntKind.wrap .i64 (x7+1)))else none)else none)else some (Sum.inr (x0,x5,())))
def laws_toIntS(k:Nat)(a0:List Int)(a1:Bool):Option (List Int×List Int):=(both (R:=List Int×List Int) (P:=(List Int)×Unit) ((bif a1 then(bif ((a0.length:Int)==0)then some (Sum.inl (([]:List Int),([]:List Int)))else some (Sum.inr (a0,())))else some (Sum.inr (a0,())))) (fun q9=>some q9) (fun y1=>(Option.bind (laws_roomBehind (y1.1.length:Int)) fun r2=>(bif decide (0≤(IntKind.wrap .i64 ((y1.1.length:Int)+r2)))then(bif decide ((Int.toNat (IntKind.wrap .i64 ((y1.1.length:Int)+r2)))<274877906944)then(both (R:=List Int×List Int) (P:=(List Int)×(List Int)×Unit) (laws_toIntS_L122 k k y1.1 (List.replicate (Int.toNat (IntKind.wrap .i64 ((y1.1.length:Int)+r2))) (0:Int)) 0) (fun q5=>some q5) (fun y4=>(both (R:=List Int×List Int) (P:=(List Int)×(List Int)×Unit) (laws_toIntS_L250 k k y4.1 y4.2.1 (y4.1.length:Int)) (fun q8=>some q8) (fun y7=>(bif decide (0≤(y7.1.length:Int))then(bif decide ((y7.1.length:Int)≤(y7.2.1.length:Int))then some ((y7.2.1.take (Int.toNat (y7.1.length:Int))),(y7.2.1.drop (Int.toNat (y7.1.length:Int))))else none)else none)))))else none)else none))))

def spec_imTurns_L58(k:Nat):Nat→(List Int)→Int→(List Int)→Int→Int→Option ((Int×Bool) ⊕ (Int×Unit))
 | 0,_,_,_,_,_=>none
 | n+1,x0,x4,x7,x8,x9=>(bif decide (x9<x8)then(bif decide (0≤x9)then(bif decide (x9<(x7.length:Int))then(bif ((x0.length:Int)==0)then none else(bif decide (0≤(Int.tmod (IntKind.wrap .i64 (x9+1)) (x0.length:Int)))then(bif decide ((Int.tmod (IntKind.wrap .i64 (x9+1)) (x0.length:Int))<(x0.length:Int))then(bif ((Int.tmod (IntKind.wrap .i64 ((IntKind.wrap .i64 ((x0.getD (Int.toNat (Int.tmod (IntKind.wrap .i64 (x9+1)) (x0.length:Int))) 0) - (x7.getD (Int.toNat x9) 0)))+4)) 4)==1)then(spec_imTurns_L58 k n x0 (IntKind.wrap .i64 (x4+1)) x7 x8 (IntKind.wrap .i64 (x9+1)))else(bif ((Int.tmod (IntKind.wrap .i64 ((IntKind.wrap .i64 ((x0.getD (Int.toNat (Int.tmod (IntKind.wrap .i64 (x9+1)) (x0.length:Int))) 0) - (x7.getD (Int.toNat x9) 0)))+4)) 4)==2)then some (Sum.inl (0,false))else(bif ((Int.tmod (IntKind.wrap .i64 ((IntKind.wrap .i64 ((x0.getD (Int.toNat (Int.tmod (IntKind.wrap .i64 (x9+1)) (x0.length:Int))) 0) - (x7.getD (Int.toNat x9) 0)))+4)) 4)==3)then(spec_imTurns_L58 k n x0 (IntKind.wrap .i64 (x4 - 1)) x7 x8 (IntKind.wrap .i64 (x9+1)))else(spec_imTurns_L58 k n x0 x4 x7 x8 (IntKind.wrap .i64 (x9+1))))))else none)else none))else none)else none)else some (Sum.inr (x4,())))
def spec_imTurns(k:Nat)(a0:List Int):Option (Int×Bool):=(both (R:=Int×Bool) (P:=bT1_1) (spec_imTurns_L58 k k a0 0 a0 (a0.length:Int) 0) (fun q3=>some q3) (fun y2=>some ((IntKind.wrap .i64 (Int.tdiv y2.1 4)),((Int.tmod y2.1 4)==0))))

def impl_turnsOf_L58(k:Nat):Nat→(List Int)→Int→(List Int)→Int→Int→Option ((Int×Bool) ⊕ (Int×Unit))
 | 0,_,_,_,_,_=>none
 | n+1,x0,x4,x7,x8,x9=>(bif decide (x9<x8)then(bif decide (0≤x9)then(bif decide (x9<(x7.length:Int))then(bif ((x0.length:Int)==0)then none else(bif decide (0≤(Int.tmod (IntKind.wrap .i64 (x9+1)) (x0.length:Int)))then(bif decide ((Int.tmod (IntKind.wrap .i64 (x9+1)) (x0.length:Int))<(x0.length:Int))then(bif ((Int.tmod (IntKind.wrap .i64 ((IntKind.wrap .i64 ((x0.getD (Int.toNat (Int.tmod (IntKind.wrap .i64 (x9+1)) (x0.length:Int))) 0) - (x7.getD (Int.toNat x9) 0)))+4)) 4)==1)then(impl_turnsOf_L58 k n x0 (IntKind.wrap .i64 (x4+1)) x7 x8 (IntKind.wrap .i64 (x9+1)))else(bif ((Int.tmod (IntKind.wrap .i64 ((IntKind.wrap .i64 ((x0.getD (Int.toNat (Int.tmod (IntKind.wrap .i64 (x9+1)) (x0.length:Int))) 0) - (x7.getD (Int.toNat x9) 0)))+4)) 4)==2)then some (Sum.inl (0,false))else(bif ((Int.tmod (IntKind.wrap .i64 ((IntKind.wrap .i64 ((x0.getD (Int.toNat (Int.tmod (IntKind.wrap .i64 (x9+1)) (x0.length:Int))) 0) - (x7.getD (Int.toNat x9) 0)))+4)) 4)==3)then(impl_turnsOf_L58 k n x0 (IntKind.wrap .i64 (x4 - 1)) x7 x8 (IntKind.wrap .i64 (x9+1)))else(impl_turnsOf_L58 k n x0 x4 x7 x8 (IntKind.wrap .i64 (x9+1))))))else none)else none))else none)else none)else some (Sum.inr (x4,())))
def impl_turnsOf(k:Nat)(a0:List Int):Option (Int×Bool):=(both (R:=Int×Bool) (P:=bT1_1) (impl_turnsOf_L58 k k a0 0 a0 (a0.length:Int) 0) (fun q3=>some q3) (fun y2=>(bif ((Int.tmod y2.1 4) != 0)then some (0,false)else some ((IntKind.wrap .i64 (Int.tdiv y2.1 4)),true))))

def laws_eqIntS_L58(k:Nat):Nat→(List Int)→(List Int)→Int→Option ((Bool) ⊕ (Unit))
 | 0,_,_,_=>none
 | n+1,x0,x1,x5=>(bif decide (x5<(x0.length:Int))then(bif decide (0≤x5)then(bif decide (x5<(x0.length:Int))then(bif decide (0≤x5)then(bif decide (x5<(x1.length:Int))then(bif ((x0.getD (Int.toNat x5) 0) != (x1.getD (Int.toNat x5) 0))then some (Sum.inl false)else(laws_eqIntS_L58 k n x0 x1 (IntKind.wrap .i64 (x5+1))))else none)else none)else none)else none)else some (Sum.inr ()))
def laws_eqIntS(k:Nat)(a0:List Int)(a1:List Int):Option (Bool):=(bif ((a0.length:Int) != (a1.length:Int))then some false else(both (R:=Bool) (P:=Unit) (laws_eqIntS_L58 k k a0 a1 0) (fun q3=>some q3) (fun y2=>some true)))

def laws_intactIntS(k:Nat)(a0:List Int×List Int)(a1:List Int×List Int):Option (Bool):=(Option.bind (laws_roomBehind (a1.1.length:Int)) fun r1=>(bif ((a0.1.length:Int)==(a1.1.length:Int))then(bif decide (0≤(IntKind.wrap .i64 ((a1.1.length:Int)+r1)))then(bif decide ((IntKind.wrap .i64 ((a1.1.length:Int)+r1))≤((a0.1++a0.2).length:Int))then(bif decide (0≤(IntKind.wrap .i64 ((a1.1.length:Int)+r1)))then(bif decide ((IntKind.wrap .i64 ((a1.1.length:Int)+r1))≤((a1.1++a1.2).length:Int))then(Option.bind (laws_eqIntS k (((a0.1++a0.2).take (Int.toNat (IntKind.wrap .i64 ((a1.1.length:Int)+r1)))).drop 0) (((a1.1++a1.2).take (Int.toNat (IntKind.wrap .i64 ((a1.1.length:Int)+r1)))).drop 0)) fun r2=>some r2)else none)else none)else none)else none)else some false))

def laws_szIntS(a0:List Int)(a1:Int):Option (Int):=(bif decide ((IntKind.wrap .i64 (a1 - (a0.length:Int)))<0)then some (-1)else some (IntKind.wrap .i64 (a1 - (a0.length:Int))))

def laws_szBox(a0:Int×(List Int)×List Int)(a1:Int):Option (Int):=(Option.bind (laws_szIntS a0.2.1 a1) fun r1=>(bif decide (r1<0)then some (-1)else(Option.bind (laws_szIntS a0.2.2 r1) fun r2=>(bif decide (r2<0)then some (-1)else some r2))))

def laws_toBox(k:Nat)(a0:Int×(List Int)×List Int)(a1:Bool):Option (Int×(List Int×List Int)×List Int×List Int):=(Option.bind (laws_toIntS k a0.2.1 a1) fun r1=>(Option.bind (laws_toIntS k a0.2.2 a1) fun r2=>some (a0.1,r1,r2)))

def spec_bxGood_L250(k:Nat):Nat→(Int×(List Int)×List Int)→Int→Bool→(List Int)→Int→Int→Option ((Bool) ⊕ (Bool×Unit))
 | 0,_,_,_,_,_,_=>none
 | n+1,x1,x3,x4,x36,x37,x38=>(bif decide (x38<x37)then(bif decide (0≤x38)then(bif decide (x38<(x36.length:Int))then(bif decide (0≤x38)then(bif decide (x38<(x1.2.2.length:Int))then(Option.bind (spec_l1In (x36.getD (Int.toNat x38) 0) (IntKind.wrap .i64 (0 - x3)) x3) fun r4=>(bif (!r4)then some (Sum.inl false)else(Option.bind (spec_l1In (x1.2.2.getD (Int.toNat x38) 0) (IntKind.wrap .i64 (0 - x3)) x3) fun r5=>(bif (!r5)then some (Sum.inl false)else(bif decide ((x36.getD (Int.toNat x38) 0)≥(x1.2.2.getD (Int.toNat x38) 0))then some (Sum.inl false)else(bif x4 then(spec_bxGood_L250 k n x1 x3 true x36 x37 (IntKind.wrap .i64 (x38+1)))else(bif ((Int.tmod (x36.getD (Int.toNat x38) 0) 2) != 0)then(spec_bxGood_L250 k n x1 x3 true x36 x37 (IntKind.wrap .i64 (x38+1)))else(spec_bxGood_L250 k n x1 x3 ((Int.tmod (x1.2.2.getD (Int.toNat x38) 0) 2) != 0) x36 x37 (IntKind.wrap .i64 (x38+1))))))))))else none)else none)else none)else none)else some (Sum.inr (x4,())))
def spec_bxGood(k:Nat)(a0:Int×(List Int)×List Int):Option (Bool):=(Option.bind (spec_l1In a0.1 0 8) fun r1=>(bif (!r1)then some false else(Option.bind (spec_l1In (a0.2.1.length:Int) 1 3) fun r2=>(bif (!r2)then some false else(bif ((a0.2.2.length:Int) != (a0.2.1.length:Int))then some false else(Option.bind (spec_dyPower a0.1) fun r3=>(both (R:=Bool) (P:=Bool×Unit) (spec_bxGood_L250 k k a0 (IntKind.wrap .i64 (8*r3)) (a0.1==0) a0.2.1 (a0.2.1.length:Int) 0) (fun q8=>some q8) (fun y7=>some y7.1))))))))

def spec_dyMake_L28(k:Nat):Nat→Int→Int→(Int×Int)→Option (((Int×Int)×Bool) ⊕ (Int×Int×(Int×Int)×Unit))
 | 0,_,_,_=>none
 | n+1,x0,x1,x4=>(bif decide (x1>0)then(bif ((Int.tmod x0 2)==0)then(spec_dyMake_L28 k n (IntKind.wrap .i64 (Int.tdiv x0 2)) (IntKind.wrap .i64 (x1 - 1)) x4)else some (Sum.inr (x0,x1,x4,())))else some (Sum.inr (x0,x1,x4,())))
def spec_dyMake(k:Nat)(a0:Int)(a1:Int):Option ((Int×Int)×Bool):=(both (R:=bT1_2) (P:=Int×Int×(Int×Int)×Unit) ((bif (a0==0)then(bif decide (a1>0)then some (Sum.inr (a0,0,(0,0),()))else some (Sum.inr (a0,a1,(0,0),())))else some (Sum.inr (a0,a1,(0,0),())))) (fun q6=>some q6) (fun y1=>(both (R:=bT1_2) (P:=Int×Int×(Int×Int)×Unit) (spec_dyMake_L28 k k y1.1 y1.2.1 y1.2.2.1) (fun q4=>some q4) (fun y3=>(Option.bind (spec_dyGood (y3.1,y3.2.1)) fun r5=>(bif (!r5)then some ((0,0),false)else some ((y3.1,y3.2.1),true)))))))

def spec_bxNumber(k:Nat)(a0:Int)(a1:Int):Option (Int×Int):=(Option.bind (spec_dyMake k a0 a1) fun r1=>some r1.1)

def impl_isBox_L122(k:Nat):Nat→(Int×(List Int)×List Int)→Int→Bool→(List Int)→Int→Int→Option ((Bool) ⊕ (Bool×Unit))
 | 0,_,_,_,_,_,_=>none
 | n+1,x0,x3,x4,x48,x49,x50=>(bif decide (x50<x49)then(bif decide (0≤x50)then(bif decide (x50<(x48.length:Int))then(Option.bind (impl_inside (x48.getD (Int.toNat x50) 0) (IntKind.wrap .i64 (0 - x3)) x3) fun r3=>(bif (!r3)then some (Sum.inl false)else(bif decide (0≤x50)then(bif decide (x50<(x0.2.2.length:Int))then(Option.bind (impl_inside (x0.2.2.getD (Int.toNat x50) 0) (IntKind.wrap .i64 ((x48.getD (Int.toNat x50) 0)+1)) x3) fun r4=>(bif (!r4)then some (Sum.inl false)else(bif x4 then(impl_isBox_L122 k n x0 x3 true x48 x49 (IntKind.wrap .i64 (x50+1)))else(bif ((Int.tmod (x48.getD (Int.toNat x50) 0) 2) != 0)then(impl_isBox_L122 k n x0 x3 true x48 x49 (IntKind.wrap .i64 (x50+1)))else(bif decide (0≤x50)then(bif decide (x50<(x0.2.2.length:Int))then(impl_isBox_L122 k n x0 x3 ((Int.tmod (x0.2.2.getD (Int.toNat x50) 0) 2) != 0) x48 x49 (IntKind.wrap .i64 (x50+1)))else none)else none)))))else none)else none)))else none)else none)else some (Sum.inr (x4,())))
def impl_isBox(k:Nat)(a0:Int×(List Int)×List Int):Option (Bool):=(Option.bind (impl_inside a0.1 0 8) fun r1=>(bif (!r1)then some false else(Option.bind (impl_inside (a0.2.1.length:Int) 1 3) fun r2=>(bif (!r2)then some false else(bif ((a0.2.2.length:Int) != (a0.2.1.length:Int))then some false else(bif decide (a0.1<0)then none else(both (R:=Bool) (P:=Bool×Unit) (impl_isBox_L122 k k a0 (IntKind.wrap .i64 (8*2 ^ min (Int.toNat a0.1) (IntKind.bits .i64))) (a0.1==0) a0.2.1 (a0.2.1.length:Int) 0) (fun q7=>some q7) (fun y6=>some y6.1))))))))

def impl_Box_length(a0:Int×(List Int)×List Int)(a1:Int):Option (Int):=(bif decide (0≤a1)then(bif decide (a1<(a0.2.2.length:Int))then(bif decide (0≤a1)then(bif decide (a1<(a0.2.1.length:Int))then some (IntKind.wrap .i64 ((a0.2.2.getD (Int.toNat a1) 0) - (a0.2.1.getD (Int.toNat a1) 0)))else none)else none)else none)else none)

def impl_size(a0:Int):Option (Int):=(bif decide (a0<0)then some (IntKind.wrap .u64 (IntKind.wrap .i64 (0 - a0)))else some (IntKind.wrap .u64 a0))

def impl_wideOf(a0:Int):Option (Bool×Int×Int):=(Option.bind (impl_size a0) fun r1=>some ((decide (a0<0)),0,r1))

def impl_wide_isZero(a0:Bool×Int×Int):Option (Bool):=(bif (a0.2.1==0)then some (a0.2.2==0)else some false)

def impl_wide_shift(a0:Bool×Int×Int)(a1:Int):Option (Bool×Int×Int):=(bif decide (a1≥0)then(bif decide (a1≥64)then(bif decide ((IntKind.wrap .i64 (a1 - 64))<0)then none else some (a0.1,(IntKind.wrap .u64 (a0.2.2*2 ^ min (Int.toNat (IntKind.wrap .i64 (a1 - 64))) (IntKind.bits .u64))),0))else(bif decide (a1<0)then none else(bif decide ((IntKind.wrap .i64 (64 - a1))<0)then none else(bif decide (a1<0)then none else some (a0.1,(IntKind.wrap .u64 (BitVec.toNat (BitVec.ofInt (IntKind.bits .u64) (IntKind.wrap .u64 (a0.2.1*2 ^ min (Int.toNat a1) (IntKind.bits .u64))) ||| BitVec.ofInt (IntKind.bits .u64) (Int.fdiv a0.2.2 (2 ^ min (Int.toNat (IntKind.wrap .i64 (64 - a1))) (IntKind.bits .u64)))):Int)),(IntKind.wrap .u64 (a0.2.2*2 ^ min (Int.toNat a1) (IntKind.bits .u64))))))))else(bif decide ((IntKind.wrap .i64 (0 - a1))≥64)then(bif decide ((IntKind.wrap .i64 ((IntKind.wrap .i64 (0 - a1)) - 64))<0)then none else some (a0.1,0,(Int.fdiv a0.2.1 (2 ^ min (Int.toNat (IntKind.wrap .i64 ((IntKind.wrap .i64 (0 - a1)) - 64))) (IntKind.bits .u64)))))else(bif decide ((IntKind.wrap .i64 (0 - a1))<0)then none else(bif decide ((IntKind.wrap .i64 (0 - a1))<0)then none else(bif decide ((IntKind.wrap .i64 (64 - (IntKind.wrap .i64 (0 - a1))))<0)then none else some (a0.1,(Int.fdiv a0.2.1 (2 ^ min (Int.toNat (IntKind.wrap .i64 (0 - a1))) (IntKind.bits .u64))),(IntKind.wrap .u64 (BitVec.toNat (BitVec.ofInt (IntKind.bits .u64) (Int.fdiv a0.2.2 (2 ^ min (Int.toNat (IntKind.wrap .i64 (0 - a1))) (IntKind.bits .u64))) ||| BitVec.ofInt (IntKind.bits .u64) (IntKind.wrap .u64 (a0.2.1*2 ^ min (Int.toNat (IntKind.wrap .i64 (64 - (IntKind.wrap .i64 (0 - a1))))) (IntKind.bits .u64)))):Int))))))))

def impl_wide_fit_L28(k:Nat):Nat→Int→(Bool×Int×Int)→(Int×Int)→Option (((Int×Int)×Bool) ⊕ (Int×(Bool×Int×Int)×(Int×Int)×Unit))
 | 0,_,_,_=>none
 | n+1,x1,x2,x4=>(bif decide (x1>0)then(bif ((Int.tmod x2.2.2 2)==0)then(Option.bind (impl_wide_shift x2 (-1)) fun r2=>(impl_wide_fit_L28 k n (IntKind.wrap .i64 (x1 - 1)) r2 x4))else some (Sum.inr (x1,x2,x4,())))else some (Sum.inr (x1,x2,x4,())))
def impl_wide_fit(k:Nat)(a0:Bool×Int×Int)(a1:Int):Option ((Int×Int)×Bool):=(Option.bind (impl_wide_isZero a0) fun r1=>(bif r1 then some ((0,0),true)else(both (R:=bT1_2) (P:=Int×(Bool×Int×Int)×(Int×Int)×Unit) (impl_wide_fit_L28 k k a1 a0 (0,0)) (fun q5=>some q5) (fun y4=>(bif decide (y4.1>24)then some ((0,0),false)else(bif decide (y4.2.1.2.1>0)then some ((0,0),false)else(bif decide (y4.2.1.2.2>1099511627776)then some ((0,0),false)else(bif y4.2.1.1 then some (((IntKind.wrap .i64 (0 - (IntKind.wrap .i64 y4.2.1.2.2))),y4.1),true)else some (((IntKind.wrap .i64 y4.2.1.2.2),y4.1),true)))))))))

def laws_intactBox(k:Nat)(a0:Int×(List Int×List Int)×List Int×List Int)(a1:Int×(List Int×List Int)×List Int×List Int):Option (Bool):=(bif (a0.1 != a1.1)then some false else(Option.bind (laws_intactIntS k a0.2.1 a1.2.1) fun r1=>(bif (!r1)then some false else(Option.bind (laws_intactIntS k a0.2.2 a1.2.2) fun r2=>(bif (!r2)then some false else some true)))))

def spec_poTerm(a0:Int×Int×Int×Int):Option (Bool):=(Option.bind (spec_l1In a0.1 (-1000) 1000) fun r1=>(bif r1 then(Option.bind (spec_l1In a0.2.1 0 4) fun r2=>(bif r2 then(Option.bind (spec_l1In a0.2.2.1 0 4) fun r3=>(bif r3 then(Option.bind (spec_l1In a0.2.2.2 0 4) fun r4=>(bif r4 then some (decide ((IntKind.wrap .i64 ((IntKind.wrap .i64 (a0.2.1+a0.2.2.1))+a0.2.2.2))≤4))else some false))else some false))else some false))else some false))

def spec_l1Sign(a0:Int):Option (Int):=(bif decide (a0>0)then some 1 else(bif decide (a0<0)then some (-1)else some 0))

def spec_poOrder(a0:Int×Int×Int×Int)(a1:Int×Int×Int×Int):Option (Int):=(bif (a0.2.1 != a1.2.1)then(Option.bind (spec_l1Sign (IntKind.wrap .i64 (a0.2.1 - a1.2.1))) fun r1=>some r1)else(bif (a0.2.2.1 != a1.2.2.1)then(Option.bind (spec_l1Sign (IntKind.wrap .i64 (a0.2.2.1 - a1.2.2.1))) fun r2=>some r2)else(Option.bind (spec_l1Sign (IntKind.wrap .i64 (a0.2.2.2 - a1.2.2.2))) fun r3=>some r3)))

def spec_poGood_L26(k:Nat):Nat→(List (Int×Int×Int×Int))→(List (Int×Int×Int×Int))→Int→Int→Option ((Bool) ⊕ ((List (Int×Int×Int×Int))×Unit))
 | 0,_,_,_,_=>none
 | n+1,x0,x5,x6,x7=>(bif decide (x7<x6)then(bif decide (0≤x7)then(bif decide (x7<(x5.length:Int))then(Option.bind (spec_poTerm (x5.getD (Int.toNat x7) (0,0,0,0))) fun r1=>(bif (!r1)then some (Sum.inl false)else(bif ((x5.getD (Int.toNat x7) (0,0,0,0)).1==0)then some (Sum.inl false)else(bif decide (x7>0)then(bif decide (0≤(IntKind.wrap .i64 (x7 - 1)))then(bif decide ((IntKind.wrap .i64 (x7 - 1))<(x0.length:Int))then(Option.bind (spec_poOrder (x0.getD (Int.toNat (IntKind.wrap .i64 (x7 - 1))) (0,0,0,0)) (x5.getD (Int.toNat x7) (0,0,0,0))) fun r2=>(bif decide (r2≥0)then some (Sum.inl false)else(spec_poGood_L26 k n x0 x5 x6 (IntKind.wrap .i64 (x7+1)))))else none)else none)else(spec_poGood_L26 k n x0 x5 x6 (IntKind.wrap .i64 (x7+1)))))))else none)else none)else some (Sum.inr (x0,())))
def spec_poGood(k:Nat)(a0:List (Int×Int×Int×Int)):Option (Bool):=(both (R:=Bool) (P:=bT1_3) (spec_poGood_L26 k k a0 a0 (a0.length:Int) 0) (fun q5=>some q5) (fun y4=>some (decide ((y4.1.length:Int)≤20))))

def spec_poPower(a0:Int×Int×Int×Int)(a1:Int):Option (Int):=(bif (a1==0)then some a0.2.1 else(bif (a1==1)then some a0.2.2.1 else some a0.2.2.2))

def spec_l1Most(a0:Int)(a1:Int):Option (Int):=(bif decide (a0>a1)then some a0 else some a1)

def spec_poDegreeIn_L58(k:Nat):Nat→Int→Int→(List (Int×Int×Int×Int))→Int→Int→Option ((Int) ⊕ (Int×Unit))
 | 0,_,_,_,_,_=>none
 | n+1,x1,x5,x8,x9,x10=>(bif decide (x10<x9)then(bif decide (0≤x10)then(bif decide (x10<(x8.length:Int))then(Option.bind (spec_poPower (x8.getD (Int.toNat x10) (0,0,0,0)) x1) fun r1=>(Option.bind (spec_l1Most x5 r1) fun r2=>(spec_poDegreeIn_L58 k n x1 r2 x8 x9 (IntKind.wrap .i64 (x10+1)))))else none)else none)else some (Sum.inr (x5,())))
def spec_poDegreeIn(k:Nat)(a0:List (Int×Int×Int×Int))(a1:Int):Option (Int):=(both (R:=Int) (P:=bT1_1) (spec_poDegreeIn_L58 k k a1 (-1) a0 (a0.length:Int) 0) (fun q5=>some q5) (fun y4=>some y4.1))

def spec_poSystem_L13518(k:Nat):Nat→(List (List (Int×Int×Int×Int)))→(List (Int×Int×Int×Int))→Int→(List (List (Int×Int×Int×Int)))→Int→Int→Option ((Bool) ⊕ ((List (List (Int×Int×Int×Int)))×(List (List (Int×Int×Int×Int)))×Int×Int×Unit))
 | 0,_,_,_,_,_,_=>none
 | n+1,x0,x4,x5,x6,x7,x8=>(bif decide (x5<3)then(Option.bind (spec_poDegreeIn k x4 x5) fun r2=>(bif decide (r2>0)then some (Sum.inl false)else(spec_poSystem_L13518 k n x0 x4 (IntKind.wrap .i64 (x5+1)) x6 x7 x8)))else some (Sum.inr (x0,x6,x7,x8,())))
def spec_poSystem_L26(k:Nat):Nat→(List (List (Int×Int×Int×Int)))→(List (List (Int×Int×Int×Int)))→Int→Int→Option ((Bool) ⊕ ((List (List (Int×Int×Int×Int)))×Unit))
 | 0,_,_,_,_=>none
 | n+1,x0,x6,x7,x8=>(bif decide (x8<x7)then(bif decide (0≤x8)then(bif decide (x8<(x6.length:Int))then(Option.bind (spec_poGood k (x6.getD (Int.toNat x8) [])) fun r1=>(bif (!r1)then some (Sum.inl false)else(both (R:=Bool) (P:=(List (List (Int×Int×Int×Int)))×(List (List (Int×Int×Int×Int)))×Int×Int×Unit) (spec_poSystem_L13518 k k x0 (x6.getD (Int.toNat x8) []) (x0.length:Int) x6 x7 x8) (fun q5=>some (Sum.inl q5)) (fun y4=>(spec_poSystem_L26 k n y4.1 y4.2.1 y4.2.2.1 (IntKind.wrap .i64 (y4.2.2.2.1+1)))))))else none)else none)else some (Sum.inr (x0,())))
def spec_poSystem(k:Nat)(a0:List (List (Int×Int×Int×Int))):Option (Bool):=(both (R:=Bool) (P:=(List (List (Int×Int×Int×Int)))×Unit) (spec_poSystem_L26 k k a0 a0 (a0.length:Int) 0) (fun q8=>some q8) (fun y7=>(Option.bind (spec_l1In (y7.1.length:Int) 1 3) fun r9=>some r9)))

def impl_Term_degree(a0:Int×Int×Int×Int):Option (Int):=some (IntKind.wrap .i64 ((IntKind.wrap .i64 (a0.2.1+a0.2.2.1))+a0.2.2.2))

def impl_hasDegree(a0:Int×Int×Int×Int):Option (Bool):=(Option.bind (impl_inside a0.2.1 0 4) fun r1=>(bif r1 then(Option.bind (impl_inside a0.2.2.1 0 4) fun r2=>(bif r2 then(Option.bind (impl_inside a0.2.2.2 0 4) fun r3=>(bif r3 then(Option.bind (impl_Term_degree a0) fun r4=>some (decide (r4≤4)))else some false))else some false))else some false))

def cmp_isNaN_int(a0:Int):Option (Bool):=some (a0 != a0)

def cmp_Compare_int(a0:Int)(a1:Int):Option (Int):=(Option.bind (cmp_isNaN_int a0) fun r1=>(Option.bind (cmp_isNaN_int a1) fun r2=>(bif r1 then(bif r2 then some 0 else some (-1))else(bif r2 then some 1 else(bif decide (a0<a1)then some (-1)else(bif decide (a0>a1)then some 1 else some 0))))))

def cmp_Or_int_L58(k:Nat):Nat→Int→(List Int)→Int→Int→Option ((Int) ⊕ (Int×Unit))
 | 0,_,_,_,_=>none
 | n+1,x3,x6,x7,x8=>(bif decide (x8<x7)then(bif decide (0≤x8)then(bif decide (x8<(x6.length:Int))then(bif ((x6.getD (Int.toNat x8) 0) != x3)then some (Sum.inl (x6.getD (Int.toNat x8) 0))else(cmp_Or_int_L58 k n x3 x6 x7 (IntKind.wrap .i64 (x8+1))))else none)else none)else some (Sum.inr (x3,())))
def cmp_Or_int(k:Nat)(a0:List Int):Option (Int):=(both (R:=Int) (P:=bT1_1) (cmp_Or_int_L58 k k 0 a0 (a0.length:Int) 0) (fun q3=>some q3) (fun y2=>some y2.1))

def impl_compareTerms(k:Nat)(a0:Int×Int×Int×Int)(a1:Int×Int×Int×Int):Option (Int):=(Option.bind (cmp_Compare_int a0.2.1 a1.2.1) fun r1=>(Option.bind (cmp_Compare_int a0.2.2.1 a1.2.2.1) fun r2=>(Option.bind (cmp_Compare_int a0.2.2.2 a1.2.2.2) fun r3=>(Option.bind (cmp_Or_int k ([r1,r2,r3]:List Int)) fun r4=>some r4))))

def impl_isPoly_L26(k:Nat):Nat→(List (Int×Int×Int×Int))→(List (Int×Int×Int×Int))→Int→Int→Option ((Bool) ⊕ ((List (Int×Int×Int×Int))×Unit))
 | 0,_,_,_,_=>none
 | n+1,x0,x5,x6,x7=>(bif decide (x7<x6)then(bif decide (0≤x7)then(bif decide (x7<(x5.length:Int))then(bif ((x5.getD (Int.toNat x7) (0,0,0,0)).1==0)then some (Sum.inl false)else(Option.bind (impl_inside (x5.getD (Int.toNat x7) (0,0,0,0)).1 (-1000) 1000) fun r1=>(bif (!r1)then some (Sum.inl false)else(Option.bind (impl_hasDegree (x5.getD (Int.toNat x7) (0,0,0,0))) fun r2=>(bif (!r2)then some (Sum.inl false)else(bif decide (x7>0)then(bif decide (0≤(IntKind.wrap .i64 (x7 - 1)))then(bif decide ((IntKind.wrap .i64 (x7 - 1))<(x0.length:Int))then(Option.bind (impl_compareTerms k (x0.getD (Int.toNat (IntKind.wrap .i64 (x7 - 1))) (0,0,0,0)) (x5.getD (Int.toNat x7) (0,0,0,0))) fun r3=>(bif decide (r3≥0)then some (Sum.inl false)else(impl_isPoly_L26 k n x0 x5 x6 (IntKind.wrap .i64 (x7+1)))))else none)else none)else(impl_isPoly_L26 k n x0 x5 x6 (IntKind.wrap .i64 (x7+1)))))))))else none)else none)else some (Sum.inr (x0,())))
def impl_isPoly(k:Nat)(a0:List (Int×Int×Int×Int)):Option (Bool):=(both (R:=Bool) (P:=bT1_3) (impl_isPoly_L26 k k a0 a0 (a0.length:Int) 0) (fun q6=>some q6) (fun y5=>some (decide ((y5.1.length:Int)≤20))))

def impl_Term_exponents(a0:Int×Int×Int×Int):Option (Int×Int×Int):=some a0.2

def impl_needsAtMost_L6758(k:Nat):Nat→Int→(List (Int×Int×Int×Int))→Int→Int→(Int×Int×Int)→Int→Option ((Bool) ⊕ (Int×(List (Int×Int×Int×Int))×Int×Int×Unit))
 | 0,_,_,_,_,_,_=>none
 | n+1,x1,x9,x10,x11,x16,x17=>(bif decide (x17<3)then(bif (x17==0)then(bif decide (x17≥x1)then(bif decide (x16.1>0)then some (Sum.inl false)else(impl_needsAtMost_L6758 k n x1 x9 x10 x11 x16 (IntKind.wrap .i64 (x17+1))))else(impl_needsAtMost_L6758 k n x1 x9 x10 x11 x16 (IntKind.wrap .i64 (x17+1))))else(bif (x17==1)then(bif decide (x17≥x1)then(bif decide (x16.2.1>0)then some (Sum.inl false)else(impl_needsAtMost_L6758 k n x1 x9 x10 x11 x16 (IntKind.wrap .i64 (x17+1))))else(impl_needsAtMost_L6758 k n x1 x9 x10 x11 x16 (IntKind.wrap .i64 (x17+1))))else(bif (x17==2)then(bif decide (x17≥x1)then(bif decide (x16.2.2>0)then some (Sum.inl false)else(impl_needsAtMost_L6758 k n x1 x9 x10 x11 x16 (IntKind.wrap .i64 (x17+1))))else(impl_needsAtMost_L6758 k n x1 x9 x10 x11 x16 (IntKind.wrap .i64 (x17+1))))else none)))else some (Sum.inr (x1,x9,x10,x11,())))
def impl_needsAtMost_L26(k:Nat):Nat→Int→(List (Int×Int×Int×Int))→Int→Int→Option ((Bool) ⊕ (Unit))
 | 0,_,_,_,_=>none
 | n+1,x1,x9,x10,x11=>(bif decide (x11<x10)then(bif decide (0≤x11)then(bif decide (x11<(x9.length:Int))then(Option.bind (impl_Term_exponents (x9.getD (Int.toNat x11) (0,0,0,0))) fun r1=>(both (R:=Bool) (P:=Int×(List (Int×Int×Int×Int))×Int×Int×Unit) (impl_needsAtMost_L6758 k k x1 x9 x10 x11 r1 0) (fun q4=>some (Sum.inl q4)) (fun y3=>(impl_needsAtMost_L26 k n y3.1 y3.2.1 y3.2.2.1 (IntKind.wrap .i64 (y3.2.2.2.1+1))))))else none)else none)else some (Sum.inr ()))
def impl_needsAtMost(k:Nat)(a0:List (Int×Int×Int×Int))(a1:Int):Option (Bool):=(both (R:=Bool) (P:=Unit) (impl_needsAtMost_L26 k k a1 a0 (a0.length:Int) 0) (fun q7=>some q7) (fun y6=>some true))

def impl_isSystem_L26(k:Nat):Nat→(List (List (Int×Int×Int×Int)))→(List (List (Int×Int×Int×Int)))→Int→Int→Option ((Bool) ⊕ ((List (List (Int×Int×Int×Int)))×Unit))
 | 0,_,_,_,_=>none
 | n+1,x0,x5,x6,x7=>(bif decide (x7<x6)then(bif decide (0≤x7)then(bif decide (x7<(x5.length:Int))then(Option.bind (impl_isPoly k (x5.getD (Int.toNat x7) [])) fun r1=>(bif (!r1)then some (Sum.inl false)else(Option.bind (impl_needsAtMost k (x5.getD (Int.toNat x7) []) (x0.length:Int)) fun r2=>(bif (!r2)then some (Sum.inl false)else(impl_isSystem_L26 k n x0 x5 x6 (IntKind.wrap .i64 (x7+1)))))))else none)else none)else some (Sum.inr (x0,())))
def impl_isSystem(k:Nat)(a0:List (List (Int×Int×Int×Int))):Option (Bool):=(both (R:=Bool) (P:=(List (List (Int×Int×Int×Int)))×Unit) (impl_isSystem_L26 k k a0 a0 (a0.length:Int) 0) (fun q5=>some q5) (fun y4=>(Option.bind (impl_inside (y4.1.length:Int) 1 3) fun r6=>some r6)))

def spec_l1Abs(a0:Int):Option (Int):=(Option.bind (spec_l1Most a0 (IntKind.wrap .i64 (0 - a0))) fun r1=>some r1)

def spec_dyAt_L58(k:Nat):Nat→Int→(Int×Int)→Int→Option ((Int×Bool) ⊕ ((Int×Int)×Unit))
 | 0,_,_,_=>none
 | n+1,x1,x2,x6=>(bif decide (x6<x1)then(Option.bind (spec_dyPower 60) fun r1=>(Option.bind (spec_dyPower 60) fun r2=>(Option.bind (spec_l1In x2.1 (IntKind.wrap .i64 (0 - r1)) r2) fun r3=>(bif (!r3)then some (Sum.inl (0,false))else(spec_dyAt_L58 k n x1 ((IntKind.wrap .i64 (x2.1*2)),x2.2) (IntKind.wrap .i64 (x6+1)))))))else some (Sum.inr (x2,())))
def spec_dyAt(k:Nat)(a0:Int×Int)(a1:Int):Option (Int×Bool):=(bif (a0.1==0)then some (0,true)else(both (R:=Int×Bool) (P:=(Int×Int)×Unit) (spec_dyAt_L58 k k a1 a0 a0.2) (fun q6=>some q6) (fun y5=>some (y5.1.1,true))))

def spec_dyAdd(k:Nat)(a0:Int×Int)(a1:Int×Int):Option ((Int×Int)×Bool):=(Option.bind (spec_l1Most a0.2 a1.2) fun r1=>(Option.bind (spec_dyAt k a0 r1) fun r2=>(Option.bind (spec_dyAt k a1 r1) fun r3=>(bif (!r2.2)then some ((0,0),false)else(bif (!r3.2)then some ((0,0),false)else(Option.bind (spec_dyMake k (IntKind.wrap .i64 (r2.1+r3.1)) r1) fun r4=>some (r4.1,r4.2)))))))

def impl_minus(a0:Int×Int):Option (Int×Int):=some ((IntKind.wrap .i64 (0 - a0.1)),a0.2)

def cmp_isNaN_uint64(a0:Int):Option (Bool):=some (a0 != a0)

def cmp_Compare_uint64(a0:Int)(a1:Int):Option (Int):=(Option.bind (cmp_isNaN_uint64 a0) fun r1=>(Option.bind (cmp_isNaN_uint64 a1) fun r2=>(bif r1 then(bif r2 then some 0 else some (-1))else(bif r2 then some 1 else(bif decide (a0<a1)then some (-1)else(bif decide (a0>a1)then some 1 else some 0))))))

def impl_compareSizes(k:Nat)(a0:Bool×Int×Int)(a1:Bool×Int×Int):Option (Int):=(Option.bind (cmp_Compare_uint64 a0.2.1 a1.2.1) fun r1=>(Option.bind (cmp_Compare_uint64 a0.2.2 a1.2.2) fun r2=>(Option.bind (cmp_Or_int k ([r1,r2]:List Int)) fun r3=>some r3)))

def impl_compareWide(k:Nat)(a0:Bool×Int×Int)(a1:Bool×Int×Int):Option (Int):=(both (R:=Int) (P:=(Bool×Int×Int)×(Bool×Int×Int)×Unit) ((Option.bind (impl_wide_isZero a0) fun r1=>(bif r1 then(Option.bind (impl_wide_isZero a1) fun r2=>(bif r2 then some (Sum.inl 0)else(bif (!(a0.1==a1.1))then(bif a0.1 then some (Sum.inl (-1))else some (Sum.inl 1))else(bif a0.1 then(Option.bind (impl_compareSizes k a1 a0) fun r3=>some (Sum.inl r3))else some (Sum.inr (a0,a1,()))))))else(bif (!(a0.1==a1.1))then(bif a0.1 then some (Sum.inl (-1))else some (Sum.inl 1))else(bif a0.1 then(Option.bind (impl_compareSizes k a1 a0) fun r4=>some (Sum.inl r4))else some (Sum.inr (a0,a1,()))))))) (fun q7=>some q7) (fun y5=>(Option.bind (impl_compareSizes k y5.1 y5.2.1) fun r6=>some r6)))

def impl_compareD(k:Nat)(a0:Int×Int)(a1:Int×Int):Option (Int):=(Option.bind (impl_wideOf a0.1) fun r1=>(Option.bind (impl_wide_shift r1 (IntKind.wrap .i64 ((if a0.2<a1.2 then a1.2 else a0.2) - a0.2))) fun r2=>(Option.bind (impl_wideOf a1.1) fun r3=>(Option.bind (impl_wide_shift r3 (IntKind.wrap .i64 ((if a0.2<a1.2 then a1.2 else a0.2) - a1.2))) fun r4=>(Option.bind (impl_compareWide k r2 r4) fun r5=>some r5)))))

def impl_greater(k:Nat)(a0:Int×Int)(a1:Int×Int):Option (Int×Int):=(Option.bind (impl_compareD k a1 a0) fun r1=>(bif decide (r1>0)then some a1 else some a0))

def impl_wide_add(k:Nat)(a0:Bool×Int×Int)(a1:Bool×Int×Int):Option (Bool×Int×Int):=(bif (a0.1==a1.1)then(Option.bind (math_bits_Add64 a0.2.2 a1.2.2 0) fun r1=>(Option.bind (math_bits_Add64 a0.2.1 a1.2.1 r1.2) fun r2=>some (a0.1,r2.1,r1.1)))else(both (R:=Bool×Int×Int) (P:=(Bool×Int×Int)×(Bool×Int×Int)×(Bool×Int×Int)×Unit) ((Option.bind (impl_compareSizes k a0 a1) fun r3=>(bif decide (r3<0)then some (Sum.inr (a1,a0,(false,0,0),()))else some (Sum.inr (a0,a1,(false,0,0),()))))) (fun q7=>some q7) (fun y4=>(Option.bind (math_bits_Sub64 y4.1.2.2 y4.2.1.2.2 0) fun r5=>(Option.bind (math_bits_Sub64 y4.1.2.1 y4.2.1.2.1 r5.2) fun r6=>some (y4.1.1,r6.1,r5.1))))))

def impl_sumOf(k:Nat)(a0:Int×Int)(a1:Int×Int):Option ((Int×Int)×Bool):=(Option.bind (impl_wideOf a0.1) fun r1=>(Option.bind (impl_wide_shift r1 (IntKind.wrap .i64 ((if a0.2<a1.2 then a1.2 else a0.2) - a0.2))) fun r2=>(Option.bind (impl_wideOf a1.1) fun r3=>(Option.bind (impl_wide_shift r3 (IntKind.wrap .i64 ((if a0.2<a1.2 then a1.2 else a0.2) - a1.2))) fun r4=>(Option.bind (impl_wide_add k r2 r4) fun r5=>(Option.bind (impl_wide_fit k r5 (if a0.2<a1.2 then a1.2 else a0.2)) fun r6=>some (r6.1,r6.2)))))))

def impl_reckoner_keep(a0:Bool)(a1:Int×Int)(a2:Bool):Option ((Int×Int)×Bool):=(bif a0 then(bif (!a2)then some ((0,0),a2)else some (a1,a2))else some ((0,0),false))

def impl_reckoner_sum(k:Nat)(a0:Bool)(a1:Int×Int)(a2:Int×Int):Option ((Int×Int)×Bool):=(Option.bind (impl_sumOf k a1 a2) fun r1=>(Option.bind (impl_reckoner_keep a0 r1.1 r1.2) fun r2=>some (r2.1,r2.2)))

def spec_dyDown(a0:Int)(a1:Int):Option (Int):=(bif (a1==0)then none else(bif (a1==0)then none else(bif decide ((Int.tmod a0 a1)<0)then some (IntKind.wrap .i64 ((IntKind.wrap .i64 (Int.tdiv a0 a1)) - 1))else some (IntKind.wrap .i64 (Int.tdiv a0 a1)))))

def spec_dyFloor(a0:Int×Int):Option (Int):=(Option.bind (spec_dyPower a0.2) fun r1=>(Option.bind (spec_dyDown a0.1 r1) fun r2=>some r2))

def spec_dyCmp(k:Nat)(a0:Int×Int)(a1:Int×Int):Option (Int):=(Option.bind (spec_dyFloor a0) fun r1=>(Option.bind (spec_dyFloor a1) fun r2=>(bif (r1 != r2)then(Option.bind (spec_l1Sign (IntKind.wrap .i64 (r1 - r2))) fun r3=>some r3)else(Option.bind (spec_dyPower a0.2) fun r4=>(Option.bind (spec_dyAt k ((IntKind.wrap .i64 (a0.1 - (IntKind.wrap .i64 (r1*r4)))),a0.2) 24) fun r5=>(Option.bind (spec_dyPower a1.2) fun r6=>(Option.bind (spec_dyAt k ((IntKind.wrap .i64 (a1.1 - (IntKind.wrap .i64 (r2*r6)))),a1.2) 24) fun r7=>(Option.bind (spec_l1Sign (IntKind.wrap .i64 (r5.1 - r7.1))) fun r8=>some r8))))))))

end Go.Ev.G

namespace Go.Ev.G
open Go Go.Ev
set_option maxRecDepth 100000
def spec_dyMul_L60(k:Nat):Nat→(Int×Int)→(Int×Int)→(Int×Int)→Int→Option (((Int×Int)×Bool) ⊕ ((Int×Int)×(Int×Int)×(Int×Int)×Int×Unit))
 | 0,_,_,_,_=>none
 | n+1,x2,x3,x4,x6=>(bif decide (x6>0)then(bif ((Int.tmod x2.1 2)==0)then(spec_dyMul_L60 k n ((IntKind.wrap .i64 (Int.tdiv x2.1 2)),x2.2) x3 x4 (IntKind.wrap .i64 (x6 - 1)))else some (Sum.inr (x2,x3,x4,x6,())))else some (Sum.inr (x2,x3,x4,x6,())))
def spec_dyMul_L124(k:Nat):Nat→(Int×Int)→(Int×Int)→(Int×Int)→Int→Option (((Int×Int)×Bool) ⊕ ((Int×Int)×(Int×Int)×(Int×Int)×Int×Unit))
 | 0,_,_,_,_=>none
 | n+1,x2,x3,x4,x6=>(bif decide (x6>0)then(bif ((Int.tmod x3.1 2)==0)then(spec_dyMul_L124 k n x2 ((IntKind.wrap .i64 (Int.tdiv x3.1 2)),x3.2) x4 (IntKind.wrap .i64 (x6 - 1)))else some (Sum.inr (x2,x3,x4,x6,())))else some (Sum.inr (x2,x3,x4,x6,())))
def spec_dyMul(k:Nat)(a0:Int×Int)(a1:Int×Int):Option ((Int×Int)×Bool):=(bif (a0.1==0)then some ((0,0),true)else(bif (a1.1==0)then some ((0,0),true)else(both (R:=bT1_2) (P:=(Int×Int)×(Int×Int)×(Int×Int)×Int×Unit) (spec_dyMul_L60 k k a0 a1 (0,0) (IntKind.wrap .i64 (a0.2+a1.2))) (fun q3=>some q3) (fun y2=>(both (R:=bT1_2) (P:=(Int×Int)×(Int×Int)×(Int×Int)×Int×Unit) (spec_dyMul_L124 k k y2.1 y2.2.1 y2.2.2.1 y2.2.2.2.1) (fun q6=>some q6) (fun y5=>(Option.bind (spec_l1Abs y5.1.1) fun r7=>(Option.bind (spec_l1Abs y5.2.1.1) fun r8=>(bif (r8==0)then none else(bif decide (r7>(IntKind.wrap .i64 (Int.tdiv 1099511627776 r8)))then some ((0,0),false)else(Option.bind (spec_dyMake k (IntKind.wrap .i64 (y5.1.1*y5.2.1.1)) y5.2.2.2.1) fun r9=>some (r9.1,r9.2))))))))))))

def math_bits_Mul64(a0:Int)(a1:Int):Option (Int×Int):=some ((IntKind.wrap .u64 ((IntKind.wrap .u64 ((IntKind.wrap .u64 ((Int.fdiv a0 (2 ^ min (Int.toNat 32) (IntKind.bits .u64)))*(Int.fdiv a1 (2 ^ min (Int.toNat 32) (IntKind.bits .u64)))))+(Int.fdiv (IntKind.wrap .u64 ((IntKind.wrap .u64 ((Int.fdiv a0 (2 ^ min (Int.toNat 32) (IntKind.bits .u64)))*(IntKind.wrap .u64 (BitVec.toNat (BitVec.ofInt (IntKind.bits .u64) a1 &&& BitVec.ofInt (IntKind.bits .u64) 4294967295):Int))))+(Int.fdiv (IntKind.wrap .u64 ((IntKind.wrap .u64 (BitVec.toNat (BitVec.ofInt (IntKind.bits .u64) a0 &&& BitVec.ofInt (IntKind.bits .u64) 4294967295):Int))*(IntKind.wrap .u64 (BitVec.toNat (BitVec.ofInt (IntKind.bits .u64) a1 &&& BitVec.ofInt (IntKind.bits .u64) 4294967295):Int)))) (2 ^ min (Int.toNat 32) (IntKind.bits .u64))))) (2 ^ min (Int.toNat 32) (IntKind.bits .u64)))))+(Int.fdiv (IntKind.wrap .u64 ((IntKind.wrap .u64 (BitVec.toNat (BitVec.ofInt (IntKind.bits .u64) (IntKind.wrap .u64 ((IntKind.wrap .u64 ((Int.fdiv a0 (2 ^ min (Int.toNat 32) (IntKind.bits .u64)))*(IntKind.wrap .u64 (BitVec.toNat (BitVec.ofInt (IntKind.bits .u64) a1 &&& BitVec.ofInt (IntKind.bits .u64) 4294967295):Int))))+(Int.fdiv (IntKind.wrap .u64 ((IntKind.wrap .u64 (BitVec.toNat (BitVec.ofInt (IntKind.bits .u64) a0 &&& BitVec.ofInt (IntKind.bits .u64) 4294967295):Int))*(IntKind.wrap .u64 (BitVec.toNat (BitVec.ofInt (IntKind.bits .u64) a1 &&& BitVec.ofInt (IntKind.bits .u64) 4294967295):Int)))) (2 ^ min (Int.toNat 32) (IntKind.bits .u64))))) &&& BitVec.ofInt (IntKind.bits .u64) 4294967295):Int))+(IntKind.wrap .u64 ((IntKind.wrap .u64 (BitVec.toNat (BitVec.ofInt (IntKind.bits .u64) a0 &&& BitVec.ofInt (IntKind.bits .u64) 4294967295):Int))*(Int.fdiv a1 (2 ^ min (Int.toNat 32) (IntKind.bits .u64))))))) (2 ^ min (Int.toNat 32) (IntKind.bits .u64))))),(IntKind.wrap .u64 (a0*a1)))

def impl_timesWide(a0:Int)(a1:Int):Option (Bool×Int×Int):=(Option.bind (impl_size a0) fun r1=>(Option.bind (impl_size a1) fun r2=>(Option.bind (math_bits_Mul64 r1 r2) fun r3=>some ((!((decide (a0<0))==(decide (a1<0)))),r3))))

def impl_productOf(k:Nat)(a0:Int×Int)(a1:Int×Int):Option ((Int×Int)×Bool):=(Option.bind (impl_timesWide a0.1 a1.1) fun r1=>(Option.bind (impl_wide_fit k r1 (IntKind.wrap .i64 (a0.2+a1.2))) fun r2=>some (r2.1,r2.2)))

def impl_reckoner_product(k:Nat)(a0:Bool)(a1:Int×Int)(a2:Int×Int):Option ((Int×Int)×Bool):=(Option.bind (impl_productOf k a1 a2) fun r1=>(Option.bind (impl_reckoner_keep a0 r1.1 r1.2) fun r2=>some (r2.1,r2.2)))

end Go.Ev.G

namespace Go.Ev.G
open Go Go.Ev
set_option maxRecDepth 100000
def spec_dyMinus(a0:Int×Int):Option (Int×Int):=some ((IntKind.wrap .i64 (0 - a0.1)),a0.2)

def spec_ivEnds_L58(k:Nat):Nat→((Int×Int)×Int×Int)→((Int×Int)×Int×Int)→(List (Int×Int))→Int→Int→Option (((Int×Int)×Int×Int) ⊕ (((Int×Int)×Int×Int)×((Int×Int)×Int×Int)×Unit))
 | 0,_,_,_,_,_=>none
 | n+1,x2,x3,x13,x14,x15=>(bif decide (x15<x14)then(bif decide (0≤x15)then(bif decide (x15<(x13.length:Int))then(both (R:=(Int×Int)×Int×Int) (P:=((Int×Int)×Int×Int)×((Int×Int)×Int×Int)×(Int×Int)×(List (Int×Int))×Int×Int×Unit) ((Option.bind (spec_dyCmp k (x13.getD (Int.toNat x15) (0,0)) x3.1) fun r1=>(bif decide (r1<0)then some (Sum.inr (x2,((x13.getD (Int.toNat x15) (0,0)),x3.2),(x13.getD (Int.toNat x15) (0,0)),x13,x14,x15,()))else some (Sum.inr (x2,x3,(x13.getD (Int.toNat x15) (0,0)),x13,x14,x15,()))))) (fun q4=>some (Sum.inl q4)) (fun y2=>(Option.bind (spec_dyCmp k y2.2.1.2 y2.2.2.1) fun r3=>(bif decide (r3<0)then(spec_ivEnds_L58 k n y2.1 (y2.2.1.1,y2.2.2.1) y2.2.2.2.1 y2.2.2.2.2.1 (IntKind.wrap .i64 (y2.2.2.2.2.2.1+1)))else(spec_ivEnds_L58 k n y2.1 y2.2.1 y2.2.2.2.1 y2.2.2.2.2.1 (IntKind.wrap .i64 (y2.2.2.2.2.2.1+1)))))))else none)else none)else some (Sum.inr (x2,x3,())))
def spec_ivEnds(k:Nat)(a0:List (Int×Int)):Option ((Int×Int)×Int×Int):=(bif decide (0<(a0.length:Int))then(bif decide (0<(a0.length:Int))then(both (R:=(Int×Int)×Int×Int) (P:=bT1_4) (spec_ivEnds_L58 k k ((0,0),0,0) ((a0.getD 0 (0,0)),(a0.getD 0 (0,0))) a0 (a0.length:Int) 0) (fun q7=>some q7) (fun y6=>some y6.2.1))else none)else none)

def spec_dyRound(k:Nat)(a0:Int×Int)(a1:Int):Option (Int×Int):=(bif decide (a0.2≤a1)then some a0 else(Option.bind (spec_dyPower (IntKind.wrap .i64 (a0.2 - a1))) fun r1=>(Option.bind (spec_dyDown a0.1 r1) fun r2=>(Option.bind (spec_dyMake k r2 a1) fun r3=>some r3.1))))

def spec_ivUp(k:Nat)(a0:Int×Int)(a1:Int):Option (Int×Int):=(Option.bind (spec_dyMinus a0) fun r1=>(Option.bind (spec_dyRound k r1 a1) fun r2=>(Option.bind (spec_dyMinus r2) fun r3=>some r3)))

def spec_ivRound(k:Nat)(a0:(Int×Int)×Int×Int)(a1:Int):Option ((Int×Int)×Int×Int):=(Option.bind (spec_dyRound k a0.1 a1) fun r1=>(Option.bind (spec_ivUp k a0.2 a1) fun r2=>some (r1,r2)))

def spec_ivMul_L14950(k:Nat):Nat→((Int×Int)×Int×Int)→((Int×Int)×Int×Int)→(List (Int×Int))→(Int×Int)→(List (Int×Int))→Int→Int→(List (Int×Int))→Int→Int→Option ((((Int×Int)×Int×Int)×Bool) ⊕ (((Int×Int)×Int×Int)×((Int×Int)×Int×Int)×(List (Int×Int))×(List (Int×Int))×Int×Int×Unit))
 | 0,_,_,_,_,_,_,_,_,_,_=>none
 | n+1,x3,x4,x6,x8,x17,x18,x19,x27,x28,x29=>(bif decide (x29<x28)then(bif decide (0≤x29)then(bif decide (x29<(x27.length:Int))then(Option.bind (spec_dyMul k x8 (x27.getD (Int.toNat x29) (0,0))) fun r1=>(bif (!r1.2)then some (Sum.inl (((0,0),0,0),false))else(bif decide (x6.length+([r1.1]:List (Int×Int)).length<274877906944)then(spec_ivMul_L14950 k n x3 x4 (x6++([r1.1]:List (Int×Int))) x8 x17 x18 x19 x27 x28 (IntKind.wrap .i64 (x29+1)))else none)))else none)else none)else some (Sum.inr (x3,x4,x6,x17,x18,x19,())))
def spec_ivMul_L58(k:Nat):Nat→((Int×Int)×Int×Int)→((Int×Int)×Int×Int)→(List (Int×Int))→(List (Int×Int))→Int→Int→Option ((((Int×Int)×Int×Int)×Bool) ⊕ (((Int×Int)×Int×Int)×(List (Int×Int))×Unit))
 | 0,_,_,_,_,_,_=>none
 | n+1,x3,x4,x6,x17,x18,x19=>(bif decide (x19<x18)then(bif decide (0≤x19)then(bif decide (x19<(x17.length:Int))then(both (R:=bT1_5) (P:=((Int×Int)×Int×Int)×((Int×Int)×Int×Int)×(List (Int×Int))×(List (Int×Int))×Int×Int×Unit) (spec_ivMul_L14950 k k x3 x4 x6 (x17.getD (Int.toNat x19) (0,0)) x17 x18 x19 ([x3.1,x3.2]:List (Int×Int)) (([x3.1,x3.2]:List (Int×Int)).length:Int) 0) (fun q4=>some (Sum.inl q4)) (fun y3=>(spec_ivMul_L58 k n y3.1 y3.2.1 y3.2.2.1 y3.2.2.2.1 y3.2.2.2.2.1 (IntKind.wrap .i64 (y3.2.2.2.2.2.1+1)))))else none)else none)else some (Sum.inr (x4,x6,())))
def spec_ivMul(k:Nat)(a0:(Int×Int)×Int×Int)(a1:(Int×Int)×Int×Int):Option (((Int×Int)×Int×Int)×Bool):=(both (R:=bT1_5) (P:=((Int×Int)×Int×Int)×(List (Int×Int))×Unit) (spec_ivMul_L58 k k a1 ((0,0),0,0) [] ([a0.1,a0.2]:List (Int×Int)) (([a0.1,a0.2]:List (Int×Int)).length:Int) 0) (fun q7=>some q7) (fun y6=>(Option.bind (spec_ivEnds k y6.2.1) fun r8=>(Option.bind (spec_ivRound k r8 16) fun r9=>some (r9,true)))))

def spec_ivBoth(a0:Int×Int)(a1:Bool)(a2:Int×Int)(a3:Bool):Option (((Int×Int)×Int×Int)×Bool):=(bif (!a1)then some (((0,0),0,0),false)else(bif (!a3)then some (((0,0),0,0),false)else some ((a0,a2),true)))

def spec_ivAdd(k:Nat)(a0:(Int×Int)×Int×Int)(a1:(Int×Int)×Int×Int):Option (((Int×Int)×Int×Int)×Bool):=(Option.bind (spec_dyAdd k a0.1 a1.1) fun r1=>(Option.bind (spec_dyAdd k a0.2 a1.2) fun r2=>(Option.bind (spec_ivBoth r1.1 r1.2 r2.1 r2.2) fun r3=>some (r3.1,r3.2))))

def impl_lesser(k:Nat)(a0:Int×Int)(a1:Int×Int):Option (Int×Int):=(Option.bind (impl_compareD k a1 a0) fun r1=>(bif decide (r1<0)then some a1 else some a0))

def impl_roundDown(k:Nat)(a0:Int×Int)(a1:Int):Option (Int×Int):=(bif decide (a0.2≤a1)then some a0 else(bif decide ((IntKind.wrap .i64 (a0.2 - a1))<0)then none else(Option.bind (impl_wideOf (Int.fdiv a0.1 (2 ^ min (Int.toNat (IntKind.wrap .i64 (a0.2 - a1))) (IntKind.bits .i64)))) fun r1=>(Option.bind (impl_wide_fit k r1 a1) fun r2=>some r2.1))))

def impl_roundOut(k:Nat)(a0:(Int×Int)×Int×Int)(a1:Int):Option ((Int×Int)×Int×Int):=(Option.bind (impl_roundDown k a0.1 a1) fun r1=>(Option.bind (impl_minus a0.2) fun r2=>(Option.bind (impl_roundDown k r2 a1) fun r3=>(Option.bind (impl_minus r3) fun r4=>some (r1,r4)))))

def impl_reckoner_multiply(k:Nat)(a0:Bool)(a1:(Int×Int)×Int×Int)(a2:(Int×Int)×Int×Int):Option (((Int×Int)×Int×Int)×Bool):=(Option.bind (impl_reckoner_product k a0 a1.1 a2.1) fun r1=>(Option.bind (impl_reckoner_product k r1.2 a1.1 a2.2) fun r2=>(Option.bind (impl_reckoner_product k r2.2 a1.2 a2.1) fun r3=>(Option.bind (impl_reckoner_product k r3.2 a1.2 a2.2) fun r4=>(Option.bind (impl_lesser k r1.1 r2.1) fun r5=>(Option.bind (impl_lesser k r3.1 r4.1) fun r6=>(Option.bind (impl_lesser k r5 r6) fun r7=>(Option.bind (impl_greater k r1.1 r2.1) fun r8=>(Option.bind (impl_greater k r3.1 r4.1) fun r9=>(Option.bind (impl_greater k r8 r9) fun r10=>(Option.bind (impl_roundOut k (r7,r10) 16) fun r11=>some (r11,r4.2))))))))))))

def impl_reckoner_add(k:Nat)(a0:Bool)(a1:(Int×Int)×Int×Int)(a2:(Int×Int)×Int×Int):Option (((Int×Int)×Int×Int)×Bool):=(Option.bind (impl_reckoner_sum k a0 a1.1 a2.1) fun r1=>(Option.bind (impl_reckoner_sum k r1.2 a1.2 a2.2) fun r2=>some ((r1.1,r2.1),r2.2)))

def impl_reckoner_result(a0:Bool)(a1:(Int×Int)×Int×Int):Option (((Int×Int)×Int×Int)×Bool×Bool):=(bif (!a0)then some (((0,0),0,0),false,a0)else some (a1,true,a0))

end Go.Ev.G

namespace Go.Ev.G
open Go Go.Ev
set_option maxRecDepth 100000
def spec_vaPure(a0:Int×Int):Option ((Int×Int)×Int×Int):=some (a0,a0)

def spec_imSides(k:Nat)(a0:Int×(Int×Int)×(Int×Int)×Int×Int):Option (List ((Int×Int)×Int×Int)):=(Option.bind (spec_ivEnds k ([a0.2.2.1,a0.2.2.2]:List (Int×Int))) fun r1=>(bif (a0.1==0)then(Option.bind (spec_vaPure a0.2.1) fun r2=>some ([r2,r1]:List ((Int×Int)×Int×Int)))else(Option.bind (spec_vaPure a0.2.1) fun r3=>some ([r1,r3]:List ((Int×Int)×Int×Int)))))

def spec_ivRaise_L28(k:Nat):Nat→Int→(Int×Int)→(Int×Int)→(Int×Int)→Option (((Int×Int)×Bool) ⊕ ((Int×Int)×(Int×Int)×Unit))
 | 0,_,_,_,_=>none
 | n+1,x1,x2,x4,x6=>(bif decide (x1>0)then(Option.bind (spec_dyMul k x6 x2) fun r2=>(bif (!r2.2)then some (Sum.inl ((0,0),false))else(spec_ivRaise_L28 k n (IntKind.wrap .i64 (x1 - 1)) x2 x4 r2.1)))else some (Sum.inr (x4,x6,())))
def spec_ivRaise(k:Nat)(a0:Int×Int)(a1:Int):Option ((Int×Int)×Bool):=(Option.bind (spec_dyInt 1) fun r1=>(both (R:=bT1_2) (P:=(Int×Int)×(Int×Int)×Unit) (spec_ivRaise_L28 k k a1 a0 (0,0) r1) (fun q5=>some q5) (fun y4=>some (y4.2.1,true))))

def spec_ivZero(a0:(Int×Int)×Int×Int):Option (Bool):=(bif decide (a0.1.1≤0)then some (decide (a0.2.1≥0))else some false)

def spec_ivPower(k:Nat)(a0:(Int×Int)×Int×Int)(a1:Int):Option (((Int×Int)×Int×Int)×Bool):=(Option.bind (spec_ivRaise k a0.1 a1) fun r1=>(Option.bind (spec_ivRaise k a0.2 a1) fun r2=>(bif (!r1.2)then some (((0,0),0,0),false)else(bif (!r2.2)then some (((0,0),0,0),false)else(both (R:=bT1_5) (P:=((Int×Int)×Int×Int)×(List (Int×Int))×Unit) ((bif decide (a1>0)then(bif ((Int.tmod a1 2)==0)then(Option.bind (spec_ivZero a0) fun r3=>(bif r3 then(Option.bind (spec_dyInt 0) fun r4=>(bif decide (([r1.1,r2.1]:List (Int×Int)).length+([r4]:List (Int×Int)).length<274877906944)then some (Sum.inr (((0,0),0,0),(([r1.1,r2.1]:List (Int×Int))++([r4]:List (Int×Int))),()))else none))else some (Sum.inr (((0,0),0,0),([r1.1,r2.1]:List (Int×Int)),()))))else some (Sum.inr (((0,0),0,0),([r1.1,r2.1]:List (Int×Int)),())))else some (Sum.inr (((0,0),0,0),([r1.1,r2.1]:List (Int×Int)),())))) (fun q8=>some q8) (fun y5=>(Option.bind (spec_ivEnds k y5.2.1) fun r6=>(Option.bind (spec_ivRound k r6 16) fun r7=>some (r7,true)))))))))

def spec_vaOver_L59802(k:Nat):Nat→(List ((Int×Int)×Int×Int))→((Int×Int)×Int×Int)→((Int×Int)×Int×Int)→(Int×Int×Int×Int)→((Int×Int)×Int×Int)→(List (Int×Int×Int×Int))→Int→Int→(List ((Int×Int)×Int×Int))→Int→Int→Option ((((Int×Int)×Int×Int)×Bool) ⊕ ((List ((Int×Int)×Int×Int))×((Int×Int)×Int×Int)×((Int×Int)×Int×Int)×((Int×Int)×Int×Int)×(List (Int×Int×Int×Int))×Int×Int×Unit))
 | 0,_,_,_,_,_,_,_,_,_,_,_=>none
 | n+1,x1,x4,x6,x8,x9,x20,x21,x22,x30,x31,x32=>(bif decide (x32<x31)then(bif decide (0≤x32)then(bif decide (x32<(x30.length:Int))then(Option.bind (spec_poPower x8 x32) fun r5=>(Option.bind (spec_ivPower k (x30.getD (Int.toNat x32) ((0,0),0,0)) r5) fun r6=>(bif (!r6.2)then some (Sum.inl (((0,0),0,0),false))else(Option.bind (spec_ivMul k x9 r6.1) fun r7=>(bif (!r7.2)then some (Sum.inl (((0,0),0,0),false))else(spec_vaOver_L59802 k n x1 x4 x6 x8 r7.1 x20 x21 x22 x30 x31 (IntKind.wrap .i64 (x32+1))))))))else none)else none)else some (Sum.inr (x1,x4,x6,x9,x20,x21,x22,())))
def spec_vaOver_L58(k:Nat):Nat→(List ((Int×Int)×Int×Int))→((Int×Int)×Int×Int)→((Int×Int)×Int×Int)→(List (Int×Int×Int×Int))→Int→Int→Option ((((Int×Int)×Int×Int)×Bool) ⊕ (((Int×Int)×Int×Int)×((Int×Int)×Int×Int)×Unit))
 | 0,_,_,_,_,_,_=>none
 | n+1,x1,x4,x6,x20,x21,x22=>(bif decide (x22<x21)then(bif decide (0≤x22)then(bif decide (x22<(x20.length:Int))then(Option.bind (spec_dyInt (x20.getD (Int.toNat x22) (0,0,0,0)).1) fun r3=>(Option.bind (spec_vaPure r3) fun r4=>(both (R:=bT1_5) (P:=(List ((Int×Int)×Int×Int))×((Int×Int)×Int×Int)×((Int×Int)×Int×Int)×((Int×Int)×Int×Int)×(List (Int×Int×Int×Int))×Int×Int×Unit) (spec_vaOver_L59802 k k x1 x4 x6 (x20.getD (Int.toNat x22) (0,0,0,0)) r4 x20 x21 x22 x1 (x1.length:Int) 0) (fun q10=>some (Sum.inl q10)) (fun y9=>(Option.bind (spec_ivAdd k y9.2.2.1 y9.2.2.2.1) fun r11=>(bif (!r11.2)then some (Sum.inl (((0,0),0,0),false))else(spec_vaOver_L58 k n y9.1 y9.2.1 r11.1 y9.2.2.2.2.1 y9.2.2.2.2.2.1 (IntKind.wrap .i64 (y9.2.2.2.2.2.2.1+1)))))))))else none)else none)else some (Sum.inr (x4,x6,())))
def spec_vaOver(k:Nat)(a0:List (Int×Int×Int×Int))(a1:List ((Int×Int)×Int×Int)):Option (((Int×Int)×Int×Int)×Bool):=(Option.bind (spec_dyInt 0) fun r1=>(Option.bind (spec_vaPure r1) fun r2=>(both (R:=bT1_5) (P:=bT1_4) (spec_vaOver_L58 k k a1 ((0,0),0,0) r2 a0 (a0.length:Int) 0) (fun q14=>some q14) (fun y13=>some (y13.2.1,true)))))

def spec_ivSign(a0:(Int×Int)×Int×Int):Option (Int):=(Option.bind (spec_ivZero a0) fun r1=>(bif r1 then some 0 else(Option.bind (spec_l1Sign a0.1.1) fun r2=>some r2)))

def spec_imHolds(k:Nat)(a0:List (List (Int×Int×Int×Int)))(a1:List ((Int×Int)×Int×Int))(a2:Int):Option (Bool):=(bif decide (0≤(Int.tmod a2 2))then(bif decide ((Int.tmod a2 2)<(a0.length:Int))then(Option.bind (spec_vaOver k (a0.getD (Int.toNat (Int.tmod a2 2)) []) a1) fun r1=>(bif r1.2 then(Option.bind (spec_ivSign r1.1) fun r2=>some (r2==(IntKind.wrap .i64 (1 - (IntKind.wrap .i64 (2*(IntKind.wrap .i64 (Int.tdiv a2 2))))))))else some false))else none)else none)

def spec_imReason_L26(k:Nat):Nat→(List (List (Int×Int×Int×Int)))→(List ((Int×Int)×Int×Int))→Int→Option ((Int×Bool) ⊕ (Unit))
 | 0,_,_,_=>none
 | n+1,x0,x1,x6=>(bif decide (x6<4)then(Option.bind (spec_imHolds k x0 x1 x6) fun r1=>(bif r1 then some (Sum.inl (x6,true))else(spec_imReason_L26 k n x0 x1 (IntKind.wrap .i64 (x6+1)))))else some (Sum.inr ()))
def spec_imReason(k:Nat)(a0:List (List (Int×Int×Int×Int)))(a1:List ((Int×Int)×Int×Int)):Option (Int×Bool):=(both (R:=Int×Bool) (P:=Unit) (spec_imReason_L26 k k a0 a1 0) (fun q4=>some q4) (fun y3=>some (0,false)))

def impl_isTwo(k:Nat)(a0:List (List (Int×Int×Int×Int))):Option (Bool):=(bif ((a0.length:Int)==2)then(Option.bind (impl_isSystem k a0) fun r1=>some r1)else some false)

def impl_single(a0:Int×Int):Option ((Int×Int)×Int×Int):=some (a0,a0)

def impl_signOf(a0:(Int×Int)×Int×Int):Option (Int):=(bif decide (a0.1.1>0)then some 1 else(bif decide (a0.2.1<0)then some (-1)else some 0))

def impl_reckoner_power_L122(k:Nat):Nat→Bool→Int→((Int×Int)×Int×Int)→((Int×Int)×Int×Int)→(Int×Int)→(Int×Int)→Int→Int→Option ((((Int×Int)×Int×Int)×Bool) ⊕ (Int×((Int×Int)×Int×Int)×((Int×Int)×Int×Int)×(Int×Int)×(Int×Int)×Bool×Unit))
 | 0,_,_,_,_,_,_,_,_=>none
 | n+1,x0,x2,x4,x6,x7,x8,x18,x19=>(bif decide (x19<x18)then(Option.bind (impl_reckoner_product k x0 x7 x4.1) fun r3=>(Option.bind (impl_reckoner_product k r3.2 x8 x4.2) fun r4=>(impl_reckoner_power_L122 k n r4.2 x2 x4 x6 r3.1 r4.1 x18 (IntKind.wrap .i64 (x19+1)))))else some (Sum.inr (x2,x4,x6,x7,x8,x0,())))
def impl_reckoner_power(k:Nat)(a0:Bool)(a1:(Int×Int)×Int×Int)(a2:Int):Option (((Int×Int)×Int×Int)×Bool):=(bif (a2==0)then(Option.bind (impl_integer 1) fun r1=>(Option.bind (impl_single r1) fun r2=>some (r2,a0)))else(both (R:=bT1_5) (P:=Int×((Int×Int)×Int×Int)×((Int×Int)×Int×Int)×(Int×Int)×(Int×Int)×Bool×Unit) (impl_reckoner_power_L122 k k a0 a2 a1 ((0,0),0,0) a1.1 a1.2 (IntKind.wrap .i64 (a2 - 1)) 0) (fun q7=>some q7) (fun y6=>(both (R:=bT1_5) (P:=((Int×Int)×Int×Int)×(Int×Int)×(Int×Int)×Bool×Unit) ((bif ((Int.tmod y6.1 2)==0)then(Option.bind (impl_lesser k y6.2.2.2.1 y6.2.2.2.2.1) fun r8=>(Option.bind (impl_greater k y6.2.2.2.1 y6.2.2.2.2.1) fun r9=>(Option.bind (impl_signOf y6.2.1) fun r10=>(bif (r10==0)then(Option.bind (impl_integer 0) fun r11=>some (Sum.inr (y6.2.2.1,r11,r9,y6.2.2.2.2.2.1,())))else some (Sum.inr (y6.2.2.1,r8,r9,y6.2.2.2.2.2.1,()))))))else some (Sum.inr (y6.2.2.1,y6.2.2.2.1,y6.2.2.2.2.1,y6.2.2.2.2.2.1,())))) (fun q14=>some q14) (fun y12=>(Option.bind (impl_roundOut k (y12.2.1,y12.2.2.1) 16) fun r13=>some (r13,y12.2.2.2.1)))))))

def impl_valueOver_L125338(k:Nat):Nat→(List ((Int×Int)×Int×Int))→((Int×Int)×Int×Int)→Bool→((Int×Int)×Int×Int)→(Int×Int×Int×Int)→((Int×Int)×Int×Int)→(List (Int×Int×Int×Int))→Int→Int→(List ((Int×Int)×Int×Int))→Int→Int→Option ((((Int×Int)×Int×Int)×Bool) ⊕ ((List ((Int×Int)×Int×Int))×((Int×Int)×Int×Int)×Bool×((Int×Int)×Int×Int)×((Int×Int)×Int×Int)×(List (Int×Int×Int×Int))×Int×Int×Unit))
 | 0,_,_,_,_,_,_,_,_,_,_,_,_=>none
 | n+1,x1,x4,x6,x7,x9,x10,x16,x17,x18,x26,x27,x28=>(bif decide (x28<x27)then(bif decide (0≤x28)then(bif decide (x28<(x26.length:Int))then(Option.bind (impl_Term_exponents x9) fun r3=>(bif (x28==0)then(Option.bind (impl_reckoner_power k x6 (x26.getD (Int.toNat x28) ((0,0),0,0)) r3.1) fun r4=>(Option.bind (impl_reckoner_multiply k r4.2 x10 r4.1) fun r5=>(impl_valueOver_L125338 k n x1 x4 r5.2 x7 x9 r5.1 x16 x17 x18 x26 x27 (IntKind.wrap .i64 (x28+1)))))else(bif (x28==1)then(Option.bind (impl_reckoner_power k x6 (x26.getD (Int.toNat x28) ((0,0),0,0)) r3.2.1) fun r6=>(Option.bind (impl_reckoner_multiply k r6.2 x10 r6.1) fun r7=>(impl_valueOver_L125338 k n x1 x4 r7.2 x7 x9 r7.1 x16 x17 x18 x26 x27 (IntKind.wrap .i64 (x28+1)))))else(bif (x28==2)then(Option.bind (impl_reckoner_power k x6 (x26.getD (Int.toNat x28) ((0,0),0,0)) r3.2.2) fun r8=>(Option.bind (impl_reckoner_multiply k r8.2 x10 r8.1) fun r9=>(impl_valueOver_L125338 k n x1 x4 r9.2 x7 x9 r9.1 x16 x17 x18 x26 x27 (IntKind.wrap .i64 (x28+1)))))else none))))else none)else none)else some (Sum.inr (x1,x4,x6,x7,x10,x16,x17,x18,())))
def impl_valueOver_L122(k:Nat):Nat→(List ((Int×Int)×Int×Int))→((Int×Int)×Int×Int)→Bool→((Int×Int)×Int×Int)→(List (Int×Int×Int×Int))→Int→Int→Option ((((Int×Int)×Int×Int)×Bool) ⊕ (((Int×Int)×Int×Int)×Bool×((Int×Int)×Int×Int)×Unit))
 | 0,_,_,_,_,_,_,_=>none
 | n+1,x1,x4,x6,x7,x16,x17,x18=>(bif decide (x18<x17)then(bif decide (0≤x18)then(bif decide (x18<(x16.length:Int))then(Option.bind (impl_integer (x16.getD (Int.toNat x18) (0,0,0,0)).1) fun r1=>(Option.bind (impl_single r1) fun r2=>(both (R:=bT1_5) (P:=(List ((Int×Int)×Int×Int))×((Int×Int)×Int×Int)×Bool×((Int×Int)×Int×Int)×((Int×Int)×Int×Int)×(List (Int×Int×Int×Int))×Int×Int×Unit) (impl_valueOver_L125338 k k x1 x4 x6 x7 (x16.getD (Int.toNat x18) (0,0,0,0)) r2 x16 x17 x18 x1 (x1.length:Int) 0) (fun q12=>some (Sum.inl q12)) (fun y11=>(Option.bind (impl_reckoner_add k y11.2.2.1 y11.2.2.2.1 y11.2.2.2.2.1) fun r13=>(impl_valueOver_L122 k n y11.1 y11.2.1 r13.2 r13.1 y11.2.2.2.2.2.1 y11.2.2.2.2.2.2.1 (IntKind.wrap .i64 (y11.2.2.2.2.2.2.2.1+1))))))))else none)else none)else some (Sum.inr (x4,x6,x7,())))
def impl_valueOver(k:Nat)(a0:List (Int×Int×Int×Int))(a1:List ((Int×Int)×Int×Int)):Option (((Int×Int)×Int×Int)×Bool):=(both (R:=bT1_5) (P:=((Int×Int)×Int×Int)×Bool×((Int×Int)×Int×Int)×Unit) (impl_valueOver_L122 k k a1 ((0,0),0,0) true ((0,0),0,0) a0 (a0.length:Int) 0) (fun q16=>some q16) (fun y15=>(Option.bind (impl_reckoner_result y15.2.1 y15.2.2.1) fun r17=>some (r17.1,r17.2.1))))

def impl_edgeHolds(k:Nat)(a0:List (List (Int×Int×Int×Int)))(a1:Int×(Int×Int)×(Int×Int)×Int×Int)(a2:Int):Option (Bool):=(Option.bind (impl_single a1.2.1) fun r1=>(Option.bind (impl_lesser k a1.2.2.1 a1.2.2.2) fun r2=>(Option.bind (impl_greater k a1.2.2.1 a1.2.2.2) fun r3=>(both (R:=Bool) (P:=(List (List (Int×Int×Int×Int)))×Int×(List ((Int×Int)×Int×Int))×Unit) ((bif (a1.1==1)then(bif decide (1<(([r1,(r2,r3)]:List ((Int×Int)×Int×Int)).length:Int))then(bif decide (0<(([r1,(r2,r3)]:List ((Int×Int)×Int×Int)).length:Int))then(bif decide (0<(([r1,(r2,r3)]:List ((Int×Int)×Int×Int)).length:Int))then(bif decide (1<((([r1,(r2,r3)]:List ((Int×Int)×Int×Int)).set 0 (([r1,(r2,r3)]:List ((Int×Int)×Int×Int)).getD 1 ((0,0),0,0))).length:Int))then some (Sum.inr (a0,a2,((([r1,(r2,r3)]:List ((Int×Int)×Int×Int)).set 0 (([r1,(r2,r3)]:List ((Int×Int)×Int×Int)).getD 1 ((0,0),0,0))).set 1 (([r1,(r2,r3)]:List ((Int×Int)×Int×Int)).getD 0 ((0,0),0,0))),()))else none)else none)else none)else none)else some (Sum.inr (a0,a2,([r1,(r2,r3)]:List ((Int×Int)×Int×Int)),())))) (fun q7=>some q7) (fun y4=>(bif decide (0≤(Int.tmod y4.2.1 2))then(bif decide ((Int.tmod y4.2.1 2)<(y4.1.length:Int))then(Option.bind (impl_valueOver k (y4.1.getD (Int.toNat (Int.tmod y4.2.1 2)) []) y4.2.2.1) fun r5=>(bif r5.2 then(Option.bind (impl_signOf r5.1) fun r6=>some (r6==(IntKind.wrap .i64 (1 - (IntKind.wrap .i64 ((IntKind.wrap .i64 (Int.tdiv y4.2.1 2))*2))))))else some false))else none)else none))))))

def impl_edgeReason_L26(k:Nat):Nat→(List (List (Int×Int×Int×Int)))→(Int×(Int×Int)×(Int×Int)×Int×Int)→Int→Option ((Int) ⊕ (Unit))
 | 0,_,_,_=>none
 | n+1,x0,x3,x6=>(bif decide (x6<4)then(Option.bind (impl_edgeHolds k x0 x3 x6) fun r1=>(bif r1 then some (Sum.inl x6)else(impl_edgeReason_L26 k n x0 x3 (IntKind.wrap .i64 (x6+1)))))else some (Sum.inr ()))
def impl_edgeReason(k:Nat)(a0:List (List (Int×Int×Int×Int)))(a1:Int×(Int×Int)×(Int×Int)×Int×Int):Option (Int):=(both (R:=Int) (P:=Unit) (impl_edgeReason_L26 k k a0 a1 0) (fun q4=>some q4) (fun y3=>some (-1)))

def spec_imBox(k:Nat)(a0:Int×(List Int)×List Int):Option (Bool):=(Option.bind (spec_bxGood k a0) fun r1=>(bif r1 then(bif ((a0.2.1.length:Int)==2)then some (decide (a0.1≤3))else some false)else some false))

def spec_imGood(k:Nat)(a0:List (List (Int×Int×Int×Int)))(a1:Int×(List Int)×List Int):Option (Bool):=(Option.bind (spec_poSystem k a0) fun r1=>(bif r1 then(bif ((a0.length:Int)==2)then(Option.bind (spec_imBox k a1) fun r2=>some r2)else some false)else some false))

def spec_imDepth(a0:Int):Option (Bool):=(Option.bind (spec_l1In a0 0 5) fun r1=>some r1)

def spec_imAsked(k:Nat)(a0:List (List (Int×Int×Int×Int)))(a1:Int×(List Int)×List Int)(a2:Int):Option (Bool):=(Option.bind (spec_imGood k a0 a1) fun r1=>(bif r1 then(Option.bind (spec_imDepth a2) fun r2=>some r2)else some false))

def spec_imWay_L122(k:Nat):Nat→Int→Int→Int→Int→Int→(Int×Int)→(List (Int×(Int×Int)×(Int×Int)×Int×Int))→Int→Int→Option ((List (Int×(Int×Int)×(Int×Int)×Int×Int)) ⊕ ((List (Int×(Int×Int)×(Int×Int)×Int×Int))×Unit))
 | 0,_,_,_,_,_,_,_,_,_=>none
 | n+1,x0,x2,x3,x4,x5,x7,x13,x14,x15=>(bif decide (x15<x14)then(Option.bind (spec_bxNumber k (IntKind.wrap .i64 ((IntKind.wrap .i64 (x2*x14))+(IntKind.wrap .i64 ((IntKind.wrap .i64 (x3 - x2))*x15)))) (IntKind.wrap .i64 (x4+x5))) fun r2=>(Option.bind (spec_bxNumber k (IntKind.wrap .i64 ((IntKind.wrap .i64 (x2*x14))+(IntKind.wrap .i64 ((IntKind.wrap .i64 (x3 - x2))*(IntKind.wrap .i64 (x15+1)))))) (IntKind.wrap .i64 (x4+x5))) fun r3=>(bif decide (x13.length+([(x0,x7,r2,r3)]:List (Int×(Int×Int)×(Int×Int)×Int×Int)).length<274877906944)then(spec_imWay_L122 k n x0 x2 x3 x4 x5 x7 (x13++([(x0,x7,r2,r3)]:List (Int×(Int×Int)×(Int×Int)×Int×Int))) x14 (IntKind.wrap .i64 (x15+1)))else none)))else some (Sum.inr (x13,())))
def spec_imWay(k:Nat)(a0:Int)(a1:Int×Int)(a2:Int)(a3:Int)(a4:Int)(a5:Int):Option (List (Int×(Int×Int)×(Int×Int)×Int×Int)):=(Option.bind (spec_dyPower a5) fun r1=>(both (R:=bT1_6) (P:=bT1_7) (spec_imWay_L122 k k a0 a2 a3 a4 a5 a1 [] r1 0) (fun q6=>some q6) (fun y5=>some y5.1)))

def spec_imEdges(k:Nat)(a0:Int×(List Int)×List Int)(a1:Int):Option (List (Int×(Int×Int)×(Int×Int)×Int×Int)):=(bif decide (0<(a0.2.1.length:Int))then(bif decide (0<(a0.2.2.length:Int))then(bif decide (1<(a0.2.1.length:Int))then(bif decide (1<(a0.2.2.length:Int))then(Option.bind (spec_bxNumber k (a0.2.1.getD 1 0) a0.1) fun r1=>(Option.bind (spec_imWay k 1 r1 (a0.2.1.getD 0 0) (a0.2.2.getD 0 0) a0.1 a1) fun r2=>(Option.bind (spec_bxNumber k (a0.2.2.getD 0 0) a0.1) fun r3=>(Option.bind (spec_imWay k 0 r3 (a0.2.1.getD 1 0) (a0.2.2.getD 1 0) a0.1 a1) fun r4=>(bif decide (r2.length+r4.length<274877906944)then(Option.bind (spec_bxNumber k (a0.2.2.getD 1 0) a0.1) fun r5=>(Option.bind (spec_imWay k 1 r5 (a0.2.2.getD 0 0) (a0.2.1.getD 0 0) a0.1 a1) fun r6=>(bif decide ((r2++r4).length+r6.length<274877906944)then(Option.bind (spec_bxNumber k (a0.2.1.getD 0 0) a0.1) fun r7=>(Option.bind (spec_imWay k 0 r7 (a0.2.2.getD 1 0) (a0.2.1.getD 1 0) a0.1 a1) fun r8=>(bif decide (((r2++r4)++r6).length+r8.length<274877906944)then some (((r2++r4)++r6)++r8)else none)))else none)))else none)))))else none)else none)else none)else none)

def spec_imReasons_L58(k:Nat):Nat→(List (List (Int×Int×Int×Int)))→(List Int)→(List (Int×(Int×Int)×(Int×Int)×Int×Int))→Int→Int→Option ((List Int) ⊕ ((List Int)×Unit))
 | 0,_,_,_,_,_=>none
 | n+1,x0,x7,x14,x15,x16=>(bif decide (x16<x15)then(bif decide (0≤x16)then(bif decide (x16<(x14.length:Int))then(Option.bind (spec_imSides k (x14.getD (Int.toNat x16) (0,(0,0),(0,0),0,0))) fun r2=>(Option.bind (spec_imReason k x0 r2) fun r3=>(bif (!r3.2)then some (Sum.inl x7)else(bif decide (x7.length+([r3.1]:List Int).length<274877906944)then(spec_imReasons_L58 k n x0 (x7++([r3.1]:List Int)) x14 x15 (IntKind.wrap .i64 (x16+1)))else none))))else none)else none)else some (Sum.inr (x7,())))
def spec_imReasons(k:Nat)(a0:List (List (Int×Int×Int×Int)))(a1:Int×(List Int)×List Int)(a2:Int):Option (List Int):=(Option.bind (spec_imEdges k a1 a2) fun r1=>(both (R:=List Int) (P:=(List Int)×Unit) (spec_imReasons_L58 k k a0 [] r1 (r1.length:Int) 0) (fun q6=>some q6) (fun y5=>some y5.1)))

def impl_isPlaneBox(k:Nat)(a0:Int×(List Int)×List Int):Option (Bool):=(Option.bind (impl_isBox k a0) fun r1=>(bif r1 then(bif ((a0.2.1.length:Int)==2)then some (decide (a0.1≤3))else some false)else some false))

def impl_isPlane(k:Nat)(a0:List (List (Int×Int×Int×Int)))(a1:Int×(List Int)×List Int):Option (Bool):=(Option.bind (impl_isTwo k a0) fun r1=>(bif r1 then(Option.bind (impl_isPlaneBox k a1) fun r2=>some r2)else some false))

def impl_boundaryEdges_1(k:Nat)(a0:Int)(a1:Int)(a2:Int×(List Int)×List Int)(a3:Int)(a4:Int):Option (Int×Int):=(bif decide (0≤a0)then(bif decide (a0<(a2.2.1.length:Int))then(Option.bind (impl_Box_length a2 a0) fun r1=>(Option.bind (impl_wideOf (IntKind.wrap .i64 ((IntKind.wrap .i64 ((a2.2.1.getD (Int.toNat a0) 0)*a3))+(IntKind.wrap .i64 (a1*r1))))) fun r2=>(Option.bind (impl_wide_fit k r2 (IntKind.wrap .i64 (a2.1+a4))) fun r3=>some r3.1)))else none)else none)

def impl_boundaryEdges_L512830(k:Nat):Nat→Int→((Int×(List Int)×List Int)×Int×Int×Unit)→(List (Int×(Int×Int)×(Int×Int)×Int×Int))→Int→Int→(Int×Int)→Int→Int→Int→Option ((List (Int×(Int×Int)×(Int×Int)×Int×Int)) ⊕ (Int×((Int×(List Int)×List Int)×Int×Int×Unit)×(List (Int×(Int×Int)×(Int×Int)×Int×Int))×Int×Unit))
 | 0,_,_,_,_,_,_,_,_,_=>none
 | n+1,x5,x6,x7,x8,x9,x10,x17,x36,x37=>(bif decide (x37<x36)then(both (R:=bT1_6) (P:=Int×((Int×(List Int)×List Int)×Int×Int×Unit)×(List (Int×(Int×Int)×(Int×Int)×Int×Int))×Int×Int×(Int×Int)×Int×Int×Int×Int×Int×Unit) ((bif decide (x8≥2)then some (Sum.inr (x5,(x6.1,x6.2.1,x6.2.2.1,()),x7,x8,x9,x10,(IntKind.wrap .i64 (x5 - x37)),(IntKind.wrap .i64 ((IntKind.wrap .i64 (x5 - x37)) - 1)),x17,x36,x37,()))else some (Sum.inr (x5,(x6.1,x6.2.1,x6.2.2.1,()),x7,x8,x9,x10,x37,(IntKind.wrap .i64 (x37+1)),x17,x36,x37,())))) (fun q8=>some (Sum.inl q8)) (fun y5=>(Option.bind (impl_boundaryEdges_1 k (IntKind.wrap .i64 (1 - y5.2.2.2.2.1)) y5.2.2.2.2.2.2.1 y5.2.1.1 y5.2.1.2.1 y5.2.1.2.2.1) fun r6=>(Option.bind (impl_boundaryEdges_1 k (IntKind.wrap .i64 (1 - y5.2.2.2.2.1)) y5.2.2.2.2.2.2.2.1 y5.2.1.1 y5.2.1.2.1 y5.2.1.2.2.1) fun r7=>(bif decide (y5.2.2.1.length+([(y5.2.2.2.2.1,y5.2.2.2.2.2.1,r6,r7)]:List (Int×(Int×Int)×(Int×Int)×Int×Int)).length<274877906944)then(impl_boundaryEdges_L512830 k n y5.1 (y5.2.1.1,y5.2.1.2.1,y5.2.1.2.2.1,()) (y5.2.2.1++([(y5.2.2.2.2.1,y5.2.2.2.2.2.1,r6,r7)]:List (Int×(Int×Int)×(Int×Int)×Int×Int))) y5.2.2.2.1 y5.2.2.2.2.1 y5.2.2.2.2.2.1 y5.2.2.2.2.2.2.2.2.1 y5.2.2.2.2.2.2.2.2.2.1 (IntKind.wrap .i64 (y5.2.2.2.2.2.2.2.2.2.2.1+1)))else none)))))else some (Sum.inr (x5,(x6.1,x6.2.1,x6.2.2.1,()),x7,x17,())))
def impl_boundaryEdges_L250(k:Nat):Nat→Int→((Int×(List Int)×List Int)×Int×Int×Unit)→(List (Int×(Int×Int)×(Int×Int)×Int×Int))→Int→Option ((List (Int×(Int×Int)×(Int×Int)×Int×Int)) ⊕ ((List (Int×(Int×Int)×(Int×Int)×Int×Int))×Unit))
 | 0,_,_,_,_=>none
 | n+1,x5,x6,x7,x17=>(bif decide (x17<4)then(Option.bind (impl_boundaryEdges_1 k (IntKind.wrap .i64 (1 - (Int.tmod x17 2))) 0 x6.1 x6.2.1 x6.2.2.1) fun r1=>(both (R:=bT1_6) (P:=Int×((Int×(List Int)×List Int)×Int×Int×Unit)×(List (Int×(Int×Int)×(Int×Int)×Int×Int))×Int×Int×(Int×Int)×Int×Unit) ((bif (x17==1)then(Option.bind (impl_boundaryEdges_1 k (IntKind.wrap .i64 (1 - (Int.tmod x17 2))) x5 x6.1 x6.2.1 x6.2.2.1) fun r2=>some (Sum.inr (x5,(x6.1,x6.2.1,x6.2.2.1,()),x7,x17,(IntKind.wrap .i64 (1 - (Int.tmod x17 2))),r2,x17,())))else(bif (x17==2)then(Option.bind (impl_boundaryEdges_1 k (IntKind.wrap .i64 (1 - (Int.tmod x17 2))) x5 x6.1 x6.2.1 x6.2.2.1) fun r3=>some (Sum.inr (x5,(x6.1,x6.2.1,x6.2.2.1,()),x7,x17,(IntKind.wrap .i64 (1 - (Int.tmod x17 2))),r3,x17,())))else some (Sum.inr (x5,(x6.1,x6.2.1,x6.2.2.1,()),x7,x17,(IntKind.wrap .i64 (1 - (Int.tmod x17 2))),r1,x17,()))))) (fun q12=>some (Sum.inl q12)) (fun y4=>(both (R:=bT1_6) (P:=Int×((Int×(List Int)×List Int)×Int×Int×Unit)×(List (Int×(Int×Int)×(Int×Int)×Int×Int))×Int×Unit) (impl_boundaryEdges_L512830 k k y4.1 (y4.2.1.1,y4.2.1.2.1,y4.2.1.2.2.1,()) y4.2.2.1 y4.2.2.2.1 y4.2.2.2.2.1 y4.2.2.2.2.2.1 y4.2.2.2.2.2.2.1 y4.1 0) (fun q11=>some (Sum.inl q11)) (fun y10=>(impl_boundaryEdges_L250 k n y10.1 (y10.2.1.1,y10.2.1.2.1,y10.2.1.2.2.1,()) y10.2.2.1 (IntKind.wrap .i64 (y10.2.2.2.1+1))))))))else some (Sum.inr (x7,())))
def impl_boundaryEdges(k:Nat)(a0:Int×(List Int)×List Int)(a1:Int):Option (List (Int×(Int×Int)×(Int×Int)×Int×Int)):=(bif decide (a1<0)then none else(both (R:=bT1_6) (P:=bT1_7) (impl_boundaryEdges_L250 k k (IntKind.wrap .i64 (1*2 ^ min (Int.toNat a1) (IntKind.bits .i64))) (a0,(IntKind.wrap .i64 (1*2 ^ min (Int.toNat a1) (IntKind.bits .i64))),a1,()) [] 0) (fun q15=>some q15) (fun y14=>some y14.1)))

def spec_imAll(k:Nat)(a0:List (List (Int×Int×Int×Int)))(a1:Int×(List Int)×List Int)(a2:Int):Option ((List Int)×Bool):=(Option.bind (spec_imReasons k a0 a1 a2) fun r1=>(Option.bind (spec_dyPower a2) fun r2=>(bif decide ((r1.length:Int)<(IntKind.wrap .i64 (4*r2)))then some (([]:List Int),false)else some (r1,true))))

def spec_LeastDepth_L58(k:Nat):Nat→(List (List (Int×Int×Int×Int)))→(Int×(List Int)×List Int)→Int→Option ((Int×Bool) ⊕ (Unit))
 | 0,_,_,_=>none
 | n+1,x0,x3,x6=>(bif decide (x6≤5)then(Option.bind (spec_imAll k x0 x3 x6) fun r2=>(bif r2.2 then some (Sum.inl (x6,true))else(spec_LeastDepth_L58 k n x0 x3 (IntKind.wrap .i64 (x6+1)))))else some (Sum.inr ()))
def spec_LeastDepth(k:Nat)(a0:List (List (Int×Int×Int×Int)))(a1:Int×(List Int)×List Int):Option (Int×Bool):=(Option.bind (spec_imGood k a0 a1) fun r1=>(bif (!r1)then some (0,false)else(both (R:=Int×Bool) (P:=Unit) (spec_LeastDepth_L58 k k a0 a1 0) (fun q5=>some q5) (fun y4=>some (0,false)))))

def impl_boundaryReasons_L58(k:Nat):Nat→(List (List (Int×Int×Int×Int)))→(List Int)→(List (Int×(Int×Int)×(Int×Int)×Int×Int))→Int→Int→Option (((List Int)×Bool) ⊕ ((List Int)×Unit))
 | 0,_,_,_,_,_=>none
 | n+1,x0,x8,x14,x15,x16=>(bif decide (x16<x15)then(bif decide (0≤x16)then(bif decide (x16<(x14.length:Int))then(Option.bind (impl_edgeReason k x0 (x14.getD (Int.toNat x16) (0,(0,0),(0,0),0,0))) fun r2=>(bif decide (r2<0)then some (Sum.inl (([]:List Int),false))else(bif decide (x8.length+([r2]:List Int).length<274877906944)then(impl_boundaryReasons_L58 k n x0 (x8++([r2]:List Int)) x14 x15 (IntKind.wrap .i64 (x16+1)))else none)))else none)else none)else some (Sum.inr (x8,())))
def impl_boundaryReasons(k:Nat)(a0:List (List (Int×Int×Int×Int)))(a1:Int×(List Int)×List Int)(a2:Int):Option ((List Int)×Bool):=(Option.bind (impl_boundaryEdges k a1 a2) fun r1=>(both (R:=(List Int)×Bool) (P:=(List Int)×Unit) (impl_boundaryReasons_L58 k k a0 [] r1 (r1.length:Int) 0) (fun q5=>some q5) (fun y4=>some (y4.1,true))))

def impl_leastDepth_L26(k:Nat):Nat→(List (List (Int×Int×Int×Int)))→(Int×(List Int)×List Int)→Int→Option ((Int×Bool) ⊕ (Unit))
 | 0,_,_,_=>none
 | n+1,x0,x1,x9=>(bif decide (x9<6)then(Option.bind (impl_boundaryReasons k x0 x1 x9) fun r1=>(bif r1.2 then some (Sum.inl (x9,true))else(impl_leastDepth_L26 k n x0 x1 (IntKind.wrap .i64 (x9+1)))))else some (Sum.inr ()))
def impl_leastDepth(k:Nat)(a0:List (List (Int×Int×Int×Int)))(a1:Int×(List Int)×List Int):Option (Int×Bool):=(both (R:=Int×Bool) (P:=Unit) (impl_leastDepth_L26 k k a0 a1 0) (fun q4=>some q4) (fun y3=>some (0,false)))

def spec_WindingOf(k:Nat)(a0:List (List (Int×Int×Int×Int)))(a1:Int×(List Int)×List Int)(a2:Int):Option (Int×Bool):=(Option.bind (spec_imAsked k a0 a1 a2) fun r1=>(bif (!r1)then some (0,false)else(Option.bind (spec_imAll k a0 a1 a2) fun r2=>(bif (!r2.2)then some (0,false)else(Option.bind (spec_imTurns k r2.1) fun r3=>(bif (!r3.2)then some (0,false)else some (r3.1,true)))))))

def impl_windingOf(k:Nat)(a0:List (List (Int×Int×Int×Int)))(a1:Int×(List Int)×List Int)(a2:Int):Option (Int×Bool):=(Option.bind (impl_boundaryReasons k a0 a1 a2) fun r1=>(bif (!r1.2)then some (0,false)else(Option.bind (impl_turnsOf k r1.1) fun r2=>some (r2.1,r2.2))))

end Go.Ev.G

namespace Go.Ev.G
open Go Go.Ev
set_option maxRecDepth 100000
def spec_dgPlane(k:Nat)(a0:List (List (Int×Int×Int×Int)))(a1:Int×(List Int)×List Int):Option (Int×Bool):=(Option.bind (spec_LeastDepth k a0 a1) fun r1=>(bif (!r1.2)then some (0,false)else(Option.bind (spec_WindingOf k a0 a1 r1.1) fun r2=>some (r2.1,r2.2))))

def spec_DegreeOver(k:Nat)(a0:List (List (Int×Int×Int×Int)))(a1:Int×(List Int)×List Int):Option (Int×Bool):=(Option.bind (spec_imGood k a0 a1) fun r1=>(bif (!r1)then some (0,false)else(Option.bind (spec_dgPlane k a0 a1) fun r2=>some (r2.1,r2.2))))

def impl_degreeOver(k:Nat)(a0:List (List (Int×Int×Int×Int)))(a1:Int×(List Int)×List Int):Option (Int×Bool):=(Option.bind (impl_leastDepth k a0 a1) fun r1=>(bif (!r1.2)then some (0,false)else(Option.bind (impl_windingOf k a0 a1 r1.1) fun r2=>some (r2.1,r2.2))))

def impl_DegreeOver(k:Nat)(a0:List (List (Int×Int×Int×Int)))(a1:Int×(List Int)×List Int):Option (Int×Bool):=(Option.bind (impl_isPlane k a0 a1) fun r1=>(bif (!r1)then some (0,false)else(Option.bind (impl_degreeOver k a0 a1) fun r2=>some (r2.1,r2.2))))

end Go.Ev.G

namespace Go.Ev.G
open Go Go.Ev
set_option maxRecDepth 100000
def slices_Clone_Term_Term(a0:List (Int×Int×Int×Int)):Option (List (Int×Int×Int×Int)):=(bif decide (([]:List (Int×Int×Int×Int)).length+a0.length<274877906944)then some (([]:List (Int×Int×Int×Int))++a0)else none)

def slices_insertionSortCmpFunc_Term_impl_compareTerms_L402(k:Nat):Nat→(List (Int×Int×Int×Int))→Int→Int→Unit→Int→Int→Option ((List (Int×Int×Int×Int)) ⊕ ((List (Int×Int×Int×Int))×Int×Int×Unit×Int×Unit))
 | 0,_,_,_,_,_,_=>none
 | n+1,x0,x1,x2,x3,x8,x9=>(bif decide (x9>x1)then(bif decide (0≤x9)then(bif decide (x9<(x0.length:Int))then(bif decide (0≤(IntKind.wrap .i64 (x9 - 1)))then(bif decide ((IntKind.wrap .i64 (x9 - 1))<(x0.length:Int))then(Option.bind (impl_compareTerms k (x0.getD (Int.toNat x9) (0,0,0,0)) (x0.getD (Int.toNat (IntKind.wrap .i64 (x9 - 1))) (0,0,0,0))) fun r1=>(bif decide (r1<0)then(bif decide (0≤(IntKind.wrap .i64 (x9 - 1)))then(bif decide ((IntKind.wrap .i64 (x9 - 1))<(x0.length:Int))then(bif decide (0≤x9)then(bif decide (x9<(x0.length:Int))then(bif decide (0≤x9)then(bif decide (x9<(x0.length:Int))then(bif decide (0≤(IntKind.wrap .i64 (x9 - 1)))then(bif decide ((IntKind.wrap .i64 (x9 - 1))<((x0.set (Int.toNat x9) (x0.getD (Int.toNat (IntKind.wrap .i64 (x9 - 1))) (0,0,0,0))).length:Int))then(slices_insertionSortCmpFunc_Term_impl_compareTerms_L402 k n ((x0.set (Int.toNat x9) (x0.getD (Int.toNat (IntKind.wrap .i64 (x9 - 1))) (0,0,0,0))).set (Int.toNat (IntKind.wrap .i64 (x9 - 1))) (x0.getD (Int.toNat x9) (0,0,0,0))) x1 x2 () x8 (IntKind.wrap .i64 (x9 - 1)))else none)else none)else none)else none)else none)else none)else none)else none)else some (Sum.inr (x0,x1,x2,(),x8,()))))else none)else none)else none)else none)else some (Sum.inr (x0,x1,x2,(),x8,())))
def slices_insertionSortCmpFunc_Term_impl_compareTerms_L6(k:Nat):Nat→(List (Int×Int×Int×Int))→Int→Int→Unit→Int→Option ((List (Int×Int×Int×Int)) ⊕ ((List (Int×Int×Int×Int))×Unit))
 | 0,_,_,_,_,_=>none
 | n+1,x0,x1,x2,x3,x8=>(bif decide (x8<x2)then(both (R:=bT1_8) (P:=(List (Int×Int×Int×Int))×Int×Int×Unit×Int×Unit) (slices_insertionSortCmpFunc_Term_impl_compareTerms_L402 k k x0 x1 x2 () x8 x8) (fun q4=>some (Sum.inl q4)) (fun y3=>(slices_insertionSortCmpFunc_Term_impl_compareTerms_L6 k n y3.1 y3.2.1 y3.2.2.1 () (IntKind.wrap .i64 (y3.2.2.2.2.1+1)))))else some (Sum.inr (x0,())))
def slices_insertionSortCmpFunc_Term_impl_compareTerms(k:Nat)(a0:List (Int×Int×Int×Int))(a1:Int)(a2:Int)(a3:Unit):Option (List (Int×Int×Int×Int)):=(both (R:=bT1_8) (P:=bT1_3) (slices_insertionSortCmpFunc_Term_impl_compareTerms_L6 k k a0 a1 a2 () (IntKind.wrap .i64 (a1+1))) (fun q7=>some q7) (fun y6=>some y6.1))

def slices_stableCmpFunc_Term_impl_compareTerms_L28(k:Nat):Nat→(List (Int×Int×Int×Int))→Int→Unit→Int→Int→Int→Option ((List (Int×Int×Int×Int)) ⊕ ((List (Int×Int×Int×Int))×Int×Unit×Int×Int×Unit))
 | 0,_,_,_,_,_,_=>none
 | n+1,x0,x1,x2,x6,x7,x8=>(bif decide (x8≤x1)then(Option.bind (slices_insertionSortCmpFunc_Term_impl_compareTerms k x0 x7 x8 ()) fun r1=>(slices_stableCmpFunc_Term_impl_compareTerms_L28 k n r1 x1 () x6 x8 (IntKind.wrap .i64 (x8+x6))))else some (Sum.inr (x0,x1,(),x6,x7,())))
def slices_stableCmpFunc_Term_impl_compareTerms_L3988(k:Nat):Nat→(List (Int×Int×Int×Int))→Int→Unit→Int→Int→Int→Option ((List (Int×Int×Int×Int)) ⊕ ((List (Int×Int×Int×Int))×Int×Unit×Int×Int×Unit))
 | 0,_,_,_,_,_,_=>none
 | n+1,x0,x1,x2,x6,x7,x8=>(bif decide (x8≤x1)then none else some (Sum.inr (x0,x1,(),x6,x7,())))
def slices_stableCmpFunc_Term_impl_compareTerms_L62(k:Nat):Nat→(List (Int×Int×Int×Int))→Int→Unit→Int→Option ((List (Int×Int×Int×Int)) ⊕ ((List (Int×Int×Int×Int))×Unit))
 | 0,_,_,_,_=>none
 | n+1,x0,x1,x2,x6=>(bif decide (x6<x1)then(both (R:=bT1_8) (P:=bT1_9) (slices_stableCmpFunc_Term_impl_compareTerms_L3988 k k x0 x1 () x6 0 (IntKind.wrap .i64 (2*x6))) (fun q8=>some (Sum.inl q8)) (fun y7=>(bif decide ((IntKind.wrap .i64 (y7.2.2.2.2.1+y7.2.2.2.1))<y7.2.1)then none else(slices_stableCmpFunc_Term_impl_compareTerms_L62 k n y7.1 y7.2.1 () (IntKind.wrap .i64 (y7.2.2.2.1*2))))))else some (Sum.inr (x0,())))
def slices_stableCmpFunc_Term_impl_compareTerms(k:Nat)(a0:List (Int×Int×Int×Int))(a1:Int)(a2:Unit):Option (List (Int×Int×Int×Int)):=(both (R:=bT1_8) (P:=bT1_9) (slices_stableCmpFunc_Term_impl_compareTerms_L28 k k a0 a1 () 20 0 20) (fun q4=>some q4) (fun y3=>(Option.bind (slices_insertionSortCmpFunc_Term_impl_compareTerms k y3.1 y3.2.2.2.2.1 y3.2.1 ()) fun r5=>(both (R:=bT1_8) (P:=bT1_3) (slices_stableCmpFunc_Term_impl_compareTerms_L62 k k r5 y3.2.1 () y3.2.2.2.1) (fun q11=>some q11) (fun y10=>some y10.1)))))

def slices_SortStableFunc_Term_Term_impl_compareTerms(k:Nat)(a0:List (Int×Int×Int×Int))(a1:Unit):Option (List (Int×Int×Int×Int)):=(Option.bind (slices_stableCmpFunc_Term_impl_compareTerms k a0 (a0.length:Int) ()) fun r1=>some r1)

def impl_collect_1(a0:Int×Int×Int×Int):Option (Bool):=some (a0.1==0)

def slices_IndexFunc_Term_Term_impl_collect_1_L26(k:Nat):Nat→(List (Int×Int×Int×Int))→Unit→Int→Int→Option ((Int) ⊕ (Unit))
 | 0,_,_,_,_=>none
 | n+1,x0,x1,x7,x8=>(bif decide (x8<x7)then(bif decide (0≤x8)then(bif decide (x8<(x0.length:Int))then(Option.bind (impl_collect_1 (x0.getD (Int.toNat x8) (0,0,0,0))) fun r1=>(bif r1 then some (Sum.inl x8)else(slices_IndexFunc_Term_Term_impl_collect_1_L26 k n x0 () x7 (IntKind.wrap .i64 (x8+1)))))else none)else none)else some (Sum.inr ()))
def slices_IndexFunc_Term_Term_impl_collect_1(k:Nat)(a0:List (Int×Int×Int×Int))(a1:Unit):Option (Int):=(both (R:=Int) (P:=Unit) (slices_IndexFunc_Term_Term_impl_collect_1_L26 k k a0 () (a0.length:Int) 0) (fun q4=>some q4) (fun y3=>some (-1)))

def slices_DeleteFunc_Term_Term_impl_collect_1_L122(k:Nat):Nat→(List (Int×Int×Int×Int))→Unit→Int→Int→Option ((List (Int×Int×Int×Int)) ⊕ ((List (Int×Int×Int×Int))×Int×Unit))
 | 0,_,_,_,_=>none
 | n+1,x0,x1,x5,x6=>(bif decide (x6<(x0.length:Int))then(bif decide (0≤x6)then(bif decide (x6<(x0.length:Int))then(Option.bind (impl_collect_1 (x0.getD (Int.toNat x6) (0,0,0,0))) fun r2=>(bif (!r2)then(bif decide (0≤x5)then(bif decide (x5<(x0.length:Int))then(slices_DeleteFunc_Term_Term_impl_collect_1_L122 k n (x0.set (Int.toNat x5) (x0.getD (Int.toNat x6) (0,0,0,0))) () (IntKind.wrap .i64 (x5+1)) (IntKind.wrap .i64 (x6+1)))else none)else none)else(slices_DeleteFunc_Term_Term_impl_collect_1_L122 k n x0 () x5 (IntKind.wrap .i64 (x6+1)))))else none)else none)else some (Sum.inr (x0,x5,())))
def slices_DeleteFunc_Term_Term_impl_collect_1(k:Nat)(a0:List (Int×Int×Int×Int))(a1:Unit):Option (List (Int×Int×Int×Int)):=(Option.bind (slices_IndexFunc_Term_Term_impl_collect_1 k a0 ()) fun r1=>(bif (r1==(-1))then some a0 else(both (R:=bT1_8) (P:=(List (Int×Int×Int×Int))×Int×Unit) (slices_DeleteFunc_Term_Term_impl_collect_1_L122 k k a0 () r1 (IntKind.wrap .i64 (r1+1))) (fun q5=>some q5) (fun y4=>(bif decide (0≤y4.2.1)then(bif decide (y4.2.1<(y4.1.length:Int))then(bif decide (0≤y4.2.1)then(bif decide (y4.2.1≤((y4.1.take (Int.toNat y4.2.1)++List.replicate (y4.1.length - (Int.toNat y4.2.1)) ((0,0,0,0):Int×Int×Int×Int)).length:Int))then some ((y4.1.take (Int.toNat y4.2.1)++List.replicate (y4.1.length - (Int.toNat y4.2.1)) ((0,0,0,0):Int×Int×Int×Int)).take (Int.toNat y4.2.1))else none)else none)else none)else none)))))

def impl_collect_L250(k:Nat):Nat→(List (Int×Int×Int×Int))→(List (Int×Int×Int×Int))→Int→Int→Option ((List (Int×Int×Int×Int)) ⊕ ((List (Int×Int×Int×Int))×Unit))
 | 0,_,_,_,_=>none
 | n+1,x4,x12,x13,x14=>(bif decide (x14<x13)then(bif decide (0≤x14)then(bif decide (x14<(x12.length:Int))then(bif decide ((x4.length:Int)>0)then(bif decide (0≤(IntKind.wrap .i64 ((x4.length:Int) - 1)))then(bif decide ((IntKind.wrap .i64 ((x4.length:Int) - 1))<(x4.length:Int))then(Option.bind (impl_compareTerms k (x4.getD (Int.toNat (IntKind.wrap .i64 ((x4.length:Int) - 1))) (0,0,0,0)) (x12.getD (Int.toNat x14) (0,0,0,0))) fun r3=>(bif (r3==0)then(bif decide (0≤(IntKind.wrap .i64 ((x4.length:Int) - 1)))then(bif decide ((IntKind.wrap .i64 ((x4.length:Int) - 1))<(x4.length:Int))then(bif decide (0≤(IntKind.wrap .i64 ((x4.length:Int) - 1)))then(bif decide ((IntKind.wrap .i64 ((x4.length:Int) - 1))<(x4.length:Int))then(impl_collect_L250 k n (x4.set (Int.toNat (IntKind.wrap .i64 ((x4.length:Int) - 1))) ((IntKind.wrap .i64 ((x4.getD (Int.toNat (IntKind.wrap .i64 ((x4.length:Int) - 1))) (0,0,0,0)).1+(x12.getD (Int.toNat x14) (0,0,0,0)).1)),(x4.getD (Int.toNat (IntKind.wrap .i64 ((x4.length:Int) - 1))) (0,0,0,0)).2)) x12 x13 (IntKind.wrap .i64 (x14+1)))else none)else none)else none)else none)else(bif decide (x4.length+([(x12.getD (Int.toNat x14) (0,0,0,0))]:List (Int×Int×Int×Int)).length<274877906944)then(impl_collect_L250 k n (x4++([(x12.getD (Int.toNat x14) (0,0,0,0))]:List (Int×Int×Int×Int))) x12 x13 (IntKind.wrap .i64 (x14+1)))else none)))else none)else none)else(bif decide (x4.length+([(x12.getD (Int.toNat x14) (0,0,0,0))]:List (Int×Int×Int×Int)).length<274877906944)then(impl_collect_L250 k n (x4++([(x12.getD (Int.toNat x14) (0,0,0,0))]:List (Int×Int×Int×Int))) x12 x13 (IntKind.wrap .i64 (x14+1)))else none))else none)else none)else some (Sum.inr (x4,())))
def impl_collect(k:Nat)(a0:List (Int×Int×Int×Int)):Option (List (Int×Int×Int×Int)):=(Option.bind (slices_Clone_Term_Term a0) fun r1=>(Option.bind (slices_SortStableFunc_Term_Term_impl_compareTerms k r1 ()) fun r2=>(both (R:=bT1_8) (P:=bT1_3) (impl_collect_L250 k k [] r2 (r2.length:Int) 0) (fun q6=>some q6) (fun y5=>(Option.bind (slices_DeleteFunc_Term_Term_impl_collect_1 k y5.1 ()) fun r7=>some r7)))))

end Go.Ev.G

namespace Go.Ev.G
open Go Go.Ev
set_option maxRecDepth 100000
def spec_beChoose_L58(k:Nat):Nat→Int→Int→Int→Int→Option ((Int) ⊕ (Int×Unit))
 | 0,_,_,_,_=>none
 | n+1,x0,x1,x5,x6=>(bif decide (x6<x1)then(bif ((IntKind.wrap .i64 (x6+1))==0)then none else(spec_beChoose_L58 k n x0 x1 (IntKind.wrap .i64 (Int.tdiv (IntKind.wrap .i64 (x5*(IntKind.wrap .i64 (x0 - x6)))) (IntKind.wrap .i64 (x6+1)))) (IntKind.wrap .i64 (x6+1))))else some (Sum.inr (x5,())))
def spec_beChoose(k:Nat)(a0:Int)(a1:Int):Option (Int):=(both (R:=Int) (P:=bT1_1) (spec_beChoose_L58 k k a0 a1 1 0) (fun q3=>some q3) (fun y2=>some y2.1))

def impl_choose_L58(k:Nat):Nat→Int→Int→Int→Int→Option ((Int) ⊕ (Int×Unit))
 | 0,_,_,_,_=>none
 | n+1,x0,x5,x7,x8=>(bif decide (x8<x7)then(bif ((IntKind.wrap .i64 (x8+1))==0)then none else(impl_choose_L58 k n x0 (IntKind.wrap .i64 (Int.tdiv (IntKind.wrap .i64 (x5*(IntKind.wrap .i64 (x0 - x8)))) (IntKind.wrap .i64 (x8+1)))) x7 (IntKind.wrap .i64 (x8+1))))else some (Sum.inr (x5,())))
def impl_choose(k:Nat)(a0:Int)(a1:Int):Option (Int):=(both (R:=Int) (P:=bT1_1) (impl_choose_L58 k k a0 1 a1 0) (fun q3=>some q3) (fun y2=>some y2.1))

def laws_eqIntSS_L58(k:Nat):Nat→(List (List Int))→(List (List Int))→Int→Option ((Bool) ⊕ (Unit))
 | 0,_,_,_=>none
 | n+1,x0,x1,x5=>(bif decide (x5<(x0.length:Int))then(bif decide (0≤x5)then(bif decide (x5<(x0.length:Int))then(bif decide (0≤x5)then(bif decide (x5<(x1.length:Int))then(Option.bind (laws_eqIntS k (x0.getD (Int.toNat x5) []) (x1.getD (Int.toNat x5) [])) fun r1=>(bif (!r1)then some (Sum.inl false)else(laws_eqIntSS_L58 k n x0 x1 (IntKind.wrap .i64 (x5+1)))))else none)else none)else none)else none)else some (Sum.inr ()))
def laws_eqIntSS(k:Nat)(a0:List (List Int))(a1:List (List Int)):Option (Bool):=(bif ((a0.length:Int) != (a1.length:Int))then some false else(both (R:=Bool) (P:=Unit) (laws_eqIntSS_L58 k k a0 a1 0) (fun q4=>some q4) (fun y3=>some true)))

end Go.Ev.G

namespace Go.Ev.G
open Go Go.Ev
set_option maxRecDepth 100000
def laws_szIntSS_L122(k:Nat):Nat→(List (List Int))→Int→Int→Option ((Int) ⊕ (Int×Unit))
 | 0,_,_,_=>none
 | n+1,x0,x1,x5=>(bif decide (x5<(x0.length:Int))then(bif decide (0≤x5)then(bif decide (x5<(x0.length:Int))then(Option.bind (laws_szIntS (x0.getD (Int.toNat x5) []) x1) fun r1=>(bif decide (r1<0)then some (Sum.inl (-1))else(laws_szIntSS_L122 k n x0 r1 (IntKind.wrap .i64 (x5+1)))))else none)else none)else some (Sum.inr (x1,())))
def laws_szIntSS(k:Nat)(a0:List (List Int))(a1:Int):Option (Int):=(bif decide ((IntKind.wrap .i64 (a1 - (a0.length:Int)))<0)then some (-1)else(both (R:=Int) (P:=bT1_1) (laws_szIntSS_L122 k k a0 (IntKind.wrap .i64 (a1 - (a0.length:Int))) 0) (fun q4=>some q4) (fun y3=>some y3.1)))

def laws_toIntSS_L122(k:Nat):Nat→(List (List Int))→Bool→(List (List Int×List Int))→Int→Option ((List (List Int×List Int)×List (List Int×List Int)) ⊕ ((List (List Int))×(List (List Int×List Int))×Unit))
 | 0,_,_,_,_=>none
 | n+1,x0,x1,x5,x6=>(bif decide (x6<(x0.length:Int))then(bif decide (0≤x6)then(bif decide (x6<(x0.length:Int))then(Option.bind (laws_toIntS k (x0.getD (Int.toNat x6) []) x1) fun r3=>(bif decide (0≤x6)then(bif decide (x6<(x5.length:Int))then(laws_toIntSS_L122 k n x0 x1 (x5.set (Int.toNat x6) r3) (IntKind.wrap .i64 (x6+1)))else none)else none))else none)else none)else some (Sum.inr (x0,x5,())))
def laws_toIntSS_L250(k:Nat):Nat→(List (List Int))→(List (List Int×List Int))→Int→Option ((List (List Int×List Int)×List (List Int×List Int)) ⊕ ((List (List Int))×(List (List Int×List Int))×Unit))
 | 0,_,_,_=>none
 | n+1,x0,x5,x7=>(bif decide (x7<(x5.length:Int))then(bif decide (0≤x7)then(bif decide (x7<(x5.length:Int))then(laws_toIntSS_L250 k n x0 (x5.set (Int.toNat x7) (([(-7000000000000000101)]:List Int),([]:List Int))) (IntKind.wrap .i64 (x7+1)))else none)else none)else some (Sum.inr (x0,x5,())))
def laws_toIntSS(k:Nat)(a0:List (List Int))(a1:Bool):Option (List (List Int×List Int)×List (List Int×List Int)):=(both (R:=bT1_10) (P:=(List (List Int))×Bool×Unit) ((bif a1 then(bif ((a0.length:Int)==0)then some (Sum.inl (([]:List (List Int×List Int)),([]:List (List Int×List Int))))else some (Sum.inr (a0,a1,())))else some (Sum.inr (a0,a1,())))) (fun q10=>some q10) (fun y1=>(Option.bind (laws_roomBehind (y1.1.length:Int)) fun r2=>(bif decide (0≤(IntKind.wrap .i64 ((y1.1.length:Int)+r2)))then(bif decide ((Int.toNat (IntKind.wrap .i64 ((y1.1.length:Int)+r2)))<274877906944)then(both (R:=bT1_10) (P:=(List (List Int))×(List (List Int×List Int))×Unit) (laws_toIntSS_L122 k k y1.1 y1.2.1 (List.replicate (Int.toNat (IntKind.wrap .i64 ((y1.1.length:Int)+r2))) (([],[]):List Int×List Int)) 0) (fun q6=>some q6) (fun y5=>(both (R:=bT1_10) (P:=(List (List Int))×(List (List Int×List Int))×Unit) (laws_toIntSS_L250 k k y5.1 y5.2.1 (y5.1.length:Int)) (fun q9=>some q9) (fun y8=>(bif decide (0≤(y8.1.length:Int))then(bif decide ((y8.1.length:Int)≤(y8.2.1.length:Int))then some ((y8.2.1.take (Int.toNat (y8.1.length:Int))),(y8.2.1.drop (Int.toNat (y8.1.length:Int))))else none)else none)))))else none)else none))))

def spec_dgComplex_L26(k:Nat):Nat→(List (List Int))→(List (List Int))→Int→Int→Option ((Bool) ⊕ ((List (List Int))×Unit))
 | 0,_,_,_,_=>none
 | n+1,x0,x6,x7,x8=>(bif decide (x8<x7)then(bif decide (0≤x8)then(bif decide (x8<(x6.length:Int))then(bif (((x6.getD (Int.toNat x8) []).length:Int) != 2)then some (Sum.inl false)else(Option.bind (spec_l1All k (x6.getD (Int.toNat x8) []) (-100) 100) fun r1=>(bif (!r1)then some (Sum.inl false)else(spec_dgComplex_L26 k n x0 x6 x7 (IntKind.wrap .i64 (x8+1))))))else none)else none)else some (Sum.inr (x0,())))
def spec_dgComplex(k:Nat)(a0:List (List Int)):Option (Bool):=(both (R:=Bool) (P:=(List (List Int))×Unit) (spec_dgComplex_L26 k k a0 a0 (a0.length:Int) 0) (fun q4=>some q4) (fun y3=>(Option.bind (spec_l1In (y3.1.length:Int) 1 5) fun r5=>(bif r5 then(bif decide (0≤(IntKind.wrap .i64 ((y3.1.length:Int) - 1)))then(bif decide ((IntKind.wrap .i64 ((y3.1.length:Int) - 1))<(y3.1.length:Int))then(Option.bind (spec_l1All k (y3.1.getD (Int.toNat (IntKind.wrap .i64 ((y3.1.length:Int) - 1))) []) 0 0) fun r6=>some (!r6))else none)else none)else some false))))

def spec_poPut_L28(k:Nat):Nat→(List (Int×Int×Int×Int))→(Int×Int×Int×Int)→Int→Option ((List (Int×Int×Int×Int)) ⊕ ((List (Int×Int×Int×Int))×(Int×Int×Int×Int)×Int×Unit))
 | 0,_,_,_=>none
 | n+1,x0,x3,x5=>(bif decide (x5<(x0.length:Int))then(bif decide (0≤x5)then(bif decide (x5<(x0.length:Int))then(Option.bind (spec_poOrder (x0.getD (Int.toNat x5) (0,0,0,0)) x3) fun r1=>(bif decide (r1<0)then(spec_poPut_L28 k n x0 x3 (IntKind.wrap .i64 (x5+1)))else some (Sum.inr (x0,x3,x5,()))))else none)else none)else some (Sum.inr (x0,x3,x5,())))
def spec_poPut(k:Nat)(a0:List (Int×Int×Int×Int))(a1:Int×Int×Int×Int):Option (List (Int×Int×Int×Int)):=(both (R:=bT1_8) (P:=(List (Int×Int×Int×Int))×(Int×Int×Int×Int)×Int×Unit) (spec_poPut_L28 k k a0 a1 0) (fun q4=>some q4) (fun y3=>(bif decide (0≤y3.2.2.1)then(bif decide (y3.2.2.1≤(y3.1.length:Int))then(both (R:=bT1_8) (P:=(List (Int×Int×Int×Int))×(Int×Int×Int×Int)×Int×(List (Int×Int×Int×Int))×Unit) ((bif decide (y3.2.2.1<(y3.1.length:Int))then(bif decide (0≤y3.2.2.1)then(bif decide (y3.2.2.1<(y3.1.length:Int))then(Option.bind (spec_poOrder (y3.1.getD (Int.toNat y3.2.2.1) (0,0,0,0)) y3.2.1) fun r5=>(bif (r5==0)then(bif decide (0≤y3.2.2.1)then(bif decide (y3.2.2.1<(y3.1.length:Int))then(bif decide (0≤(IntKind.wrap .i64 (y3.2.2.1+1)))then(bif decide ((IntKind.wrap .i64 (y3.2.2.1+1))≤(y3.1.length:Int))then some (Sum.inr (y3.1,((IntKind.wrap .i64 (y3.2.1.1+(y3.1.getD (Int.toNat y3.2.2.1) (0,0,0,0)).1)),y3.2.1.2),y3.2.2.1,((y3.1.take (Int.toNat (y3.1.length:Int))).drop (Int.toNat (IntKind.wrap .i64 (y3.2.2.1+1)))),()))else none)else none)else none)else none)else some (Sum.inr (y3.1,y3.2.1,y3.2.2.1,((y3.1.take (Int.toNat (y3.1.length:Int))).drop (Int.toNat y3.2.2.1)),()))))else none)else none)else some (Sum.inr (y3.1,y3.2.1,y3.2.2.1,((y3.1.take (Int.toNat (y3.1.length:Int))).drop (Int.toNat y3.2.2.1)),())))) (fun q9=>some q9) (fun y6=>(bif decide (0≤y6.2.2.1)then(bif decide (y6.2.2.1≤(y6.1.length:Int))then(bif decide (([]:List (Int×Int×Int×Int)).length+((y6.1.take (Int.toNat y6.2.2.1)).drop 0).length<274877906944)then(both (R:=bT1_8) (P:=bT1_11) ((bif (y6.2.1.1 != 0)then(bif decide ((([]:List (Int×Int×Int×Int))++((y6.1.take (Int.toNat y6.2.2.1)).drop 0)).length+([y6.2.1]:List (Int×Int×Int×Int)).length<274877906944)then some (Sum.inr (y6.2.2.2.1,((([]:List (Int×Int×Int×Int))++((y6.1.take (Int.toNat y6.2.2.1)).drop 0))++([y6.2.1]:List (Int×Int×Int×Int))),()))else none)else some (Sum.inr (y6.2.2.2.1,(([]:List (Int×Int×Int×Int))++((y6.1.take (Int.toNat y6.2.2.1)).drop 0)),())))) (fun q8=>some q8) (fun y7=>(bif decide (y7.2.1.length+y7.1.length<274877906944)then some (y7.2.1++y7.1)else none)))else none)else none)else none)))else none)else none)))

def spec_dgParted_L14950(k:Nat):Nat→(List (Int×Int×Int×Int))→(List (Int×Int×Int×Int))→Int→(List Int)→Int→(List (List Int))→Int→Int→Option (((List (List (Int×Int×Int×Int)))×Bool) ⊕ ((List (Int×Int×Int×Int))×(List (Int×Int×Int×Int))×(List (List Int))×Int×Int×Unit))
 | 0,_,_,_,_,_,_,_,_=>none
 | n+1,x4,x5,x6,x7,x8,x13,x14,x15=>(bif decide (x8≤x6)then(Option.bind (spec_beChoose k x6 x8) fun r1=>(bif decide (0<(x7.length:Int))then(bif decide (1<(x7.length:Int))then(both (R:=bT1_12) (P:=(List (Int×Int×Int×Int))×(List (Int×Int×Int×Int))×Int×(List Int)×Int×(Int×Int×Int×Int)×Int×Int×(List (List Int))×Int×Int×Unit) ((bif ((Int.tmod x8 4)==1)then(bif decide (1<(x7.length:Int))then(bif decide (0<(x7.length:Int))then some (Sum.inr (x4,x5,x6,x7,x8,(r1,(IntKind.wrap .i64 (x6 - x8)),x8,0),(IntKind.wrap .i64 (0 - (x7.getD 1 0))),(x7.getD 0 0),x13,x14,x15,()))else none)else none)else(bif ((Int.tmod x8 4)==2)then(bif decide (0<(x7.length:Int))then(bif decide (1<(x7.length:Int))then some (Sum.inr (x4,x5,x6,x7,x8,(r1,(IntKind.wrap .i64 (x6 - x8)),x8,0),(IntKind.wrap .i64 (0 - (x7.getD 0 0))),(IntKind.wrap .i64 (0 - (x7.getD 1 0))),x13,x14,x15,()))else none)else none)else(bif ((Int.tmod x8 4)==3)then(bif decide (1<(x7.length:Int))then(bif decide (0<(x7.length:Int))then some (Sum.inr (x4,x5,x6,x7,x8,(r1,(IntKind.wrap .i64 (x6 - x8)),x8,0),(x7.getD 1 0),(IntKind.wrap .i64 (0 - (x7.getD 0 0))),x13,x14,x15,()))else none)else none)else some (Sum.inr (x4,x5,x6,x7,x8,(r1,(IntKind.wrap .i64 (x6 - x8)),x8,0),(x7.getD 0 0),(x7.getD 1 0),x13,x14,x15,())))))) (fun q7=>some (Sum.inl q7)) (fun y2=>(both (R:=bT1_12) (P:=(List (Int×Int×Int×Int))×(List (Int×Int×Int×Int))×Int×(List Int)×Int×(Int×Int×Int×Int)×Int×(List (List Int))×Int×Int×Unit) ((bif (y2.2.2.2.2.2.2.1 != 0)then(Option.bind (spec_poPut k y2.1 ((IntKind.wrap .i64 (y2.2.2.2.2.2.2.1*y2.2.2.2.2.2.1.1)),y2.2.2.2.2.2.1.2.1,y2.2.2.2.2.2.1.2.2.1,0)) fun r3=>some (Sum.inr (r3,y2.2.1,y2.2.2.1,y2.2.2.2.1,y2.2.2.2.2.1,y2.2.2.2.2.2.1,y2.2.2.2.2.2.2.2.1,y2.2.2.2.2.2.2.2.2.1,y2.2.2.2.2.2.2.2.2.2.1,y2.2.2.2.2.2.2.2.2.2.2.1,())))else some (Sum.inr (y2.1,y2.2.1,y2.2.2.1,y2.2.2.2.1,y2.2.2.2.2.1,y2.2.2.2.2.2.1,y2.2.2.2.2.2.2.2.1,y2.2.2.2.2.2.2.2.2.1,y2.2.2.2.2.2.2.2.2.2.1,y2.2.2.2.2.2.2.2.2.2.2.1,())))) (fun q6=>some (Sum.inl q6)) (fun y4=>(bif (y4.2.2.2.2.2.2.1 != 0)then(Option.bind (spec_poPut k y4.2.1 ((IntKind.wrap .i64 (y4.2.2.2.2.2.2.1*y4.2.2.2.2.2.1.1)),y4.2.2.2.2.2.1.2.1,y4.2.2.2.2.2.1.2.2.1,0)) fun r5=>(spec_dgParted_L14950 k n y4.1 r5 y4.2.2.1 y4.2.2.2.1 (IntKind.wrap .i64 (y4.2.2.2.2.1+1)) y4.2.2.2.2.2.2.2.1 y4.2.2.2.2.2.2.2.2.1 y4.2.2.2.2.2.2.2.2.2.1))else(spec_dgParted_L14950 k n y4.1 y4.2.1 y4.2.2.1 y4.2.2.2.1 (IntKind.wrap .i64 (y4.2.2.2.2.1+1)) y4.2.2.2.2.2.2.2.1 y4.2.2.2.2.2.2.2.2.1 y4.2.2.2.2.2.2.2.2.2.1))))))else none)else none))else some (Sum.inr (x4,x5,x13,x14,x15,())))
def spec_dgParted_L58(k:Nat):Nat→(List (Int×Int×Int×Int))→(List (Int×Int×Int×Int))→(List (List Int))→Int→Int→Option (((List (List (Int×Int×Int×Int)))×Bool) ⊕ ((List (Int×Int×Int×Int))×(List (Int×Int×Int×Int))×Unit))
 | 0,_,_,_,_,_=>none
 | n+1,x4,x5,x13,x14,x15=>(bif decide (x15<x14)then(bif decide (0≤x15)then(bif decide (x15<(x13.length:Int))then(both (R:=bT1_12) (P:=bT1_13) (spec_dgParted_L14950 k k x4 x5 x15 (x13.getD (Int.toNat x15) []) 0 x13 x14 x15) (fun q10=>some (Sum.inl q10)) (fun y9=>(spec_dgParted_L58 k n y9.1 y9.2.1 y9.2.2.1 y9.2.2.2.1 (IntKind.wrap .i64 (y9.2.2.2.2.1+1)))))else none)else none)else some (Sum.inr (x4,x5,())))
def spec_dgParted(k:Nat)(a0:List (List Int)):Option ((List (List (Int×Int×Int×Int)))×Bool):=(both (R:=bT1_12) (P:=bT1_11) (spec_dgParted_L58 k k [] [] a0 (a0.length:Int) 0) (fun q13=>some q13) (fun y12=>(Option.bind (spec_poSystem k ([y12.1,y12.2.1]:List (List (Int×Int×Int×Int)))) fun r14=>some (([y12.1,y12.2.1]:List (List (Int×Int×Int×Int))),r14))))

def spec_ComplexSystem(k:Nat)(a0:List (List Int)):Option ((List (List (Int×Int×Int×Int)))×Bool):=(Option.bind (spec_dgComplex k a0) fun r1=>(bif (!r1)then some (([]:List (List (Int×Int×Int×Int))),false)else(Option.bind (spec_dgParted k a0) fun r2=>(bif (!r2.2)then some (([]:List (List (Int×Int×Int×Int))),false)else some (r2.1,true)))))

def spec_CountComplexZeros(k:Nat)(a0:List (List Int))(a1:Int×(List Int)×List Int):Option (Int×Bool):=(Option.bind (spec_ComplexSystem k a0) fun r1=>(bif (!r1.2)then some (0,false)else(Option.bind (spec_DegreeOver k r1.1 a1) fun r2=>some (r2.1,r2.2))))

def impl_isComplex_L26(k:Nat):Nat→(List (List Int))→(List (List Int))→Int→Int→Option ((Bool) ⊕ ((List (List Int))×Unit))
 | 0,_,_,_,_=>none
 | n+1,x0,x5,x6,x7=>(bif decide (x7<x6)then(bif decide (0≤x7)then(bif decide (x7<(x5.length:Int))then(bif (((x5.getD (Int.toNat x7) []).length:Int) != 2)then some (Sum.inl false)else(bif decide (0<((x5.getD (Int.toNat x7) []).length:Int))then(Option.bind (impl_inside ((x5.getD (Int.toNat x7) []).getD 0 0) (-100) 100) fun r1=>(bif (!r1)then some (Sum.inl false)else(bif decide (1<((x5.getD (Int.toNat x7) []).length:Int))then(Option.bind (impl_inside ((x5.getD (Int.toNat x7) []).getD 1 0) (-100) 100) fun r2=>(bif (!r2)then some (Sum.inl false)else(impl_isComplex_L26 k n x0 x5 x6 (IntKind.wrap .i64 (x7+1)))))else none)))else none))else none)else none)else some (Sum.inr (x0,())))
def impl_isComplex(k:Nat)(a0:List (List Int)):Option (Bool):=(both (R:=Bool) (P:=(List (List Int))×Unit) (impl_isComplex_L26 k k a0 a0 (a0.length:Int) 0) (fun q5=>some q5) (fun y4=>(Option.bind (impl_inside (y4.1.length:Int) 1 5) fun r6=>(bif r6 then(bif decide (0≤(IntKind.wrap .i64 ((y4.1.length:Int) - 1)))then(bif decide ((IntKind.wrap .i64 ((y4.1.length:Int) - 1))<(y4.1.length:Int))then(bif decide (0<((y4.1.getD (Int.toNat (IntKind.wrap .i64 ((y4.1.length:Int) - 1))) []).length:Int))then(bif (((y4.1.getD (Int.toNat (IntKind.wrap .i64 ((y4.1.length:Int) - 1))) []).getD 0 0) != 0)then some true else(bif decide (0≤(IntKind.wrap .i64 ((y4.1.length:Int) - 1)))then(bif decide ((IntKind.wrap .i64 ((y4.1.length:Int) - 1))<(y4.1.length:Int))then(bif decide (1<((y4.1.getD (Int.toNat (IntKind.wrap .i64 ((y4.1.length:Int) - 1))) []).length:Int))then some (((y4.1.getD (Int.toNat (IntKind.wrap .i64 ((y4.1.length:Int) - 1))) []).getD 1 0) != 0)else none)else none)else none))else none)else none)else none)else some false))))

def impl_complexSystem_L15309210(k:Nat):Nat→(List (Int×Int×Int×Int))→(List (Int×Int×Int×Int))→Int→(List Int)→Int→Int→Int→(List (List Int))→Int→Int→Int→Int→Int→Int→Option (((List (List (Int×Int×Int×Int)))×Bool) ⊕ ((List (Int×Int×Int×Int))×(List (Int×Int×Int×Int))×Int×(List Int)×Int×Int×Int×(List (List Int))×Int×Int×Int×Int×Unit))
 | 0,_,_,_,_,_,_,_,_,_,_,_,_,_,_=>none
 | n+1,x4,x5,x6,x7,x8,x9,x10,x12,x13,x14,x20,x21,x38,x39=>(bif decide (x39<x38)then(impl_complexSystem_L15309210 k n x4 x5 x6 x7 x8 (IntKind.wrap .i64 (0 - x10)) x9 x12 x13 x14 x20 x21 x38 (IntKind.wrap .i64 (x39+1)))else some (Sum.inr (x4,x5,x6,x7,x8,x9,x10,x12,x13,x14,x20,x21,())))
def impl_complexSystem_L14950(k:Nat):Nat→(List (Int×Int×Int×Int))→(List (Int×Int×Int×Int))→Int→(List Int)→(List (List Int))→Int→Int→Int→Int→Option (((List (List (Int×Int×Int×Int)))×Bool) ⊕ ((List (Int×Int×Int×Int))×(List (Int×Int×Int×Int))×(List (List Int))×Int×Int×Unit))
 | 0,_,_,_,_,_,_,_,_,_=>none
 | n+1,x4,x5,x6,x7,x12,x13,x14,x20,x21=>(bif decide (x21<x20)then(bif decide (0<(x7.length:Int))then(Option.bind (impl_choose k x6 x21) fun r1=>(bif decide (1<(x7.length:Int))then(Option.bind (impl_choose k x6 x21) fun r2=>(both (R:=bT1_12) (P:=(List (Int×Int×Int×Int))×(List (Int×Int×Int×Int))×Int×(List Int)×Int×Int×Int×(List (List Int))×Int×Int×Int×Int×Unit) (impl_complexSystem_L15309210 k k x4 x5 x6 x7 x21 (IntKind.wrap .i64 ((x7.getD 0 0)*r1)) (IntKind.wrap .i64 ((x7.getD 1 0)*r2)) x12 x13 x14 x20 x21 x21 0) (fun q5=>some (Sum.inl q5)) (fun y4=>(bif decide (y4.1.length+([(y4.2.2.2.2.2.1,(IntKind.wrap .i64 (y4.2.2.1 - y4.2.2.2.2.1)),y4.2.2.2.2.1,0)]:List (Int×Int×Int×Int)).length<274877906944)then(bif decide (y4.2.1.length+([(y4.2.2.2.2.2.2.1,(IntKind.wrap .i64 (y4.2.2.1 - y4.2.2.2.2.1)),y4.2.2.2.2.1,0)]:List (Int×Int×Int×Int)).length<274877906944)then(impl_complexSystem_L14950 k n (y4.1++([(y4.2.2.2.2.2.1,(IntKind.wrap .i64 (y4.2.2.1 - y4.2.2.2.2.1)),y4.2.2.2.2.1,0)]:List (Int×Int×Int×Int))) (y4.2.1++([(y4.2.2.2.2.2.2.1,(IntKind.wrap .i64 (y4.2.2.1 - y4.2.2.2.2.1)),y4.2.2.2.2.1,0)]:List (Int×Int×Int×Int))) y4.2.2.1 y4.2.2.2.1 y4.2.2.2.2.2.2.2.1 y4.2.2.2.2.2.2.2.2.1 y4.2.2.2.2.2.2.2.2.2.1 y4.2.2.2.2.2.2.2.2.2.2.1 (IntKind.wrap .i64 (y4.2.2.2.2.2.2.2.2.2.2.2.1+1)))else none)else none))))else none))else none)else some (Sum.inr (x4,x5,x12,x13,x14,())))
def impl_complexSystem_L58(k:Nat):Nat→(List (Int×Int×Int×Int))→(List (Int×Int×Int×Int))→(List (List Int))→Int→Int→Option (((List (List (Int×Int×Int×Int)))×Bool) ⊕ ((List (Int×Int×Int×Int))×(List (Int×Int×Int×Int))×Unit))
 | 0,_,_,_,_,_=>none
 | n+1,x4,x5,x12,x13,x14=>(bif decide (x14<x13)then(bif decide (0≤x14)then(bif decide (x14<(x12.length:Int))then(both (R:=bT1_12) (P:=bT1_13) (impl_complexSystem_L14950 k k x4 x5 x14 (x12.getD (Int.toNat x14) []) x12 x13 x14 (IntKind.wrap .i64 (x14+1)) 0) (fun q8=>some (Sum.inl q8)) (fun y7=>(impl_complexSystem_L58 k n y7.1 y7.2.1 y7.2.2.1 y7.2.2.2.1 (IntKind.wrap .i64 (y7.2.2.2.2.1+1)))))else none)else none)else some (Sum.inr (x4,x5,())))
def impl_complexSystem(k:Nat)(a0:List (List Int)):Option ((List (List (Int×Int×Int×Int)))×Bool):=(both (R:=bT1_12) (P:=bT1_11) (impl_complexSystem_L58 k k [] [] a0 (a0.length:Int) 0) (fun q11=>some q11) (fun y10=>(Option.bind (impl_collect k y10.1) fun r12=>(Option.bind (impl_collect k y10.2.1) fun r13=>(Option.bind (impl_isSystem k ([r12,r13]:List (List (Int×Int×Int×Int)))) fun r14=>(bif (!r14)then some (([]:List (List (Int×Int×Int×Int))),false)else some (([r12,r13]:List (List (Int×Int×Int×Int))),true)))))))

def impl_CountComplexZeros(k:Nat)(a0:List (List Int))(a1:Int×(List Int)×List Int):Option (Int×Bool):=(Option.bind (impl_isComplex k a0) fun r1=>(bif (!r1)then some (0,false)else(Option.bind (impl_complexSystem k a0) fun r2=>(bif (!r2.2)then some (0,false)else(Option.bind (impl_isPlane k r2.1 a1) fun r3=>(bif (!r3)then some (0,false)else(Option.bind (impl_degreeOver k r2.1 a1) fun r4=>some (r4.1,r4.2))))))))

def laws_intactIntSS_L122(k:Nat):Nat→(List (List Int×List Int)×List (List Int×List Int))→(List (List Int×List Int)×List (List Int×List Int))→Int→Int→Option ((Bool) ⊕ ((List (List Int×List Int)×List (List Int×List Int))×(List (List Int×List Int)×List (List Int×List Int))×Int×Unit))
 | 0,_,_,_,_=>none
 | n+1,x0,x1,x5,x6=>(bif decide (x6<(x1.1.length:Int))then(bif decide (0≤x6)then(bif decide (x6<(x0.1.length:Int))then(bif decide (0≤x6)then(bif decide (x6<(x1.1.length:Int))then(Option.bind (laws_intactIntS k (x0.1.getD (Int.toNat x6) ([],[])) (x1.1.getD (Int.toNat x6) ([],[]))) fun r2=>(bif (!r2)then some (Sum.inl false)else(laws_intactIntSS_L122 k n x0 x1 x5 (IntKind.wrap .i64 (x6+1)))))else none)else none)else none)else none)else some (Sum.inr (x0,x1,x5,())))
def laws_intactIntSS(k:Nat)(a0:List (List Int×List Int)×List (List Int×List Int))(a1:List (List Int×List Int)×List (List Int×List Int)):Option (Bool):=(Option.bind (laws_roomBehind (a1.1.length:Int)) fun r1=>(bif ((a0.1.length:Int) != (a1.1.length:Int))then some false else(both (R:=Bool) (P:=(List (List Int×List Int)×List (List Int×List Int))×(List (List Int×List Int)×List (List Int×List Int))×Int×Unit) (laws_intactIntSS_L122 k k a0 a1 (IntKind.wrap .i64 ((a1.1.length:Int)+r1)) 0) (fun q5=>some q5) (fun y4=>(bif decide (0≤(y4.2.1.1.length:Int))then(bif decide ((y4.2.1.1.length:Int)≤y4.2.2.1)then(bif decide (y4.2.2.1≤((y4.1.1++y4.1.2).length:Int))then(bif decide (0≤(y4.2.1.1.length:Int))then(bif decide ((y4.2.1.1.length:Int)≤y4.2.2.1)then(bif decide (y4.2.2.1≤((y4.2.1.1++y4.2.1.2).length:Int))then(Option.bind (laws_eqIntSS k ((((y4.1.1++y4.1.2).take (Int.toNat y4.2.2.1)).drop (Int.toNat (y4.2.1.1.length:Int))).map fun z=>z.1) ((((y4.2.1.1++y4.2.1.2).take (Int.toNat y4.2.2.1)).drop (Int.toNat (y4.2.1.1.length:Int))).map fun z=>z.1)) fun r6=>some r6)else none)else none)else none)else none)else none)else none)))))

def laws_FnExactCountComplexZeros(k:Nat)(a0:List (List Int))(a1:Int×(List Int)×List Int):Option (Bool):=(Option.bind (laws_szIntSS k a0 1000000) fun r1=>(bif decide (r1<0)then some true else(Option.bind (laws_szBox a1 r1) fun r2=>(bif decide (r2<0)then some true else(Option.bind (laws_toIntSS k a0 false) fun r3=>(Option.bind (laws_toBox k a1 false) fun r4=>(Option.bind (spec_CountComplexZeros k (r3.1.map fun z=>z.1) (r4.1,r4.2.1.1,r4.2.2.1)) fun r5=>(Option.bind (laws_toIntSS k a0 false) fun r6=>(Option.bind (laws_toBox k a1 false) fun r7=>(Option.bind (impl_CountComplexZeros k (r6.1.map fun z=>z.1) (r7.1,r7.2.1.1,r7.2.2.1)) fun r8=>(bif (r8.1 != r5.1)then some false else(bif (!(r8.2==r5.2))then some false else(Option.bind (laws_toIntSS k a0 false) fun r9=>(Option.bind (laws_intactIntSS k r6 r9) fun r10=>(bif (!r10)then some false else(Option.bind (laws_toBox k a1 false) fun r11=>(Option.bind (laws_intactBox k r7 r11) fun r12=>(bif (!r12)then some false else(Option.bind (laws_toIntSS k a0 true) fun r13=>(Option.bind (laws_toBox k a1 true) fun r14=>(Option.bind (impl_CountComplexZeros k (r13.1.map fun z=>z.1) (r14.1,r14.2.1.1,r14.2.2.1)) fun r15=>(bif (r15.1 != r5.1)then some false else(bif (!(r15.2==r5.2))then some false else some true)))))))))))))))))))))))
end Go.Ev.G

namespace Go.Ev.G
open Go Go.Ev
set_option maxRecDepth 100000
def impl_ComplexSystem(k:Nat)(a0:List (List Int)):Option ((List (List (Int×Int×Int×Int)))×Bool):=(Option.bind (impl_isComplex k a0) fun r1=>(bif (!r1)then some (([]:List (List (Int×Int×Int×Int))),false)else(Option.bind (impl_complexSystem k a0) fun r2=>some (r2.1,r2.2))))

end Go.Ev.G

