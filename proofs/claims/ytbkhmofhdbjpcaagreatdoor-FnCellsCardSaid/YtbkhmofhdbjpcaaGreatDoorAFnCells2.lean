/- What the plain functions of the law compute, for all inputs within the sizes that the theorems name. -/
import Derived.Test.YtbkhmofhdbjpcaaGreatDoorPFnCells1
import Derived.Test.YtbkhmofhdbjpcaaGreatDoorAFnCells1
set_option linter.unusedVariables false
namespace Go.Ev.G
open Go Go.Ev
set_option maxRecDepth 100000

def cornX(n x:Nat):List (Int×Int×Int):=(List.range (n+1)).flatMap fun y:Nat=>(List.range (n+1)).map fun z:Nat=>((x:Int),(y:Int),(z:Int))
def ordV(d:Int)(n:Nat)(p:Int×Int×Int):List Int:=(impl_around 100 (cellsV n) d p).getD []
def idxV(n:Nat):List Int:=(List.range (6*n*n)).map fun i:Nat=>(i:Int)
def inner(n:Nat)(p:Int×Int×Int):Bool:=(Int.tmod p.1 n != 0)&&(Int.tmod p.2.1 n != 0)&&(Int.tmod p.2.2 n != 0)

theorem o0_0(k:Nat):(cornX 1 0).map (fun p=>impl_around (k+100) (cellsV 1) 0 p)=(cornX 1 0).map (fun p=>some (ordV 0 1 p)):=by kernel_rfl
theorem s0_0(k:Nat):(cornX 1 0).map (fun p=>bif inner 1 p then some []else spec_cbAround (k+100) (idxV 1) [p.1,p.2.1,p.2.2] 1 (cellsV 1))=(cornX 1 0).map (fun p=>some (ordV 0 1 p)):=by kernel_rfl
theorem b0_0:((cornX 1 0).all fun p=>(ordV 0 1 p).all fun i=>decide (0≤i)&&decide (i<6))=true:=by kernel_rfl
theorem l0_0:((cornX 1 0).all fun p=>Nat.ble (ordV 0 1 p).length 1000)=true:=by kernel_rfl
theorem o0_1(k:Nat):(cornX 1 1).map (fun p=>impl_around (k+100) (cellsV 1) 0 p)=(cornX 1 1).map (fun p=>some (ordV 0 1 p)):=by kernel_rfl
theorem s0_1(k:Nat):(cornX 1 1).map (fun p=>bif inner 1 p then some []else spec_cbAround (k+100) (idxV 1) [p.1,p.2.1,p.2.2] 1 (cellsV 1))=(cornX 1 1).map (fun p=>some (ordV 0 1 p)):=by kernel_rfl
theorem b0_1:((cornX 1 1).all fun p=>(ordV 0 1 p).all fun i=>decide (0≤i)&&decide (i<6))=true:=by kernel_rfl
theorem l0_1:((cornX 1 1).all fun p=>Nat.ble (ordV 0 1 p).length 1000)=true:=by kernel_rfl
theorem o1_0(k:Nat):(cornX 2 0).map (fun p=>impl_around (k+100) (cellsV 2) 1 p)=(cornX 2 0).map (fun p=>some (ordV 1 2 p)):=by kernel_rfl
theorem s1_0(k:Nat):(cornX 2 0).map (fun p=>bif inner 2 p then some []else spec_cbAround (k+100) (idxV 2) [p.1,p.2.1,p.2.2] 2 (cellsV 2))=(cornX 2 0).map (fun p=>some (ordV 1 2 p)):=by kernel_rfl
theorem b1_0:((cornX 2 0).all fun p=>(ordV 1 2 p).all fun i=>decide (0≤i)&&decide (i<24))=true:=by kernel_rfl
theorem l1_0:((cornX 2 0).all fun p=>Nat.ble (ordV 1 2 p).length 1000)=true:=by kernel_rfl
theorem o1_1(k:Nat):(cornX 2 1).map (fun p=>impl_around (k+100) (cellsV 2) 1 p)=(cornX 2 1).map (fun p=>some (ordV 1 2 p)):=by kernel_rfl
theorem s1_1(k:Nat):(cornX 2 1).map (fun p=>bif inner 2 p then some []else spec_cbAround (k+100) (idxV 2) [p.1,p.2.1,p.2.2] 2 (cellsV 2))=(cornX 2 1).map (fun p=>some (ordV 1 2 p)):=by kernel_rfl
theorem b1_1:((cornX 2 1).all fun p=>(ordV 1 2 p).all fun i=>decide (0≤i)&&decide (i<24))=true:=by kernel_rfl
theorem l1_1:((cornX 2 1).all fun p=>Nat.ble (ordV 1 2 p).length 1000)=true:=by kernel_rfl
theorem o1_2(k:Nat):(cornX 2 2).map (fun p=>impl_around (k+100) (cellsV 2) 1 p)=(cornX 2 2).map (fun p=>some (ordV 1 2 p)):=by kernel_rfl
theorem s1_2(k:Nat):(cornX 2 2).map (fun p=>bif inner 2 p then some []else spec_cbAround (k+100) (idxV 2) [p.1,p.2.1,p.2.2] 2 (cellsV 2))=(cornX 2 2).map (fun p=>some (ordV 1 2 p)):=by kernel_rfl
theorem b1_2:((cornX 2 2).all fun p=>(ordV 1 2 p).all fun i=>decide (0≤i)&&decide (i<24))=true:=by kernel_rfl
theorem l1_2:((cornX 2 2).all fun p=>Nat.ble (ordV 1 2 p).length 1000)=true:=by kernel_rfl
theorem o2_0(k:Nat):(cornX 4 0).map (fun p=>impl_around (k+100) (cellsV 4) 2 p)=(cornX 4 0).map (fun p=>some (ordV 2 4 p)):=by kernel_rfl
theorem s2_0(k:Nat):(cornX 4 0).map (fun p=>bif inner 4 p then some []else spec_cbAround (k+100) (idxV 4) [p.1,p.2.1,p.2.2] 4 (cellsV 4))=(cornX 4 0).map (fun p=>some (ordV 2 4 p)):=by kernel_rfl
theorem b2_0:((cornX 4 0).all fun p=>(ordV 2 4 p).all fun i=>decide (0≤i)&&decide (i<96))=true:=by kernel_rfl
theorem l2_0:((cornX 4 0).all fun p=>Nat.ble (ordV 2 4 p).length 1000)=true:=by kernel_rfl
theorem o2_1(k:Nat):(cornX 4 1).map (fun p=>impl_around (k+100) (cellsV 4) 2 p)=(cornX 4 1).map (fun p=>some (ordV 2 4 p)):=by kernel_rfl
theorem s2_1(k:Nat):(cornX 4 1).map (fun p=>bif inner 4 p then some []else spec_cbAround (k+100) (idxV 4) [p.1,p.2.1,p.2.2] 4 (cellsV 4))=(cornX 4 1).map (fun p=>some (ordV 2 4 p)):=by kernel_rfl
theorem b2_1:((cornX 4 1).all fun p=>(ordV 2 4 p).all fun i=>decide (0≤i)&&decide (i<96))=true:=by kernel_rfl
theorem l2_1:((cornX 4 1).all fun p=>Nat.ble (ordV 2 4 p).length 1000)=true:=by kernel_rfl
theorem o2_2(k:Nat):(cornX 4 2).map (fun p=>impl_around (k+100) (cellsV 4) 2 p)=(cornX 4 2).map (fun p=>some (ordV 2 4 p)):=by kernel_rfl
theorem s2_2(k:Nat):(cornX 4 2).map (fun p=>bif inner 4 p then some []else spec_cbAround (k+100) (idxV 4) [p.1,p.2.1,p.2.2] 4 (cellsV 4))=(cornX 4 2).map (fun p=>some (ordV 2 4 p)):=by kernel_rfl
theorem b2_2:((cornX 4 2).all fun p=>(ordV 2 4 p).all fun i=>decide (0≤i)&&decide (i<96))=true:=by kernel_rfl
theorem l2_2:((cornX 4 2).all fun p=>Nat.ble (ordV 2 4 p).length 1000)=true:=by kernel_rfl
theorem o2_3(k:Nat):(cornX 4 3).map (fun p=>impl_around (k+100) (cellsV 4) 2 p)=(cornX 4 3).map (fun p=>some (ordV 2 4 p)):=by kernel_rfl
theorem s2_3(k:Nat):(cornX 4 3).map (fun p=>bif inner 4 p then some []else spec_cbAround (k+100) (idxV 4) [p.1,p.2.1,p.2.2] 4 (cellsV 4))=(cornX 4 3).map (fun p=>some (ordV 2 4 p)):=by kernel_rfl
theorem b2_3:((cornX 4 3).all fun p=>(ordV 2 4 p).all fun i=>decide (0≤i)&&decide (i<96))=true:=by kernel_rfl
theorem l2_3:((cornX 4 3).all fun p=>Nat.ble (ordV 2 4 p).length 1000)=true:=by kernel_rfl
theorem o2_4(k:Nat):(cornX 4 4).map (fun p=>impl_around (k+100) (cellsV 4) 2 p)=(cornX 4 4).map (fun p=>some (ordV 2 4 p)):=by kernel_rfl
theorem s2_4(k:Nat):(cornX 4 4).map (fun p=>bif inner 4 p then some []else spec_cbAround (k+100) (idxV 4) [p.1,p.2.1,p.2.2] 4 (cellsV 4))=(cornX 4 4).map (fun p=>some (ordV 2 4 p)):=by kernel_rfl
theorem b2_4:((cornX 4 4).all fun p=>(ordV 2 4 p).all fun i=>decide (0≤i)&&decide (i<96))=true:=by kernel_rfl
theorem l2_4:((cornX 4 4).all fun p=>Nat.ble (ordV 2 4 p).length 1000)=true:=by kernel_rfl

theorem cornX_mem{n x:Nat}{y z:Int}(hy:0≤y)(hy2:y≤n)(hz:0≤z)(hz2:z≤n):((x:Int),y,z)∈cornX n x:=by
 unfold cornX
 rw [List.mem_flatMap]
 refine⟨y.toNat,by rw [List.mem_range];omega,?_⟩
 rw [List.mem_map]
 refine⟨z.toNat,by rw [List.mem_range];omega,?_⟩
 simp only [Prod.mk.injEq,true_and]
 omega

theorem map_at{α β:Type}{f g:α→β}{l:List α}(h:l.map f=l.map g){p:α}(hp:p∈l):f p=g p:=List.map_inj_left.1 h p hp

structure InB(d:Nat)(x y z:Int):Prop where
 hd:d≤2
 x0:0≤x
 x1:x≤(2 ^ d:Nat)
 y0:0≤y
 y1:y≤(2 ^ d:Nat)
 z0:0≤z
 z1:z≤(2 ^ d:Nat)

theorem around_ord{d:Nat}{x y z:Int}(h:InB d x y z)(k:Nat):impl_around (k+100) (cellsV (2 ^ d)) d (x,y,z)=some (ordV d (2 ^ d) (x,y,z)):=by
 obtain⟨hd,x0,x1,y0,y1,z0,z1⟩:=h
 have hd3:d=0∨d=1∨d=2:=by omega
 rcases hd3 with rfl | rfl | rfl
 ·have hx:x=0∨x=1:=by simp at x1;omega
  rcases hx with rfl | rfl
  ·exact map_at (o0_0 k) (cornX_mem (x:=0) y0 y1 z0 z1)
  ·exact map_at (o0_1 k) (cornX_mem (x:=1) y0 y1 z0 z1)
 ·have hx:x=0∨x=1∨x=2:=by simp at x1;omega
  rcases hx with rfl | rfl | rfl
  ·exact map_at (o1_0 k) (cornX_mem (x:=0) y0 y1 z0 z1)
  ·exact map_at (o1_1 k) (cornX_mem (x:=1) y0 y1 z0 z1)
  ·exact map_at (o1_2 k) (cornX_mem (x:=2) y0 y1 z0 z1)
 ·have hx:x=0∨x=1∨x=2∨x=3∨x=4:=by simp at x1;omega
  rcases hx with rfl | rfl | rfl | rfl | rfl
  ·exact map_at (o2_0 k) (cornX_mem (x:=0) y0 y1 z0 z1)
  ·exact map_at (o2_1 k) (cornX_mem (x:=1) y0 y1 z0 z1)
  ·exact map_at (o2_2 k) (cornX_mem (x:=2) y0 y1 z0 z1)
  ·exact map_at (o2_3 k) (cornX_mem (x:=3) y0 y1 z0 z1)
  ·exact map_at (o2_4 k) (cornX_mem (x:=4) y0 y1 z0 z1)
theorem saround_ord{d:Nat}{x y z:Int}(h:InB d x y z)(k:Nat):(bif inner (2 ^ d) (x,y,z)then some []else spec_cbAround (k+100) (idxV (2 ^ d)) [x,y,z] ((2 ^ d:Nat):Int) (cellsV (2 ^ d)))=some (ordV d (2 ^ d) (x,y,z)):=by
 obtain⟨hd,x0,x1,y0,y1,z0,z1⟩:=h
 have hd3:d=0∨d=1∨d=2:=by omega
 rcases hd3 with rfl | rfl | rfl
 ·have hx:x=0∨x=1:=by simp at x1;omega
  rcases hx with rfl | rfl
  ·exact map_at (s0_0 k) (cornX_mem (x:=0) y0 y1 z0 z1)
  ·exact map_at (s0_1 k) (cornX_mem (x:=1) y0 y1 z0 z1)
 ·have hx:x=0∨x=1∨x=2:=by simp at x1;omega
  rcases hx with rfl | rfl | rfl
  ·exact map_at (s1_0 k) (cornX_mem (x:=0) y0 y1 z0 z1)
  ·exact map_at (s1_1 k) (cornX_mem (x:=1) y0 y1 z0 z1)
  ·exact map_at (s1_2 k) (cornX_mem (x:=2) y0 y1 z0 z1)
 ·have hx:x=0∨x=1∨x=2∨x=3∨x=4:=by simp at x1;omega
  rcases hx with rfl | rfl | rfl | rfl | rfl
  ·exact map_at (s2_0 k) (cornX_mem (x:=0) y0 y1 z0 z1)
  ·exact map_at (s2_1 k) (cornX_mem (x:=1) y0 y1 z0 z1)
  ·exact map_at (s2_2 k) (cornX_mem (x:=2) y0 y1 z0 z1)
  ·exact map_at (s2_3 k) (cornX_mem (x:=3) y0 y1 z0 z1)
  ·exact map_at (s2_4 k) (cornX_mem (x:=4) y0 y1 z0 z1)
theorem all_at{l:List (Int×Int×Int)}{q:Int×Int×Int→List Int}{m:Int}(h:(l.all fun p=>(q p).all fun i=>decide (0≤i)&&decide (i<m))=true){p:Int×Int×Int}(hp:p∈l):∀i∈q p,0≤i∧i<m:=by
 intro i hi
 have h1:=List.all_eq_true.1 (List.all_eq_true.1 h p hp) i hi
 rw [Bool.and_eq_true]at h1
 exact⟨of_decide_eq_true h1.1,of_decide_eq_true h1.2⟩
theorem ord_bnd{d:Nat}{x y z:Int}(h:InB d x y z):∀i∈ordV d (2 ^ d) (x,y,z),0≤i∧i<((6*2 ^ d*2 ^ d:Nat):Int):=by
 obtain⟨hd,x0,x1,y0,y1,z0,z1⟩:=h
 have hd3:d=0∨d=1∨d=2:=by omega
 rcases hd3 with rfl | rfl | rfl
 ·have hx:x=0∨x=1:=by simp at x1;omega
  rcases hx with rfl | rfl
  ·exact all_at b0_0 (cornX_mem (x:=0) y0 y1 z0 z1)
  ·exact all_at b0_1 (cornX_mem (x:=1) y0 y1 z0 z1)
 ·have hx:x=0∨x=1∨x=2:=by simp at x1;omega
  rcases hx with rfl | rfl | rfl
  ·exact all_at b1_0 (cornX_mem (x:=0) y0 y1 z0 z1)
  ·exact all_at b1_1 (cornX_mem (x:=1) y0 y1 z0 z1)
  ·exact all_at b1_2 (cornX_mem (x:=2) y0 y1 z0 z1)
 ·have hx:x=0∨x=1∨x=2∨x=3∨x=4:=by simp at x1;omega
  rcases hx with rfl | rfl | rfl | rfl | rfl
  ·exact all_at b2_0 (cornX_mem (x:=0) y0 y1 z0 z1)
  ·exact all_at b2_1 (cornX_mem (x:=1) y0 y1 z0 z1)
  ·exact all_at b2_2 (cornX_mem (x:=2) y0 y1 z0 z1)
  ·exact all_at b2_3 (cornX_mem (x:=3) y0 y1 z0 z1)
  ·exact all_at b2_4 (cornX_mem (x:=4) y0 y1 z0 z1)
theorem len_at{l:List (Int×Int×Int)}{q:Int×Int×Int→List Int}(h:(l.all fun p=>Nat.ble (q p).length 1000)=true){p:Int×Int×Int}(hp:p∈l):(q p).length≤1000:=Nat.le_of_ble_eq_true (List.all_eq_true.1 h p hp)
theorem ordV_len{d:Nat}{x y z:Int}(h:InB d x y z):(ordV d (2 ^ d) (x,y,z)).length≤1000:=by
 obtain⟨hd,x0,x1,y0,y1,z0,z1⟩:=h
 have hd3:d=0∨d=1∨d=2:=by omega
 rcases hd3 with rfl | rfl | rfl
 ·have hx:x=0∨x=1:=by simp at x1;omega
  rcases hx with rfl | rfl
  ·exact len_at l0_0 (cornX_mem (x:=0) y0 y1 z0 z1)
  ·exact len_at l0_1 (cornX_mem (x:=1) y0 y1 z0 z1)
 ·have hx:x=0∨x=1∨x=2:=by simp at x1;omega
  rcases hx with rfl | rfl | rfl
  ·exact len_at l1_0 (cornX_mem (x:=0) y0 y1 z0 z1)
  ·exact len_at l1_1 (cornX_mem (x:=1) y0 y1 z0 z1)
  ·exact len_at l1_2 (cornX_mem (x:=2) y0 y1 z0 z1)
 ·have hx:x=0∨x=1∨x=2∨x=3∨x=4:=by simp at x1;omega
  rcases hx with rfl | rfl | rfl | rfl | rfl
  ·exact len_at l2_0 (cornX_mem (x:=0) y0 y1 z0 z1)
  ·exact len_at l2_1 (cornX_mem (x:=1) y0 y1 z0 z1)
  ·exact len_at l2_2 (cornX_mem (x:=2) y0 y1 z0 z1)
  ·exact len_at l2_3 (cornX_mem (x:=3) y0 y1 z0 z1)
  ·exact len_at l2_4 (cornX_mem (x:=4) y0 y1 z0 z1)
end Go.Ev.G

namespace Go.Ev.G
open Go Go.Ev
set_option maxRecDepth 100000

theorem cbAround_L58_nat(k:Nat)(A B x1:List Int)(x2:Int)(x3:List (Int×Bool×Int×Int))(x21:List Int)(x22:Int):∀(n:Nat) (x9:List Int) (x23:Int),
  spec_cbAround_L58 k n A x1 x2 x3 x9 x21 x22 x23=(spec_cbAround_L58 k n B x1 x2 x3 x9 x21 x22 x23).map (Sum.map id fun t=>(A,t.2))
 | 0,_,_=>rfl
 | n+1,x9,x23=>by
  rw [spec_cbAround_L58.eq_2,spec_cbAround_L58.eq_2]
  simp only [cbAround_L58_nat k A B x1 x2 x3 x21 x22 n]
  cases decide (x23<x22)
  ·rfl
  cases decide (0≤x23)
  ·rfl
  cases decide (x23<(x21.length:Int))
  ·rfl
  simp only [cond_true]
  cases (x21.getD (Int.toNat x23) 0==0)
  ·simp only [cond_false]
   cases (x21.getD (Int.toNat x23) 0==x2)
   ·rfl
   ·simp only [cond_true]
    cases decide (x23<(x9.length:Int)) <;> rfl
  ·simp only [cond_true]
   cases decide (x23<(x9.length:Int)) <;> rfl

def labF(A:List Int)(i:Int):Int:=A.getD i.toNat 0

theorem cbAround_L506_nat(k:Nat){A B:List Int}(hl:A.length=B.length)(hf:∀i:Nat,i<B.length→A.getD i 0=labF A (B.getD i 0))(x1:List Int)(x2:Int)(x9:List Int)(x41:List (Int×Bool×Int×Int))(x42:Int):∀(n:Nat) (x12:List (List Int)) (x13:List Int) (x43:Int),
  spec_cbAround_L506 k n A x1 x2 x9 x12 (x13.map (labF A)) x41 x42 x43=(spec_cbAround_L506 k n B x1 x2 x9 x12 x13 x41 x42 x43).map (Sum.map id fun t=>(t.1,t.2.1,t.2.2.1.map (labF A),()))
 | 0,_,_,_=>rfl
 | n+1,x12,x13,x43=>by
  rw [spec_cbAround_L506.eq_2,spec_cbAround_L506.eq_2]
  have ih:=cbAround_L506_nat k hl hf x1 x2 x9 x41 x42 n
  cases decide (x43<x42)
  ·rfl
  cases h0:decide (0≤x43)
  ·rfl
  cases decide (x43<(x41.length:Int))
  ·rfl
  simp only [cond_true]
  cases spec_cbOffset k (x41.getD (Int.toNat x43) (0,false,0,0)) x1 x2 with
  | none=>rfl
  | some r4 =>
   simp only [Option.bind_some]
   cases decide ((r4.length:Int)>0)
   ·simp only [cond_false]
    exact ih _ _ _
   ·simp only [cond_true]
    cases decide (x12.length+([r4]:List (List Int)).length<274877906944)
    ·rfl
    simp only [cond_true,hl,List.length_map]
    cases hb:decide (x43<(B.length:Int))
    ·rfl
    simp only [cond_true,List.length_cons,List.length_nil]
    cases decide (x13.length+(0+1)<274877906944)
    ·rfl
    simp only [cond_true]
    have h0:=of_decide_eq_true h0
    have hb:=of_decide_eq_true hb
    have e:x13.map (labF A) ++ [A.getD (Int.toNat x43) 0]=(x13 ++ [B.getD (Int.toNat x43) 0]).map (labF A):=by
     rw [List.map_append,hf _ (by omega)];rfl
    rw [e]
    exact ih _ _ _

theorem cbAround_L1047142_nat(k:Nat)(f:Int→Int)(x9:List Int)(x12:List (List Int))(x13 x17:List Int)(x18 x68 x69 x79:Int):∀(n:Nat) (x80:Int),
  spec_cbAround_L1047142 k n x9 x12 (x13.map f) (x17.map f) x18 x68 x69 x79 x80=(spec_cbAround_L1047142 k n x9 x12 x13 x17 x18 x68 x69 x79 x80).map (Sum.map id fun t=>(t.1,t.2.1,t.2.2.1.map f,t.2.2.2.1.map f,t.2.2.2.2))
 | 0,_=>rfl
 | n+1,x80=>by
  rw [spec_cbAround_L1047142.eq_2,spec_cbAround_L1047142.eq_2]
  simp only [cbAround_L1047142_nat k f x9 x12 x13 x17 x18 x68 x69 x79 n]
  cases decide (x80<x79)
  ·rfl
  cases decide (0≤x18)
  ·rfl
  cases decide (x18<(x12.length:Int))
  ·rfl
  cases decide (0≤x80)
  ·rfl
  cases decide (x80<(x12.length:Int))
  ·rfl
  simp only [cond_true]
  cases spec_cbTurn x9 (x12.getD (Int.toNat x18) []) (x12.getD (Int.toNat x80) [])with
  | none=>rfl
  | some r8 =>
   simp only [Option.bind_some]
   cases decide (r8>0) <;> rfl

theorem both_map{R P P' A:Type}(o:Option (R ⊕ P))(g:P→P')(f:R→Option A)(h:P'→Option A):both (o.map (Sum.map id g)) f h=both o f (fun y=>h (g y)):=by
 cases o with
 | none=>rfl
 | some s=>cases s <;> rfl

theorem map_both{R P A B:Type}(o:Option (R ⊕ P))(f:R→Option A)(h:P→Option A)(u:A→B):(both o f h).map u=both o (fun r=>(f r).map u) (fun y=>(h y).map u):=by
 cases o with
 | none=>rfl
 | some s=>cases s <;> rfl

theorem L1047142_inr(k:Nat)(x9:List Int)(x12:List (List Int))(x13 x17:List Int)(x18 x68 x69 x79:Int):∀(n:Nat) (x80:Int) (r:List Int),spec_cbAround_L1047142 k n x9 x12 x13 x17 x18 x68 x69 x79 x80≠some (.inl r)
 | 0,_,_=>by simp [spec_cbAround_L1047142]
 | n+1,x80,r=>by
  rw [spec_cbAround_L1047142.eq_2]
  have ih:=L1047142_inr k x9 x12 x13 x17 x18 x68 x69 x79 n
  cases decide (x80<x79)
  ·simp
  cases decide (0≤x18)
  ·simp
  cases decide (x18<(x12.length:Int))
  ·simp
  cases decide (0≤x80)
  ·simp
  cases decide (x80<(x12.length:Int))
  ·simp
  simp only [cond_true]
  cases spec_cbTurn x9 (x12.getD (Int.toNat x18) []) (x12.getD (Int.toNat x80) [])with
  | none=>simp
  | some r8 =>
   simp only [Option.bind_some]
   cases decide (r8>0)
   ·exact ih _ _
   ·simp

theorem cbAround_L4090_nat(k:Nat)(f:Int→Int)(hf0:f 0=f 0):∀(n:Nat) (x9:List Int) (x12:List (List Int)) (x13 x17:List Int) (x18 x68 x69:Int),
  spec_cbAround_L4090 k n x9 x12 (x13.map f) (x17.map f) x18 x68 x69=(spec_cbAround_L4090 k n x9 x12 x13 x17 x18 x68 x69).map (Sum.map (List.map f) fun t=>(t.1.map f,()))
 | 0,_,_,_,_,_,_,_=>rfl
 | n+1,x9,x12,x13,x17,x18,x68,x69=>by
  rw [spec_cbAround_L4090.eq_2,spec_cbAround_L4090.eq_2]
  have ih:=cbAround_L4090_nat k f hf0 n
  cases decide (x69<x68)
  ·rfl
  cases h0:decide (0≤x18)
  ·rfl
  simp only [cond_true,List.length_map]
  cases hb:decide (x18<(x13.length:Int))
  ·rfl
  simp only [cond_true,List.length_cons,List.length_nil]
  cases decide (x17.length+(0+1)<274877906944)
  ·rfl
  simp only [cond_true]
  have h0:=of_decide_eq_true h0
  have hb:=of_decide_eq_true hb
  have e:x17.map f ++ [(x13.map f).getD (Int.toNat x18) 0]=(x17 ++ [x13.getD (Int.toNat x18) 0]).map f:=by
   have hlt:Int.toNat x18<x13.length:=by omega
   rw [List.map_append,List.getD_eq_getElem?_getD,List.getD_eq_getElem?_getD,List.getElem?_map,List.getElem?_eq_getElem hlt]
   rfl
  rw [e,cbAround_L1047142_nat,both_map,map_both]
  cases hi:spec_cbAround_L1047142 k k x9 x12 x13 (x17 ++ [x13.getD (Int.toNat x18) 0]) x18 x68 x69 x12.length 0 with
  | none=>rfl
  | some s =>
   cases s with
   | inl r=>exact absurd hi (L1047142_inr k _ _ _ _ _ _ _ _ _ _ _)
   | inr y=>exact ih _ _ _ _ _ _ _

theorem L58_inr(k:Nat)(A x1:List Int)(x2:Int)(x3:List (Int×Bool×Int×Int))(x21:List Int)(x22:Int):∀(n:Nat) (x9:List Int) (x23:Int) (r:List Int),spec_cbAround_L58 k n A x1 x2 x3 x9 x21 x22 x23≠some (.inl r)
 | 0,_,_,_=>by simp [spec_cbAround_L58]
 | n+1,x9,x23,r=>by
  rw [spec_cbAround_L58.eq_2]
  have ih:=L58_inr k A x1 x2 x3 x21 x22 n
  cases decide (x23<x22)
  ·simp
  cases decide (0≤x23)
  ·simp
  cases decide (x23<(x21.length:Int))
  ·simp
  simp only [cond_true]
  cases (x21.getD (Int.toNat x23) 0==0)
  ·simp only [cond_false]
   cases (x21.getD (Int.toNat x23) 0==x2)
   ·exact ih _ _ _
   ·simp only [cond_true]
    cases decide (x23<(x9.length:Int))
    ·simp
    ·exact ih _ _ _
  ·simp only [cond_true]
   cases decide (x23<(x9.length:Int))
   ·simp
   ·exact ih _ _ _

theorem L506_inr(k:Nat)(A x1:List Int)(x2:Int)(x9:List Int)(x41:List (Int×Bool×Int×Int))(x42:Int):∀(n:Nat) (x12:List (List Int)) (x13:List Int) (x43:Int) (r:List Int),spec_cbAround_L506 k n A x1 x2 x9 x12 x13 x41 x42 x43≠some (.inl r)
 | 0,_,_,_,_=>by simp [spec_cbAround_L506]
 | n+1,x12,x13,x43,r=>by
  rw [spec_cbAround_L506.eq_2]
  have ih:=L506_inr k A x1 x2 x9 x41 x42 n
  cases decide (x43<x42)
  ·simp
  cases decide (0≤x43)
  ·simp
  cases decide (x43<(x41.length:Int))
  ·simp
  simp only [cond_true]
  cases spec_cbOffset k (x41.getD (Int.toNat x43) (0,false,0,0)) x1 x2 with
  | none=>simp
  | some r4 =>
   simp only [Option.bind_some]
   cases decide ((r4.length:Int)>0)
   ·exact ih _ _ _ _
   ·simp only [cond_true]
    cases decide (x12.length+([r4]:List (List Int)).length<274877906944)
    ·simp
    simp only [cond_true]
    cases decide (x43<(A.length:Int))
    ·simp
    simp only [cond_true]
    cases decide (x13.length+([(A.getD (Int.toNat x43) 0)]:List Int).length<274877906944)
    ·simp
    ·exact ih _ _ _ _

theorem cbAround_nat(k:Nat){A B:List Int}(hl:A.length=B.length)(hf:∀i:Nat,i<B.length→A.getD i 0=labF A (B.getD i 0))(p:List Int)(n:Int)(c:List (Int×Bool×Int×Int)){r:List Int}
  (h:spec_cbAround k B p n c=some r):spec_cbAround k A p n c=some (r.map (labF A)):=by
 unfold spec_cbAround at h ⊢
 rw [cbAround_L58_nat k A B,both_map]
 cases h1:spec_cbAround_L58 k k B p n c [0,0,0] p p.length 0 with
 | none=>rw [h1]at h;cases h
 | some s1 =>
  rw [h1]at h
  cases s1 with
  | inl r1=>exact absurd h1 (L58_inr k _ _ _ _ _ _ _ _ _ _)
  | inr y2 =>
   have hB:=cbAround_L58_nat k B B p n c p p.length k [0,0,0] 0
   rw [h1]at hB
   have hB:y2.1=B:=by
    simp only [Option.map_some,Sum.map_inr,Option.some.injEq,Sum.inr.injEq]at hB
    rw [hB]
   unfold both at h ⊢
   simp only [Option.bind_some,hB]at h ⊢
   have e0:([]:List Int)=([]:List Int).map (labF A):=rfl
   rw [show spec_cbAround_L506 k k A y2.2.1 y2.2.2.1 y2.2.2.2.2.1 [] [] y2.2.2.2.1 y2.2.2.2.1.length 0=spec_cbAround_L506 k k A y2.2.1 y2.2.2.1 y2.2.2.2.2.1 [] (([]:List Int).map (labF A)) y2.2.2.2.1 y2.2.2.2.1.length 0 from rfl,cbAround_L506_nat k hl hf]
   cases h2:spec_cbAround_L506 k k B y2.2.1 y2.2.2.1 y2.2.2.2.2.1 [] [] y2.2.2.2.1 y2.2.2.2.1.length 0 with
   | none=>rw [h2]at h;cases h
   | some s2 =>
    rw [h2]at h
    cases s2 with
    | inl r2=>exact absurd h2 (L506_inr k _ _ _ _ _ _ _ _ _ _ _)
    | inr y6 =>
     simp only [Option.map_some,Sum.map_inr,Option.bind_some]at h ⊢
     rw [show spec_cbAround_L4090 k k y6.1 y6.2.1 (y6.2.2.1.map (labF A)) [] 0 y6.2.1.length 0=spec_cbAround_L4090 k k y6.1 y6.2.1 (y6.2.2.1.map (labF A)) (([]:List Int).map (labF A)) 0 y6.2.1.length 0 from rfl,cbAround_L4090_nat k (labF A) rfl]
     cases h3:spec_cbAround_L4090 k k y6.1 y6.2.1 y6.2.2.1 [] 0 y6.2.1.length 0 with
     | none=>rw [h3]at h;cases h
     | some s3 =>
      rw [h3]at h
      cases s3 with
      | inl r3=>simp only [Option.bind_some,Option.some.injEq]at h;rw [←h];rfl
      | inr y13=>simp only [Option.bind_some,Option.some.injEq]at h;rw [←h];rfl
end Go.Ev.G

namespace Go.Ev.G
open Go Go.Ev
set_option maxRecDepth 100000

def isLab(a:Int):Prop:=0≤a∧a≤5
def opL(a:Int):Int:=Int.tmod (IntKind.wrap .i64 (a+3)) 6
def triV(a b c:Int):Int:=(impl_countOf a b c).getD 0
theorem isLab_cases{a:Int}(h:isLab a):a=0∨a=1∨a=2∨a=3∨a=4∨a=5:=by unfold isLab at h;omega
theorem opL_op{a:Int}(h:isLab a):opL (opL a)=a:=by
 rcases isLab_cases h with rfl | rfl | rfl | rfl | rfl | rfl <;> rfl
theorem opL_ne{a:Int}(h:isLab a):opL a≠a:=by
 rcases isLab_cases h with rfl | rfl | rfl | rfl | rfl | rfl <;> decide
theorem impl_tri(a b c:Int):impl_countOf a b c=some (triV a b c):=by
 have:∃v,impl_countOf a b c=some v:=by
  unfold impl_countOf both
  cases ((a==0)&&((b==1)&&((c==2)&&true)))
  ·cases ((a==1)&&((b==2)&&((c==0)&&true)))
   ·simp only [cond_false,Option.bind_some]
    cases ((a==2)&&((b==0)&&((c==1)&&true)))
    ·simp only [cond_false]
     cases ((a==0)&&((b==2)&&((c==1)&&true)))
     ·simp only [cond_false]
      cases ((a==2)&&((b==1)&&((c==0)&&true)))
      ·simp only [cond_false]
       cases ((a==1)&&((b==0)&&((c==2)&&true))) <;> exact⟨_,rfl⟩
      ·exact⟨_,rfl⟩
     ·exact⟨_,rfl⟩
    ·exact⟨_,rfl⟩
   ·exact⟨_,rfl⟩
  ·exact⟨_,rfl⟩
 obtain⟨v,hv⟩:=this
 unfold triV
 rw [hv];rfl
theorem tri_all:(List.range 6).map (fun a:Nat=>(List.range 6).map fun b:Nat=>(List.range 6).map fun c:Nat=>spec_cbTriple a b c)=(List.range 6).map (fun a:Nat=>(List.range 6).map fun b:Nat=>(List.range 6).map fun c:Nat=>some (triV a b c)):=by kernel_rfl
theorem spec_tri{a b c:Int}(ha:isLab a)(hb:isLab b)(hc:isLab c):spec_cbTriple a b c=some (triV a b c):=by
 obtain⟨a,rfl⟩:∃m:Nat,a=m:=⟨a.toNat,by unfold isLab at ha;omega⟩
 obtain⟨b,rfl⟩:∃m:Nat,b=m:=⟨b.toNat,by unfold isLab at hb;omega⟩
 obtain⟨c,rfl⟩:∃m:Nat,c=m:=⟨c.toNat,by unfold isLab at hc;omega⟩
 unfold isLab at ha hb hc
 have h1:=List.map_inj_left.1 tri_all a (by rw [List.mem_range];omega)
 have h2:=List.map_inj_left.1 h1 b (by rw [List.mem_range];omega)
 exact List.map_inj_left.1 h2 c (by rw [List.mem_range];omega)

theorem l1Has_ev{L:List Int}(v:Int)(hb:L.length<lenB):Evt (fun k _=>spec_l1Has k L v) (L.contains v):=by
 refine Evt.eq (f:=fun k q=>_) ?_ (fun k q=>by rw [spec_l1Has])
 have key:∀(r d:List Int),d++r=L→Evt (fun k n=>spec_l1Has_L26 k n v L (L.length:Int) d.length) (if r.contains v then .inl true else .inr ()):=by
  intro r
  induction r with
  | nil =>
   intro d h
   rw [List.append_nil]at h
   subst h
   refine Evt.step (fun k n=>spec_l1Has_L26.eq_2 k _ _ _ _ n) ?_
   rw [mid_end]
   exact Evt.cfalse rfl .pure
  | cons e r ih =>
   intro d h
   subst h
   refine Evt.step (fun k n=>spec_l1Has_L26.eq_2 k _ _ _ _ n) (Evt.ctrue mid_lt (Evt.ctrue mid_ge (Evt.ctrue mid_lt ?_)))
   rw [mid_get,List.contains_cons]
   cases he:(e==v)with
   | true =>
    have:(v==e)=true:=by rw [beq_iff_eq]at he ⊢; exact he.symm
    rw [this]
    exact Evt.ctrue rfl .pure
   | false =>
    have:(v==e)=false:=by rw [beq_eq_false_iff_ne]at he ⊢; exact fun h=>he h.symm
    rw [this,Bool.false_or]
    refine Evt.cfalse rfl ?_
    rw [w64_next (by simp at hb;omega)]
    have:=ih (d ++ [e]) (by simp)
    simpa using this
 have:=key L [] rfl
 cases hc:L.contains v with
 | true=>rw [hc]at this;exact Evt.inl (Evt.diag this) .pure
 | false=>rw [hc]at this;exact Evt.inr (Evt.diag this) .pure

theorem contains_find{v:Int}:∀(L:List Int),(match L.findIdx? (fun e=>v==e)with | some _=>true | none=>false)=L.contains v
 | []=>rfl
 | e::L=>by
  rw [List.findIdx?_cons,List.contains_cons]
  cases v==e with
  | true=>rfl
  | false =>
   have:=contains_find (v:=v) L
   simp only [Bool.false_or,←this,if_neg,Bool.false_eq_true]
   cases L.findIdx? (fun e=>v==e) <;> rfl
theorem contains_ev{L:List Int}(v:Int)(hb:L.length<lenB):Evt (fun k _=>slices_Contains_int_int k L v) (L.contains v):=by
 refine Evt.eq (f:=fun k q=>_) ?_ (fun k q=>by rw [slices_Contains_int_int])
 have h0:=index_all (d0:=(0:Int)) (L:=fun k m i=>slices_Index_int_int_L26 k m L v (L.length:Int) i) (xs:=L) (p:=fun _ e=>some (v==e)) (P:=fun e=>v==e) (fun _ _ => .pure) (fun _ _ _=>rfl) hb
 have h1:Evt (fun k _=>slices_Index_int_int k L v) (match L.findIdx? (fun e=>v==e)with | some j=>(j:Int) | none => -1):=by
  refine Evt.eq (f:=fun k q=>_) ?_ (fun k q=>by rw [slices_Index_int_int])
  cases hi:L.findIdx? (fun e=>v==e)with
  | none=>rw [hi]at h0;exact Evt.inr (Evt.diag h0) .pure
  | some j=>rw [hi]at h0;exact Evt.inl (Evt.diag h0) .pure
 refine Evt.bind h1 (.const ?_)
 rw [←contains_find]
 cases L.findIdx? (fun e=>v==e)with
 | none=>rfl
 | some j=>simp

def oppS(L:List Int):Bool:=L.any fun l=>L.contains (opL l)
def oppI:List Int→Bool
 | []=>false
 | l::r=>r.contains (opL l)||oppI r
theorem oppI_iff:∀ {L:List Int},(∀l∈L,isLab l)→(oppI L=true↔∃a∈L,opL a∈L)
 | [],_=>by simp [oppI]
 | l::r,h=>by
  have ih:=oppI_iff (L:=r) fun x hx=>h x (by simp [hx])
  have hl:=h l (by simp)
  simp only [oppI,Bool.or_eq_true,List.contains_iff_mem,ih]
  constructor
  ·rintro(h1 | ⟨a,ha,hb⟩)
   ·exact⟨l,by simp,by simp [h1]⟩
   ·exact⟨a,by simp [ha],by simp [hb]⟩
  ·rintro⟨a,ha,hb⟩
   rcases List.mem_cons.1 ha with rfl | ha
   ·rcases List.mem_cons.1 hb with hb | hb
    ·exact absurd hb (opL_ne hl)
    ·exact .inl hb
   ·rcases List.mem_cons.1 hb with hb | hb
    ·refine .inl ?_
     rw [←hb,opL_op (h a (by simp [ha]))]
     exact ha
    ·exact .inr ⟨a,ha,hb⟩
theorem opp_eq{L:List Int}(h:∀l∈L,isLab l):oppS L=oppI L:=by
 rw [Bool.eq_iff_iff,oppI_iff h]
 simp [oppS]

def sumL(a:Int):Int→List Int→Int→Int
 | _,[],s=>s
 | p,c::cs,s=>sumL a c cs (IntKind.wrap .i64 (s+triV a p c))
def sumC:List Int→Int→Int
 | a::b::cs,s=>sumL a b cs s
 | _,s=>s
theorem sumC_cases:∀(L:List Int),(L.length≤1∧∀s,sumC L s=s)∨∃a b cs,L=a::b::cs∧∀s,sumC L s=sumL a b cs s
 | [] => .inl ⟨by simp,fun _=>rfl⟩
 | [_] => .inl ⟨by simp,fun _=>rfl⟩
 | a::b::cs => .inr ⟨a,b,cs,rfl,fun _=>rfl⟩

section
variable {x0 : List Int} {x6 : Int} {x7 : List (Int × Bool × Int × Int)} {x9 x10 x11 : Int}
theorem specSum_ev{L:List Int}(hL:∀l∈L,isLab l)(hb:L.length<lenB)(x8:Int) :
  Evt (fun k n=>spec_cbDegree_L524887198 k n x0 x6 x7 x8 x9 x10 x11 L 2) (.inr (x0,x6,x7,sumC L x8,x9,x10,x11,())):=by
 have stop:∀(i x8:Int),(L.length:Int)≤i→Evt (fun k n=>spec_cbDegree_L524887198 k n x0 x6 x7 x8 x9 x10 x11 L i) (.inr (x0,x6,x7,x8,x9,x10,x11,())):=fun i x8 h =>
  Evt.step (fun k n=>spec_cbDegree_L524887198.eq_2 k _ _ _ _ _ _ _ _ _ n) (Evt.cfalse (decide_eq_false (by omega)) .pure)
 rcases sumC_cases L with ⟨h1,h2⟩ | ⟨a,b,cs,hL2,h2⟩
 ·rw [h2]
  exact stop 2 x8 (by omega)
 ·rw [h2]
  have key:∀(cs d:List Int) (p x8:Int),L=a::(d++p::cs)→Evt (fun k n=>spec_cbDegree_L524887198 k n x0 x6 x7 x8 x9 x10 x11 L ((d.length+2:Nat):Int)) (.inr (x0,x6,x7,sumL a p cs x8,x9,x10,x11,())):=by
   intro cs
   induction cs with
   | nil=>intro d p x8 h;exact stop _ _ (by rw [h];simp;omega)
   | cons c cs ih =>
    intro d p x8 h
    have hlen:L.length=d.length+3+cs.length:=by rw [h];simp;omega
    refine Evt.step (fun k n=>spec_cbDegree_L524887198.eq_2 k _ _ _ _ _ _ _ _ _ n) ?_
    have w:IntKind.wrap .i64 (((d.length+2:Nat):Int) - 1)=((d.length+1:Nat):Int):=by rw [w64] <;> simp only [lenB]at hb <;> omega
    rw [w]
    refine Evt.ctrue (decide_eq_true (by omega)) (Evt.ctrue (decide_eq_true (by omega)) (Evt.ctrue (decide_eq_true (by omega)) (Evt.ctrue (decide_eq_true (by omega)) (Evt.ctrue (decide_eq_true (by omega)) (Evt.ctrue (decide_eq_true (by omega)) ?_)))))
    have g0:L.getD 0 0=a:=by rw [h];rfl
    have g1:L.getD (Int.toNat ((d.length+1:Nat):Int)) 0=p:=by rw [h];simp
    have g2:L.getD (Int.toNat ((d.length+2:Nat):Int)) 0=c:=by rw [h,Int.toNat_natCast];simp
    rw [g0,g1,g2]
    refine Evt.bind (.const (spec_tri (hL a (by rw [h];simp)) (hL p (by rw [h];simp)) (hL c (by rw [h];simp)))) ?_
    rw [w64_next (by simp only [lenB]at hb ⊢; omega)]
    have:=ih (d ++ [p]) c (IntKind.wrap .i64 (x8+triV a p c)) (by rw [h];simp)
    simp only [List.length_append,List.length_cons,List.length_nil,Nat.zero_add]at this
    rw [show d.length+1+2=d.length+2+1 by omega]at this
    exact this
  exact key cs [] b x8 hL2
theorem specOpp_ev{L:List Int}(hb:L.length<lenB)(x8:Int) :
  Evt (fun k n=>spec_cbDegree_L524887194 k n x0 x6 x7 x8 x9 x10 x11 L L (L.length:Int) 0) (if oppS L then .inl (0,false)else .inr (x0,x6,x7,x8,x9,x10,x11,L,())):=by
 have key:∀(r d:List Int),d++r=L→Evt (fun k n=>spec_cbDegree_L524887194 k n x0 x6 x7 x8 x9 x10 x11 L L (L.length:Int) d.length) (if (r.any fun l=>L.contains (opL l))then .inl (0,false)else .inr (x0,x6,x7,x8,x9,x10,x11,L,())):=by
  intro r
  induction r with
  | nil =>
   intro d h
   rw [List.append_nil]at h
   subst h
   refine Evt.step (fun k n=>spec_cbDegree_L524887194.eq_2 k _ _ _ _ _ _ _ _ _ _ _ n) ?_
   rw [mid_end]
   exact Evt.cfalse rfl .pure
  | cons e r ih =>
   intro d h
   refine Evt.step (fun k n=>spec_cbDegree_L524887194.eq_2 k _ _ _ _ _ _ _ _ _ _ _ n) ?_
   have h1:decide ((d.length:Int)<(L.length:Int))=true:=by rw [←h];exact mid_lt
   have h2:L.getD (Int.toNat (d.length:Int)) 0=e:=by rw [←h];exact mid_get
   refine Evt.ctrue h1 (Evt.ctrue mid_ge (Evt.ctrue h1 ?_))
   rw [h2]
   refine Evt.bind (l1Has_ev _ hb) ?_
   rw [List.any_cons]
   show Evt (fun k n=>bif L.contains (opL e)then _ else _) _
   cases L.contains (opL e)with
   | true=>exact Evt.ctrue rfl .pure
   | false =>
    refine Evt.cfalse rfl ?_
    rw [w64_next (by rw [←h]at hb;simp at hb;omega),Bool.false_or]
    have:=ih (d ++ [e]) (by simpa using h)
    simpa using this
 exact key L [] rfl
end

section
variable {x0 : List Int} {x1 x6 : Int} {x6' : List (Int × Bool × Int × Int)} {x7 x9 x10 x23 x24 x28 x29 x33 x34 : Int}
theorem implSum_ev{L:List Int}(hb:L.length<lenB)(x8:Int) :
  Evt (fun k n=>impl_degreeOfLabels_L7838315326 k n x0 x1 x6' x7 x8 x9 x10 L 2 x23 x24 x28 x29 x33 x34) (.inr (x0,x1,x6',x7,sumC L x8,x9,x10,x23,x24,x28,x29,x33,x34,())):=by
 have stop:∀(i x8:Int),(L.length:Int)≤i→Evt (fun k n=>impl_degreeOfLabels_L7838315326 k n x0 x1 x6' x7 x8 x9 x10 L i x23 x24 x28 x29 x33 x34) (.inr (x0,x1,x6',x7,x8,x9,x10,x23,x24,x28,x29,x33,x34,())):=fun i x8 h =>
  Evt.step (fun k n=>impl_degreeOfLabels_L7838315326.eq_2 k _ _ _ _ _ _ _ _ _ _ _ _ _ _ _ n) (Evt.cfalse (decide_eq_false (by omega)) .pure)
 rcases sumC_cases L with ⟨h1,h2⟩ | ⟨a,b,cs,hL2,h2⟩
 ·rw [h2]
  exact stop 2 x8 (by omega)
 ·rw [h2]
  have key:∀(cs d:List Int) (p x8:Int),L=a::(d++p::cs)→Evt (fun k n=>impl_degreeOfLabels_L7838315326 k n x0 x1 x6' x7 x8 x9 x10 L ((d.length+2:Nat):Int) x23 x24 x28 x29 x33 x34) (.inr (x0,x1,x6',x7,sumL a p cs x8,x9,x10,x23,x24,x28,x29,x33,x34,())):=by
   intro cs
   induction cs with
   | nil=>intro d p x8 h;exact stop _ _ (by rw [h];simp;omega)
   | cons c cs ih =>
    intro d p x8 h
    have hlen:L.length=d.length+3+cs.length:=by rw [h];simp;omega
    refine Evt.step (fun k n=>impl_degreeOfLabels_L7838315326.eq_2 k _ _ _ _ _ _ _ _ _ _ _ _ _ _ _ n) ?_
    have w:IntKind.wrap .i64 (((d.length+2:Nat):Int) - 1)=((d.length+1:Nat):Int):=by rw [w64] <;> simp only [lenB]at hb <;> omega
    rw [w]
    refine Evt.ctrue (decide_eq_true (by omega)) (Evt.ctrue (decide_eq_true (by omega)) (Evt.ctrue (decide_eq_true (by omega)) (Evt.ctrue (decide_eq_true (by omega)) (Evt.ctrue (decide_eq_true (by omega)) (Evt.ctrue (decide_eq_true (by omega)) ?_)))))
    have g0:L.getD 0 0=a:=by rw [h];rfl
    have g1:L.getD (Int.toNat ((d.length+1:Nat):Int)) 0=p:=by rw [h];simp
    have g2:L.getD (Int.toNat ((d.length+2:Nat):Int)) 0=c:=by rw [h,Int.toNat_natCast];simp
    rw [g0,g1,g2]
    refine Evt.bind (.const (impl_tri a p c)) ?_
    rw [w64_next (by simp only [lenB]at hb ⊢; omega)]
    have:=ih (d ++ [p]) c (IntKind.wrap .i64 (x8+triV a p c)) (by rw [h];simp)
    simp only [List.length_append,List.length_cons,List.length_nil,Nat.zero_add]at this
    rw [show d.length+1+2=d.length+2+1 by omega]at this
    exact this
  exact key cs [] b x8 hL2
theorem implOpp_ev{L:List Int}(hb:L.length<lenB)(x8:Int) :
  Evt (fun k n=>impl_degreeOfLabels_L7838315322 k n x0 x1 x6' x7 x8 x9 x10 L x23 x24 x28 x29 x33 x34 L (L.length:Int) 0) (if oppI L then .inl (0,false)else .inr (x0,x1,x6',x7,x8,x9,x10,L,x23,x24,x28,x29,x33,x34,())):=by
 have key:∀(r d:List Int),d++r=L→Evt (fun k n=>impl_degreeOfLabels_L7838315322 k n x0 x1 x6' x7 x8 x9 x10 L x23 x24 x28 x29 x33 x34 L (L.length:Int) d.length) (if oppI r then .inl (0,false)else .inr (x0,x1,x6',x7,x8,x9,x10,L,x23,x24,x28,x29,x33,x34,())):=by
  intro r
  induction r with
  | nil =>
   intro d h
   rw [List.append_nil]at h
   subst h
   refine Evt.step (fun k n=>impl_degreeOfLabels_L7838315322.eq_2 k _ _ _ _ _ _ _ _ _ _ _ _ _ _ _ _ _ n) ?_
   rw [mid_end]
   exact Evt.cfalse rfl .pure
  | cons e r ih =>
   intro d h
   refine Evt.step (fun k n=>impl_degreeOfLabels_L7838315322.eq_2 k _ _ _ _ _ _ _ _ _ _ _ _ _ _ _ _ _ n) ?_
   have h1:decide ((d.length:Int)<(L.length:Int))=true:=by rw [←h];exact mid_lt
   have h2:L.getD (Int.toNat (d.length:Int)) 0=e:=by rw [←h];exact mid_get
   have hlen:L.length=d.length+1+r.length:=by rw [←h];simp;omega
   have w:IntKind.wrap .i64 ((d.length:Int)+1)=((d.length+1:Nat):Int):=w64_next (by omega)
   rw [w]
   refine Evt.ctrue h1 (Evt.ctrue mid_ge (Evt.ctrue h1 (Evt.ctrue mid_ge (Evt.ctrue (decide_eq_true (by omega)) ?_))))
   rw [h2]
   have hd:(L.take (Int.toNat (L.length:Int))).drop (Int.toNat ((d.length+1:Nat):Int))=r:=by
    rw [Int.toNat_natCast,Int.toNat_natCast,List.take_length,←h,show d.length+1=(d ++ [e]).length by simp,show d++e::r=(d ++ [e])++r by simp,List.drop_left]
   rw [hd]
   refine Evt.bind (contains_ev _ (by omega)) ?_
   show Evt (fun k n=>bif r.contains (opL e)then _ else _) (if (r.contains (opL e)||oppI r)=true then _ else _)
   cases r.contains (opL e)with
   | true=>exact Evt.ctrue rfl .pure
   | false =>
    refine Evt.cfalse rfl ?_
    rw [Bool.false_or]
    have:=ih (d ++ [e]) (by simpa using h)
    simpa using this
 exact key L [] rfl
theorem implMet_ev(f:Int→Int)(hf:∀i,f i=labF x0 i){o:List Int}(ho:∀i∈o,0≤i∧i<x0.length)(hb:o.length<274877906944)(x8:Int) :
  Evt (fun k n=>impl_degreeOfLabels_L3919157658 k n x0 x1 x6' x7 x8 x9 x10 [] x23 x24 x28 x29 x33 x34 o (o.length:Int) 0) (.inr (x0,x1,x6',x7,x8,x9,x10,o.map f,x23,x24,x28,x29,x33,x34,())):=by
 have key:∀(r d:List Int),d++r=o→Evt (fun k n=>impl_degreeOfLabels_L3919157658 k n x0 x1 x6' x7 x8 x9 x10 (d.map f) x23 x24 x28 x29 x33 x34 o (o.length:Int) d.length) (.inr (x0,x1,x6',x7,x8,x9,x10,o.map f,x23,x24,x28,x29,x33,x34,())):=by
  intro r
  induction r with
  | nil =>
   intro d h
   rw [List.append_nil]at h
   subst h
   refine Evt.step (fun k n=>impl_degreeOfLabels_L3919157658.eq_2 k _ _ _ _ _ _ _ _ _ _ _ _ _ _ _ _ _ n) ?_
   rw [mid_end]
   exact Evt.cfalse rfl .pure
  | cons e r ih =>
   intro d h
   refine Evt.step (fun k n=>impl_degreeOfLabels_L3919157658.eq_2 k _ _ _ _ _ _ _ _ _ _ _ _ _ _ _ _ _ n) ?_
   have h1:decide ((d.length:Int)<(o.length:Int))=true:=by rw [←h];exact mid_lt
   have h2:o.getD (Int.toNat (d.length:Int)) 0=e:=by rw [←h];exact mid_get
   have hlen:o.length=d.length+1+r.length:=by rw [←h];simp;omega
   have he:=ho e (by rw [←h];simp)
   rw [h2]
   refine Evt.ctrue h1 (Evt.ctrue mid_ge (Evt.ctrue h1 (Evt.ctrue (decide_eq_true he.1) (Evt.ctrue (decide_eq_true he.2) (Evt.ctrue (decide_eq_true (by simp;omega)) ?_)))))
   rw [w64_next (by simp only [lenB];omega)]
   have:=ih (d ++ [e]) (by simpa using h)
   rw [List.map_append,List.map_singleton,hf]at this
   simpa [labF] using this
 exact key o [] rfl
end
end Go.Ev.G

namespace Go.Ev.G
open Go Go.Ev
set_option maxRecDepth 100000

def clV(s:List (List Tm))(b:Bx)(d:Int)(c:Cl):Int×Bool:=if cubeV s b&&cellV d c then(match lbl s b d.toNat c with | some j=>((j:Int),true) | none=>(0,false))else(0,false)
theorem spec_cellLabel_ev{s:List (List Tm)}{b:Bx}{d:Int}{c:Cl}(hb:s.length<lenB)(hm:∀r∈s,r.length<lenB)(hx:b.2.1.length<lenB):Evt (fun k _=>spec_CellLabel k s b d c) (clV s b d c):=by
 refine Evt.eq (f:=fun k q=>_) ?_ (fun k q=>by rw [spec_CellLabel])
 refine specC_ask hb hm hx (fun h => ?_) (fun h => ?_)
 ·unfold askC at h
  unfold clV
  cases hc:cubeV s b with
  | false=>rfl
  | true =>
   rw [hc,Bool.true_and]at h
   unfold cellV
   rw [h];rfl
 ·obtain⟨n,rfl,hn,hs,hbb⟩:=askC_form h hm
  have hcu:cubeV s b=true:=by unfold askC at h;rw [Bool.and_eq_true]at h;exact h.1
  refine Evt.bind (.const (cbCell_eq hn c)) ?_
  unfold clV
  rw [hcu,Bool.true_and]
  cases hc:cellV n c with
  | false=>exact Evt.ctrue rfl .pure
  | true=>exact Evt.cfalse rfl (Evt.bind (cbSidesB_ev hbb hc) (Evt.bind (cbLabel_ev hs hbb hc) .pure))
theorem impl_cellLabel_ev{s:List (List Tm)}{b:Bx}{d:Int}{c:Cl}(hb:s.length<lenB)(hm:∀r∈s,r.length<lenB)(hx:b.2.1.length<lenB):Evt (fun k _=>impl_CellLabel k s b d c) (clV s b d c):=by
 refine Evt.eq (f:=fun k q=>_) ?_ (fun k q=>by rw [impl_CellLabel])
 refine Evt.bind (isCube_ev hb hm hx) ?_
 unfold clV
 cases hcu:cubeV s b with
 | false=>exact Evt.ctrue rfl .pure
 | true =>
  refine Evt.cfalse rfl (Evt.bind (.const (isCell_eq d c)) ?_)
  rw [Bool.true_and]
  cases hc:cellV d c with
  | false=>exact Evt.ctrue rfl .pure
  | true =>
   obtain⟨hs,hbb⟩:=cubeV_form hcu hm
   obtain⟨n,rfl,_⟩:=cellV_form hc
   refine Evt.cfalse rfl (Evt.bind (cellLabel_ev hs hbb hc) ?_)
   simp only [Int.toNat_natCast,if_true]
   cases lbl s b n c with
   | none=>exact .pure
   | some j =>
    simp only
    rw [if_neg (by omega),decide_eq_true (by omega)]
    exact .pure
theorem lbsV_len{s:List (List Tm)}{b:Bx}{n:Nat}(hn:n≤2):(lbsV s b n).1.length≤96∧((lbsV s b n).2=true↔(lbsV s b n).1.length=(cellsV (2 ^ n)).length):=by
 have hc:=cellsV_len hn
 have h:=colV_len (f:=lbl s b n) (cellsV (2 ^ n))
 unfold lbsV
 exact⟨by omega,h.2⟩
end Go.Ev.G

namespace Go.Ev.G
open Go Go.Ev
set_option maxRecDepth 100000

def cornV(L:List Int)(s:Int):Option Int:=if oppI L then none else some (sumC L s)
def runN(g:Nat→Int→Option Int):Nat→Nat→Int→Option Int
 | 0,_,s=>some s
 | m+1,i,s=>(g i s).bind fun s=>runN g m (i+1) s
def Lof(A:List Int)(d x y z:Nat):List Int:=(ordV d (2 ^ d) ((x:Int),(y:Int),(z:Int))).map (labF A)
def gz(A:List Int)(d x y z:Nat)(s:Int):Option Int:=cornV (Lof A d x y z) s
def gy(A:List Int)(d x y:Nat)(s:Int):Option Int:=runN (gz A d x y) (2 ^ d+1) 0 s
def gx(A:List Int)(d x:Nat)(s:Int):Option Int:=runN (gy A d x) (2 ^ d+1) 0 s
def dgLV(A:List Int)(d:Nat):Int×Bool:=match runN (gx A d) (2 ^ d+1) 0 0 with
 | some s=>(s,true)
 | none=>(0,false)

structure LabOk(A:List Int)(d:Nat):Prop where
 hd:d≤2
 len:A.length=6*2 ^ d*2 ^ d
 lab:∀l∈A,isLab l
theorem LabOk.small{A:List Int}{d:Nat}(h:LabOk A d):A.length≤96:=by
 have:=h.len
 have hd:=h.hd
 rcases(by omega:d=0∨d=1∨d=2)with rfl | rfl | rfl <;> simp at this <;> omega
theorem LabOk.n{A:List Int}{d:Nat}(h:LabOk A d):1≤2 ^ d∧2 ^ d≤4:=by
 have hd:=h.hd
 rcases(by omega:d=0∨d=1∨d=2)with rfl | rfl | rfl <;> decide
theorem LabOk.inb{A:List Int}{d x y z:Nat}(h:LabOk A d)(hx:x≤2 ^ d)(hy:y≤2 ^ d)(hz:z≤2 ^ d):InB d x y z:=⟨h.hd,by omega,by omega,by omega,by omega,by omega,by omega⟩
theorem LabOk.lof{A:List Int}{d x y z:Nat}(h:LabOk A d)(hx:x≤2 ^ d)(hy:y≤2 ^ d)(hz:z≤2 ^ d):∀l∈Lof A d x y z,isLab l:=by
 intro l hl
 unfold Lof at hl
 obtain⟨i,hi,rfl⟩:=List.mem_map.1 hl
 have hb:=ord_bnd (h.inb hx hy hz) i hi
 unfold labF
 have hlt:i.toNat<A.length:=by rw [h.len];omega
 rw [List.getD_eq_getElem?_getD,List.getElem?_eq_getElem hlt]
 exact h.lab _ (List.getElem_mem hlt)
theorem idx_getD{n i:Nat}(h:i<(idxV n).length):(idxV n).getD i 0=i:=by
 unfold idxV at *
 simp only [List.length_map,List.length_range]at h
 simp [List.getD_eq_getElem?_getD,h]
theorem spec_around_ev{A:List Int}{d x y z:Nat}(h:LabOk A d)(hx:x≤2 ^ d)(hy:y≤2 ^ d)(hz:z≤2 ^ d)(hin:inner (2 ^ d) ((x:Int),(y:Int),(z:Int))=false) :
  Evt (fun k _=>spec_cbAround k A [(x:Int),(y:Int),(z:Int)] ((2 ^ d:Nat):Int) (cellsV (2 ^ d))) (Lof A d x y z):=by
 refine evt_100 fun k => ?_
 have hs:=saround_ord (h.inb hx hy hz) k
 rw [hin,cond_false]at hs
 have hl:A.length=(idxV (2 ^ d)).length:=by rw [h.len];simp [idxV]
 exact cbAround_nat (k+100) hl (fun i hi=>by unfold labF;rw [idx_getD hi,Int.toNat_natCast]) _ _ _ hs
theorem impl_around_ev{A:List Int}{d x y z:Nat}(h:LabOk A d)(hx:x≤2 ^ d)(hy:y≤2 ^ d)(hz:z≤2 ^ d) :
  Evt (fun k _=>impl_around k (cellsV (2 ^ d)) d ((x:Int),(y:Int),(z:Int))) (ordV d (2 ^ d) ((x:Int),(y:Int),(z:Int))):=evt_100 fun k=>around_ord (h.inb hx hy hz) k
theorem inner_nil{A:List Int}{d x y z:Nat}(h:LabOk A d)(hx:x≤2 ^ d)(hy:y≤2 ^ d)(hz:z≤2 ^ d)(hin:inner (2 ^ d) ((x:Int),(y:Int),(z:Int))=true):Lof A d x y z = []:=by
 have hs:=saround_ord (h.inb hx hy hz) 0
 rw [hin,cond_true]at hs
 unfold Lof
 rw [←Option.some.inj hs];rfl

theorem specZ_ev{A:List Int}{d x y:Nat}(h:LabOk A d)(hx:x≤2 ^ d)(hy:y≤2 ^ d):∀(m i:Nat),i+m=2 ^ d+1→∀s:Int,
  Evt (fun k n=>spec_cbDegree_L1025170 k n A ((2 ^ d:Nat):Int) (cellsV (2 ^ d)) s x y i) (match runN (gz A d x y) m i s with | some s' => .inr (A,((2 ^ d:Nat):Int),cellsV (2 ^ d),s',(x:Int),(y:Int),()) | none => .inl (0,false))
 | 0,i,hi,s=>by
  have hn:=h.n
  exact Evt.step (fun k n=>spec_cbDegree_L1025170.eq_2 k _ _ _ _ _ _ _ n) (Evt.cfalse (decide_eq_false (by omega)) .pure)
 | m+1,i,hi,s=>by
  have hn:=h.n
  have hz:i≤2 ^ d:=by omega
  have w:IntKind.wrap .i64 ((i:Int)+1)=((i+1:Nat):Int):=w64_next (by simp only [lenB];omega)
  have hlen:(Lof A d x y i).length<274877906944:=by
   have:=ordV_len (h.inb hx hy hz)
   unfold Lof
   rw [List.length_map];omega
  refine Evt.step (fun k n=>spec_cbDegree_L1025170.eq_2 k _ _ _ _ _ _ _ n) (Evt.ctrue (decide_eq_true (by omega)) ?_)
  have h0:(((2 ^ d:Nat):Int)==0)=false:=by rw [beq_eq_false_iff_ne];omega
  rw [w]
  have ih:=specZ_ev h hx hy m (i+1) (by omega)
  have body:inner (2 ^ d) ((x:Int),(y:Int),(i:Int))=false→Evt (fun k n=>(Option.bind (spec_cbAround k A ([(x:Int),(y:Int),(i:Int)]:List Int) ((2 ^ d:Nat):Int) (cellsV (2 ^ d))) fun r3=>(both (R:=Int×Bool) (P:=(List Int)×Int×(List (Int×Bool×Int×Int))×Int×Int×Int×Int×(List Int)×Unit) (spec_cbDegree_L524887194 k k A ((2 ^ d:Nat):Int) (cellsV (2 ^ d)) s x y i r3 r3 (r3.length:Int) 0) (fun q7=>some (Sum.inl q7)) (fun y6=>(both (R:=Int×Bool) (P:=(List Int)×Int×(List (Int×Bool×Int×Int))×Int×Int×Int×Int×Unit) (spec_cbDegree_L524887198 k k y6.1 y6.2.1 y6.2.2.1 y6.2.2.2.1 y6.2.2.2.2.1 y6.2.2.2.2.2.1 y6.2.2.2.2.2.2.1 y6.2.2.2.2.2.2.2.1 2) (fun q11=>some (Sum.inl q11)) (fun y10=>(spec_cbDegree_L1025170 k n y10.1 y10.2.1 y10.2.2.1 y10.2.2.2.1 y10.2.2.2.2.1 y10.2.2.2.2.2.1 (IntKind.wrap .i64 (y10.2.2.2.2.2.2.1+1)))))))))
    (match runN (gz A d x y) (m+1) i s with | some s' => .inr (A,((2 ^ d:Nat):Int),cellsV (2 ^ d),s',(x:Int),(y:Int),()) | none => .inl (0,false)):=by
   intro hin
   refine Evt.bind (spec_around_ev h hx hy hz hin) ?_
   have ho:=specOpp_ev (x0:=A) (x6:=((2 ^ d:Nat):Int)) (x7:=cellsV (2 ^ d)) (x9:=x) (x10:=y) (x11:=i) (L:=Lof A d x y i) (by simp only [lenB];omega) s
   rw [opp_eq (h.lof hx hy hz)]at ho
   show Evt _ (match ((gz A d x y i s).bind fun s=>runN (gz A d x y) m (i+1) s)with | some s'=>_ | none=>_)
   unfold gz cornV
   cases hO:oppI (Lof A d x y i)with
   | true =>
    rw [hO,if_pos rfl]at ho
    rw [if_pos rfl]
    exact Evt.inl (Evt.diag ho) .pure
   | false =>
    rw [hO,if_neg (by simp)]at ho
    rw [if_neg (by simp)]
    refine Evt.inr (Evt.diag ho) (Evt.inr (Evt.diag (specSum_ev (h.lof hx hy hz) (by simp only [lenB];omega) s)) ?_)
    simp only [w]
    exact ih _
  cases h1:(Int.tmod (x:Int) ((2 ^ d:Nat):Int) != 0)with
  | false=>exact Evt.cfalse h0 (Evt.cfalse rfl (body (by unfold inner;simp only;rw [h1];rfl)))
  | true =>
   refine Evt.cfalse h0 (Evt.ctrue rfl ?_)
   cases h2:(Int.tmod (y:Int) ((2 ^ d:Nat):Int) != 0)with
   | false=>exact Evt.cfalse h0 (Evt.cfalse rfl (body (by unfold inner;simp only;rw [h1,h2];rfl)))
   | true =>
    refine Evt.cfalse h0 (Evt.ctrue rfl ?_)
    cases h3:(Int.tmod (i:Int) ((2 ^ d:Nat):Int) != 0)with
    | false=>exact Evt.cfalse h0 (Evt.cfalse rfl (body (by unfold inner;simp only;rw [h1,h2,h3];rfl)))
    | true =>
     refine Evt.cfalse h0 (Evt.ctrue rfl ?_)
     have hnil:=inner_nil h hx hy hz (by unfold inner;simp only;rw [h1,h2,h3];rfl)
     show Evt _ (match ((gz A d x y i s).bind fun s=>runN (gz A d x y) m (i+1) s)with | some s'=>_ | none=>_)
     unfold gz cornV
     rw [hnil]
     exact ih s
theorem specY_ev{A:List Int}{d x:Nat}(h:LabOk A d)(hx:x≤2 ^ d):∀(m i:Nat),i+m=2 ^ d+1→∀s:Int,
  Evt (fun k n=>spec_cbDegree_L16018 k n A ((2 ^ d:Nat):Int) (cellsV (2 ^ d)) s x i) (match runN (gy A d x) m i s with | some s' => .inr (A,((2 ^ d:Nat):Int),cellsV (2 ^ d),s',(x:Int),()) | none => .inl (0,false))
 | 0,i,hi,s=>by
  have hn:=h.n
  exact Evt.step (fun k n=>spec_cbDegree_L16018.eq_2 k _ _ _ _ _ _ n) (Evt.cfalse (decide_eq_false (by omega)) .pure)
 | m+1,i,hi,s=>by
  have hn:=h.n
  have hz:i≤2 ^ d:=by omega
  have w:IntKind.wrap .i64 ((i:Int)+1)=((i+1:Nat):Int):=w64_next (by simp only [lenB];omega)
  refine Evt.step (fun k n=>spec_cbDegree_L16018.eq_2 k _ _ _ _ _ _ n) (Evt.ctrue (decide_eq_true (by omega)) ?_)
  have ih:=specY_ev h hx m (i+1) (by omega)
  have hZ:=specZ_ev h hx hz (2 ^ d+1) 0 (by omega) s
  show Evt _ (match ((gy A d x i s).bind fun s=>runN (gy A d x) m (i+1) s)with | some s'=>_ | none=>_)
  unfold gy at *
  cases hr:runN (gz A d x i) (2 ^ d+1) 0 s with
  | none =>
   rw [hr]at hZ
   exact Evt.inl (Evt.diag hZ) .pure
  | some s' =>
   rw [hr]at hZ
   refine Evt.inr (Evt.diag hZ) ?_
   simp only [w]
   exact ih s'
theorem specX_ev{A:List Int}{d:Nat}(h:LabOk A d):∀(m i:Nat),i+m=2 ^ d+1→∀s:Int,
  Evt (fun k n=>spec_cbDegree_L250 k n A ((2 ^ d:Nat):Int) (cellsV (2 ^ d)) s i) (match runN (gx A d) m i s with | some s' => .inr (s',()) | none => .inl (0,false))
 | 0,i,hi,s=>by
  have hn:=h.n
  exact Evt.step (fun k n=>spec_cbDegree_L250.eq_2 k _ _ _ _ _ n) (Evt.cfalse (decide_eq_false (by omega)) .pure)
 | m+1,i,hi,s=>by
  have hn:=h.n
  have hz:i≤2 ^ d:=by omega
  have w:IntKind.wrap .i64 ((i:Int)+1)=((i+1:Nat):Int):=w64_next (by simp only [lenB];omega)
  refine Evt.step (fun k n=>spec_cbDegree_L250.eq_2 k _ _ _ _ _ n) (Evt.ctrue (decide_eq_true (by omega)) ?_)
  have ih:=specX_ev h m (i+1) (by omega)
  have hZ:=specY_ev h hz (2 ^ d+1) 0 (by omega) s
  show Evt _ (match ((gx A d i s).bind fun s=>runN (gx A d) m (i+1) s)with | some s'=>_ | none=>_)
  unfold gx at *
  cases hr:runN (gy A d i) (2 ^ d+1) 0 s with
  | none =>
   rw [hr]at hZ
   exact Evt.inl (Evt.diag hZ) .pure
  | some s' =>
   rw [hr]at hZ
   refine Evt.inr (Evt.diag hZ) ?_
   simp only [w]
   exact ih s'
theorem cbDegree_ev{A:List Int}{d:Nat}(h:LabOk A d):Evt (fun k _=>spec_cbDegree k A d) (dgLV A d):=by
 refine Evt.eq (f:=fun k q=>_) ?_ (fun k q=>by rw [spec_cbDegree])
 have hd:=h.hd
 refine Evt.bind (.const (dyPower_eq (by omega))) (Evt.bind (cbCells_ev hd) ?_)
 have hX:=specX_ev h (2 ^ d+1) 0 (by omega) 0
 unfold dgLV
 cases hr:runN (gx A d) (2 ^ d+1) 0 0 with
 | none=>rw [hr]at hX;exact Evt.inl (Evt.diag hX) .pure
 | some s=>rw [hr]at hX;exact Evt.inr (Evt.diag hX) .pure

theorem implZ_ev{A:List Int}{d x y:Nat}(h:LabOk A d)(hx:x≤2 ^ d)(hy:y≤2 ^ d){x23 x28:Int}:∀(m i:Nat),i+m=2 ^ d+1→∀s:Int,
  Evt (fun k n=>impl_degreeOfLabels_L3827302 k n A d (cellsV (2 ^ d)) ((2 ^ d:Nat):Int) s x y x23 x x28 y ((2 ^ d+1:Nat):Int) i) (match runN (gz A d x y) m i s with | some s' => .inr (A,(d:Int),cellsV (2 ^ d),((2 ^ d:Nat):Int),s',(x:Int),x23,(x:Int),x28,(y:Int),()) | none => .inl (0,false))
 | 0,i,hi,s=>by
  have hn:=h.n
  exact Evt.step (fun k n=>impl_degreeOfLabels_L3827302.eq_2 k _ _ _ _ _ _ _ _ _ _ _ _ _ n) (Evt.cfalse (decide_eq_false (by omega)) .pure)
 | m+1,i,hi,s=>by
  have hn:=h.n
  have hz:i≤2 ^ d:=by omega
  have w:IntKind.wrap .i64 ((i:Int)+1)=((i+1:Nat):Int):=w64_next (by simp only [lenB];omega)
  have hol:=ordV_len (h.inb hx hy hz)
  have hlen:(Lof A d x y i).length<274877906944:=by unfold Lof;rw [List.length_map];omega
  refine Evt.step (fun k n=>impl_degreeOfLabels_L3827302.eq_2 k _ _ _ _ _ _ _ _ _ _ _ _ _ n) (Evt.ctrue (decide_eq_true (by omega)) ?_)
  have ih:=implZ_ev h hx hy (x23:=x23) (x28:=x28) m (i+1) (by omega)
  refine Evt.bind (impl_around_ev h hx hy hz) ?_
  have hm:=implMet_ev (x0:=A) (x1:=d) (x6':=cellsV (2 ^ d)) (x7:=((2 ^ d:Nat):Int)) (x9:=x) (x10:=y) (x23:=x23) (x24:=x) (x28:=x28) (x29:=y) (x33:=((2 ^ d+1:Nat):Int)) (x34:=i) (labF A) (fun _=>rfl) (o:=ordV d (2 ^ d) ((x:Int),(y:Int),(i:Int)))
   (fun j hj=>by have:=ord_bnd (h.inb hx hy hz) j hj;rw [h.len];exact this) (by omega) s
  refine Evt.inr (Evt.diag hm) ?_
  have ho:=implOpp_ev (x0:=A) (x1:=d) (x6':=cellsV (2 ^ d)) (x7:=((2 ^ d:Nat):Int)) (x9:=x) (x10:=y) (x23:=x23) (x24:=x) (x28:=x28) (x29:=y) (x33:=((2 ^ d+1:Nat):Int)) (x34:=i) (L:=Lof A d x y i) (by simp only [lenB];omega) s
  have hsm:=implSum_ev (x0:=A) (x1:=d) (x6':=cellsV (2 ^ d)) (x7:=((2 ^ d:Nat):Int)) (x9:=x) (x10:=y) (x23:=x23) (x24:=x) (x28:=x28) (x29:=y) (x33:=((2 ^ d+1:Nat):Int)) (x34:=i) (L:=Lof A d x y i) (by simp only [lenB];omega) s
  show Evt _ (match ((gz A d x y i s).bind fun s=>runN (gz A d x y) m (i+1) s)with | some s'=>_ | none=>_)
  unfold gz cornV
  cases hO:oppI (Lof A d x y i)with
  | true =>
   rw [hO,if_pos rfl]at ho
   rw [if_pos rfl]
   exact Evt.inl (Evt.diag ho) .pure
  | false =>
   rw [hO,if_neg (by simp)]at ho
   rw [if_neg (by simp)]
   refine Evt.inr (Evt.diag ho) (Evt.inr (Evt.diag hsm) ?_)
   simp only [w]
   exact ih _
theorem implY_ev{A:List Int}{d x:Nat}(h:LabOk A d)(hx:x≤2 ^ d){x23:Int}:∀(m i:Nat),i+m=2 ^ d+1→∀s:Int,
  Evt (fun k n=>impl_degreeOfLabels_L14950 k n A d (cellsV (2 ^ d)) ((2 ^ d:Nat):Int) s x x23 x ((2 ^ d+1:Nat):Int) i) (match runN (gy A d x) m i s with | some s' => .inr (A,(d:Int),cellsV (2 ^ d),((2 ^ d:Nat):Int),s',x23,(x:Int),()) | none => .inl (0,false))
 | 0,i,hi,s=>by
  have hn:=h.n
  exact Evt.step (fun k n=>impl_degreeOfLabels_L14950.eq_2 k _ _ _ _ _ _ _ _ _ _ n) (Evt.cfalse (decide_eq_false (by omega)) .pure)
 | m+1,i,hi,s=>by
  have hn:=h.n
  have hz:i≤2 ^ d:=by omega
  have w:IntKind.wrap .i64 ((i:Int)+1)=((i+1:Nat):Int):=w64_next (by simp only [lenB];omega)
  have w2:IntKind.wrap .i64 (((2 ^ d:Nat):Int)+1)=((2 ^ d+1:Nat):Int):=w64_next (by simp only [lenB];omega)
  refine Evt.step (fun k n=>impl_degreeOfLabels_L14950.eq_2 k _ _ _ _ _ _ _ _ _ _ n) (Evt.ctrue (decide_eq_true (by omega)) ?_)
  have ih:=implY_ev h hx (x23:=x23) m (i+1) (by omega)
  have hZ:=implZ_ev h hx hz (x23:=x23) (x28:=((2 ^ d+1:Nat):Int)) (2 ^ d+1) 0 (by omega) s
  rw [w2]
  show Evt _ (match ((gy A d x i s).bind fun s=>runN (gy A d x) m (i+1) s)with | some s'=>_ | none=>_)
  unfold gy at *
  cases hr:runN (gz A d x i) (2 ^ d+1) 0 s with
  | none =>
   rw [hr]at hZ
   exact Evt.inl (Evt.diag hZ) .pure
  | some s' =>
   rw [hr]at hZ
   refine Evt.inr (Evt.diag hZ) ?_
   simp only [w]
   exact ih s'
theorem implX_ev{A:List Int}{d:Nat}(h:LabOk A d):∀(m i:Nat),i+m=2 ^ d+1→∀s:Int,
  Evt (fun k n=>impl_degreeOfLabels_L58 k n A d (cellsV (2 ^ d)) ((2 ^ d:Nat):Int) s ((2 ^ d+1:Nat):Int) i) (match runN (gx A d) m i s with | some s' => .inr (s',()) | none => .inl (0,false))
 | 0,i,hi,s=>by
  have hn:=h.n
  exact Evt.step (fun k n=>impl_degreeOfLabels_L58.eq_2 k _ _ _ _ _ _ _ n) (Evt.cfalse (decide_eq_false (by omega)) .pure)
 | m+1,i,hi,s=>by
  have hn:=h.n
  have hz:i≤2 ^ d:=by omega
  have w:IntKind.wrap .i64 ((i:Int)+1)=((i+1:Nat):Int):=w64_next (by simp only [lenB];omega)
  have w2:IntKind.wrap .i64 (((2 ^ d:Nat):Int)+1)=((2 ^ d+1:Nat):Int):=w64_next (by simp only [lenB];omega)
  refine Evt.step (fun k n=>impl_degreeOfLabels_L58.eq_2 k _ _ _ _ _ _ _ n) (Evt.ctrue (decide_eq_true (by omega)) ?_)
  have ih:=implX_ev h m (i+1) (by omega)
  have hZ:=implY_ev h hz (x23:=((2 ^ d+1:Nat):Int)) (2 ^ d+1) 0 (by omega) s
  rw [w2]
  show Evt _ (match ((gx A d i s).bind fun s=>runN (gx A d) m (i+1) s)with | some s'=>_ | none=>_)
  unfold gx at *
  cases hr:runN (gy A d i) (2 ^ d+1) 0 s with
  | none =>
   rw [hr]at hZ
   exact Evt.inl (Evt.diag hZ) .pure
  | some s' =>
   rw [hr]at hZ
   refine Evt.inr (Evt.diag hZ) ?_
   simp only [w]
   exact ih s'
theorem degreeOfLabels_ev{A:List Int}{d:Nat}(h:LabOk A d):Evt (fun k _=>impl_degreeOfLabels k A d) (dgLV A d):=by
 refine Evt.eq (f:=fun k q=>_) ?_ (fun k q=>by rw [impl_degreeOfLabels])
 have hd:=h.hd
 have hn:=h.n
 have w1:IntKind.wrap .i64 (1*2 ^ min (Int.toNat (d:Int)) (IntKind.bits .i64))=((2 ^ d:Nat):Int):=by
  rcases(by omega:d=0∨d=1∨d=2)with rfl | rfl | rfl <;> rfl
 have w2:IntKind.wrap .i64 (((2 ^ d:Nat):Int)+1)=((2 ^ d+1:Nat):Int):=w64_next (by simp only [lenB];omega)
 rw [w1,w2]
 refine Evt.bind (surfaceCells_ev hd) (Evt.cfalse (decide_eq_false (by omega)) ?_)
 have hX:=implX_ev h (2 ^ d+1) 0 (by omega) 0
 unfold dgLV
 cases hr:runN (gx A d) (2 ^ d+1) 0 0 with
 | none=>rw [hr]at hX;exact Evt.inl (Evt.diag hX) .pure
 | some s=>rw [hr]at hX;exact Evt.inr (Evt.diag hX) .pure
end Go.Ev.G

namespace Go.Ev.G
open Go Go.Ev
set_option maxRecDepth 100000

abbrev L6:List Int := [0,1,2,3,4,5]
theorem L6_mem{a:Int}(h:isLab a):a∈L6:=by
 rcases isLab_cases h with rfl | rfl | rfl | rfl | rfl | rfl <;> decide
def hh(a b:Int):Int:=if (a,b) ∈ [((0:Int),(1:Int)),(5,1),(5,3)]then 1 else if (b,a) ∈ [((0:Int),(1:Int)),(5,1),(5,3)]then -1 else 0
theorem all2{P:Int→Int→Bool}(h:(L6.all fun a=>L6.all fun b=>P a b)=true){a b:Int}(ha:isLab a)(hb:isLab b):P a b=true:=List.all_eq_true.1 (List.all_eq_true.1 h a (L6_mem ha)) b (L6_mem hb)
theorem all3{P:Int→Int→Int→Bool}(h:(L6.all fun a=>L6.all fun b=>L6.all fun c=>P a b c)=true){a b c:Int}(ha:isLab a)(hb:isLab b)(hc:isLab c):P a b c=true:=List.all_eq_true.1 (List.all_eq_true.1 (List.all_eq_true.1 h a (L6_mem ha)) b (L6_mem hb)) c (L6_mem hc)
section
variable {α β : Type}
end

def fanA(a:Int):Int→List Int→Int
 | _,[]=>0
 | p,c::cs=>triV a p c+fanA a c cs
def fan:List Int→Int
 | a::b::cs=>fanA a b cs
 | _=>0
end Go.Ev.G

namespace Go.Ev.G
open Go Go.Ev
set_option maxRecDepth 100000

def halfD(a b:Int×Int):(Int×Int)×Bool:=mkD (sumN a b) (exA a b+1)
theorem halfD_gd(a b:Int×Int):gd (halfD a b).1:=mkD_gd _ _
theorem EdOk.left{e:Ed}(h:EdOk e):EdOk (e.1,e.2.1,e.2.2.1,(halfD e.2.2.1 e.2.2.2).1):=⟨h.sd,h.a,h.f,halfD_gd _ _⟩
theorem EdOk.right{e:Ed}(h:EdOk e):EdOk (e.1,e.2.1,(halfD e.2.2.1 e.2.2.2).1,e.2.2.2):=⟨h.sd,h.a,halfD_gd _ _,h.t⟩
end Go.Ev.G

namespace Go.Ev.G
open Go Go.Ev
set_option maxRecDepth 100000

def nwV(s:List (List Tm))(b:Bx):Bool:=sysV s&&(bxV b&&(((s.length:Int)==(b.2.1.length:Int))&&decide (b.1≤4)))
structure NwOk(s:List (List Tm))(m:Nat)(lo hi:List Int):Prop where
 po:∀p∈s,polyV p=true
 n1:1≤lo.length∧lo.length≤3
 sl:s.length=lo.length
 hl:hi.length=lo.length
 m4:m≤4
 bd:∀p∈lo.zip hi,-128≤p.1∧p.1<p.2∧p.2≤128
 nd:∀p∈s,needs s.length p=false
 b8:∀p∈lo.zip hi,-(8*2 ^ m)≤p.1∧p.2≤8*2 ^ m
theorem nwV_form{s:List (List Tm)}{b:Bx}(h:nwV s b=true):∃m:Nat,b=((m:Int),b.2.1,b.2.2)∧NwOk s m b.2.1 b.2.2:=by
 obtain⟨d8,los,his⟩:=b
 unfold nwV bxV sysV at h
 simp only [Bool.and_eq_true,decide_eq_true_eq,beq_iff_eq,List.all_eq_true]at h
 obtain⟨⟨p1,p2⟩,⟨g1,g2,g3,g4,_⟩,g5,g6⟩:=h
 refine⟨d8.toNat,by rw [Int.toNat_of_nonneg g1.1],?_⟩
 show NwOk s d8.toNat los his
 have g2:1≤(los.length:Int)∧(los.length:Int)≤3:=g2
 have g5:(s.length:Int)=(los.length:Int):=g5
 refine⟨fun p hp=>(p1 p hp).1,by omega,by omega,g3,by omega,fun p hp => ?_,fun p hp=>by simpa using (p1 p hp).2,fun p hp=>by
  have hq:=g4 p hp
  unfold sideOk at hq
  have hq:=of_decide_eq_true hq
  exact⟨hq.1.1,hq.2.1.2⟩⟩
 have hq:=g4 p hp
 unfold sideOk at hq
 have hq:=of_decide_eq_true hq
 have hp:(8:Int)*2 ^ d8.toNat≤128:=by
  have h1:(2:Nat) ^ d8.toNat≤2 ^ 4:=Nat.pow_le_pow_right (by omega) (by omega)
  have h2:((2:Int) ^ d8.toNat)=((2 ^ d8.toNat:Nat):Int):=by simp
  have:(2:Nat) ^ 4=16:=by decide
  rw [h2]
  omega
 omega

def sidesB(m:Nat)(lo hi:List Int):List Iv:=(lo.zip hi).map fun p=>((mkD p.1 m).1,(mkD p.2 m).1)
theorem bxNumber_ev{x:Int}{m:Nat}(hx : -128≤x∧x≤128)(hm:m≤4):Evt (fun k _=>spec_bxNumber k x (m:Int)) (mkD x m).1:=by
 refine Evt.eq (f:=fun k q=>_) ?_ (fun k q=>by rw [spec_bxNumber])
 exact Evt.bind (dyMake_ev (n:=x) (m:=m) (by omega) (by omega) (by omega)) .pure
theorem vaSides_ev{s:List (List Tm)}{m:Nat}{lo hi:List Int}(h:NwOk s m lo hi):Evt (fun k _=>spec_vaSides k ((m:Int),lo,hi)) (sidesB m lo hi):=by
 refine Evt.eq (f:=fun k q=>_) ?_ (fun k q=>by rw [spec_vaSides])
 have key:∀(r d r2 d2:List Int),d++r=lo→d2++r2=hi→d.length=d2.length→Evt (fun k n=>spec_vaSides_L58 k n ((m:Int),lo,hi) (sidesB m d d2) lo (lo.length:Int) d.length) (.inr (sidesB m lo hi,())):=by
  intro r
  induction r with
  | nil =>
   intro d r2 d2 hd hd2 hl
   refine Evt.step (fun k n=>spec_vaSides_L58.eq_2 k _ _ _ _ _ n) ?_
   rw [List.append_nil]at hd
   subst hd
   have hn:r2 = []:=by
    have h1:=congrArg List.length hd2
    have h2:=h.hl
    simp at h1
    exact List.eq_nil_of_length_eq_zero (by omega)
   subst hn
   rw [List.append_nil]at hd2
   subst hd2
   exact Evt.cfalse (by simp) .pure
  | cons e r ih =>
   intro d r2 d2 hd hd2 hl
   have hxl:=congrArg List.length hd
   have hyl:=congrArg List.length hd2
   have hh:=h.hl
   have hn:=h.n1
   simp at hxl hyl
   cases r2 with
   | nil=>simp at hyl;omega
   | cons f r2 =>
   have ih:=ih (d ++ [e]) r2 (d2 ++ [f]) (by simpa using hd) (by simpa using hd2) (by simp [hl])
   rw [←len_next (r:=r) (by rw [hd];simp only [lenB];omega)]at ih
   have e2:sidesB m (d ++ [e]) (d2 ++ [f])=sidesB m d d2 ++ [((mkD e m).1,(mkD f m).1)]:=by
    unfold sidesB
    rw [List.zip_append hl,List.map_append]
    rfl
   rw [e2]at ih
   have hmem:(e,f)∈lo.zip hi:=by
    rw [←hd,←hd2,List.zip_append hl]
    exact List.mem_append.2 (.inr (by simp))
   obtain⟨b1,b2,b3⟩:=h.bd _ hmem
   simp only at b1 b2 b3
   have g1:lo.getD (Int.toNat (d.length:Int)) 0=e:=by rw [←hd];exact mid_get
   have g2:hi.getD (Int.toNat (d.length:Int)) 0=f:=by rw [←hd2,hl];exact mid_get
   have hsl:(sidesB m d d2).length≤3:=by simp [sidesB];omega
   refine Evt.step (fun k n=>spec_vaSides_L58.eq_2 k _ _ _ _ _ n) ?_
   simp only [g1,g2]
   exact Evt.ctrue (decide_eq_true (by omega)) (Evt.ctrue mid_ge (Evt.ctrue (decide_eq_true (by omega)) (Evt.bind (bxNumber_ev (by omega) h.m4) (Evt.ctrue mid_ge (Evt.ctrue (decide_eq_true (by omega)) (Evt.bind (bxNumber_ev (by omega) h.m4) (Evt.ctrue (decide_eq_true (by simp;omega)) ih)))))))
 exact Evt.inr (Evt.diag (key lo [] hi [] rfl rfl rfl)) .pure

end Go.Ev.G

namespace Go.Ev.G
open Go Go.Ev
set_option maxRecDepth 100000

theorem between{m D:Nat}{l h x:Int}(hl : -(8*2 ^ m)≤l)(hlh:l<h)(hh:h≤8*2 ^ m)(h0:0≤x)(h1:x≤2 ^ D):(l*2 ^ D+x*(h - l)).natAbs≤8*2 ^ (m+D):=by
 have hP:(0:Int)≤2 ^ D:=Int.le_of_lt (Int.pow_pos (by decide))
 have e1:l*2 ^ D+x*(h - l)=l*(2 ^ D - x)+h*x:=by rw [Int.mul_sub,Int.mul_sub,Int.mul_comm x h,Int.mul_comm x l];omega
 have a1 : -(8*2 ^ m)*(2 ^ D - x)≤l*(2 ^ D - x):=Int.mul_le_mul_of_nonneg_right hl (by omega)
 have a2 : -(8*2 ^ m)*x≤h*x:=Int.mul_le_mul_of_nonneg_right (by omega) h0
 have b1:l*(2 ^ D - x)≤8*2 ^ m*(2 ^ D - x):=Int.mul_le_mul_of_nonneg_right (by omega) (by omega)
 have b2:h*x≤8*2 ^ m*x:=Int.mul_le_mul_of_nonneg_right hh h0
 have e2:(8:Int)*2 ^ m*(2 ^ D - x)+8*2 ^ m*x=8*2 ^ m*2 ^ D:=by rw [←Int.mul_add];congr 1;omega
 have e3:((8*2 ^ (m+D):Nat):Int)=8*2 ^ m*2 ^ D:=by rw [Nat.pow_add,←Nat.mul_assoc];simp
 rw [Int.neg_mul]at a1 a2
 omega
def qq(a b:Int):Option Int:=if a=0∧b=0 then none else some (if 0<a∧0≤b then 0 else if a≤0∧0<b then 1 else if a<0 then 2 else 3)
end Go.Ev.G

namespace Go.Ev.G
open Go Go.Ev
set_option maxRecDepth 100000

def sdIn(u v:List Iv):Prop:=u.length=v.length∧∀q∈u.zip v,sv q.2.1≤sv q.1.1∧sv q.1.2≤sv q.2.2
def fits:List Ed→List Ed→Prop
 | [],[]=>True
 | e::r,u::v::r'=>sdIn (sidesE u) (sidesE e)∧sdIn (sidesE v) (sidesE e)∧fits r r'
 | _,_=>False
end Go.Ev.G

namespace Go.Ev.G
open Go Go.Ev
set_option maxRecDepth 100000

def d4(a b:Int):Int:=Int.tmod (IntKind.wrap .i64 ((IntKind.wrap .i64 (b - a))+4)) 4
end Go.Ev.G

namespace Go.Ev.G
open Go Go.Ev
set_option maxRecDepth 100000

def labsB(a:List Int):Bool:=a.all fun x=>decide (0≤x∧x≤5)
theorem areLabels1_eq(x:Int):impl_areLabels_1 x=some (!decide (0≤x∧x≤5)):=by
 unfold impl_areLabels_1
 rw [inside_eq];rfl
theorem containsL_ev{xs:List Int}(hb:xs.length<lenB):Evt (fun k _=>slices_ContainsFunc_int_int_impl_areLabels_1 k xs ()) (xs.any fun x => !decide (0≤x∧x≤5)):=by
 refine Evt.eq (f:=fun k q=>_) ?_ (fun k q=>by rw [slices_ContainsFunc_int_int_impl_areLabels_1])
 have h:=index_all (d0:=0) (L:=fun k n i=>slices_IndexFunc_int_int_impl_areLabels_1_L26 k n xs () (xs.length:Int) i) (xs:=xs) (p:=fun _ x=>impl_areLabels_1 x) (P:=fun x => !decide (0≤x∧x≤5)) (fun x _ => .const (areLabels1_eq x)) (fun _ _ _=>rfl) hb
 have h2:Evt (fun k _=>slices_IndexFunc_int_int_impl_areLabels_1 k xs ()) (match xs.findIdx? (fun x => !decide (0≤x∧x≤5))with | some j=>(j:Int) | none => -1):=by
  refine Evt.eq (f:=fun k q=>_) ?_ (fun k q=>by rw [slices_IndexFunc_int_int_impl_areLabels_1])
  cases hi:xs.findIdx? (fun x => !decide (0≤x∧x≤5))with
  | none=>rw [hi]at h;exact Evt.inr (Evt.diag h) .pure
  | some j=>rw [hi]at h;exact Evt.inl (Evt.diag h) .pure
 refine Evt.bind h2 (.const ?_)
 cases hi:xs.findIdx? (fun x => !decide (0≤x∧x≤5))with
 | none =>
  have:xs.any (fun x => !decide (0≤x∧x≤5))=false:=by
   rw [List.any_eq_false]
   intro x hx
   have:=List.findIdx?_eq_none_iff.1 hi x hx
   simp only [this];simp
  rw [this];rfl
 | some j =>
  have:xs.any (fun x => !decide (0≤x∧x≤5))=true:=by
   rw [List.any_eq_true]
   obtain⟨hlt,hp,_⟩:=List.findIdx?_eq_some_iff_getElem.1 hi
   exact⟨xs[j],List.getElem_mem hlt,hp⟩
  rw [this]
  simp
theorem areLabels_ev{a:List Int}(hb:a.length<lenB):Evt (fun k _=>impl_areLabels k a) (labsB a):=by
 refine Evt.eq (f:=fun k q=>_) ?_ (fun k q=>by rw [impl_areLabels])
 refine Evt.bind (containsL_ev hb) (.const ?_)
 unfold labsB
 rw [List.any_eq_not_all_not]
 simp
def dlAsk(a:List Int)(d:Int):Bool:=decide (0≤d∧d≤2)&&((a.length:Int)==((6*2 ^ d.toNat*2 ^ d.toNat:Nat):Int))&&labsB a
def dlV(a:List Int)(d:Int):Int×Bool:=if dlAsk a d then dgLV a d.toNat else(0,false)
theorem dlAsk_ok{a:List Int}{d:Nat}(h:dlAsk a d=true):LabOk a d:=by
 unfold dlAsk at h
 rw [Bool.and_eq_true,Bool.and_eq_true]at h
 have h1:=of_decide_eq_true h.1.1
 have h2:=beq_iff_eq.1 h.1.2
 simp only [Int.toNat_natCast]at h2
 refine⟨by omega,by omega,fun l hl => ?_⟩
 have:=of_decide_eq_true (List.all_eq_true.1 h.2 l hl)
 unfold isLab
 exact this
theorem two_pow_two{n:Nat}(hn:n≤2):(6*2 ^ n*2 ^ n:Nat)=(cellsV (2 ^ n)).length:=by
 rcases(by omega:n=0∨n=1∨n=2)with rfl | rfl | rfl <;> rfl
theorem spec_degreeOfLabels_ev{a:List Int}{d:Int}(hb:a.length<lenB):Evt (fun k _=>spec_DegreeOfLabels k a d) (dlV a d):=by
 refine Evt.eq (f:=fun k q=>_) ?_ (fun k q=>by rw [spec_DegreeOfLabels])
 have hdp:spec_cbDepth d=some (decide (0≤d∧d≤2)):=by
  unfold spec_cbDepth
  rw [l1In_eq];rfl
 refine Evt.bind (.const hdp) ?_
 cases h1:decide (0≤d∧d≤2)with
 | false =>
  have:dlV a d=(0,false):=by unfold dlV dlAsk;rw [h1];rfl
  rw [this]
  exact Evt.ctrue rfl .pure
 | true =>
  have hd:=of_decide_eq_true h1
  obtain⟨n,rfl⟩:∃n:Nat,d=n:=⟨d.toNat,by omega⟩
  have hn:n≤2:=by omega
  refine Evt.cfalse rfl (Evt.bind (.const (cbCount_eq hn)) ?_)
  rw [←two_pow_two hn]
  cases h2:((a.length:Int)==((6*2 ^ n*2 ^ n:Nat):Int))with
  | false =>
   have:dlV a n=(0,false):=by unfold dlV dlAsk;simp only [Int.toNat_natCast];rw [h1,h2];rfl
   rw [this]
   exact Evt.ctrue (by rw [bne,h2];rfl) .pure
  | true =>
   refine Evt.cfalse (by rw [bne,h2];rfl) (Evt.bind (l1All_ev hb) ?_)
   show Evt (fun k _=>bif !(labsB a)then _ else _) _
   cases h3:labsB a with
   | false =>
    have:dlV a n=(0,false):=by unfold dlV dlAsk;simp only [Int.toNat_natCast];rw [h1,h2,h3];rfl
    rw [this]
    exact Evt.ctrue rfl .pure
   | true =>
    have hq:dlAsk a n=true:=by unfold dlAsk;simp only [Int.toNat_natCast];rw [h1,h2,h3];rfl
    refine Evt.cfalse rfl (Evt.bind (cbDegree_ev (dlAsk_ok hq)) ?_)
    unfold dlV
    rw [hq,if_pos rfl,Int.toNat_natCast]
    exact .pure
theorem impl_degreeOfLabels_ev{a:List Int}{d:Int}(hb:a.length<lenB):Evt (fun k _=>impl_DegreeOfLabels k a d) (dlV a d):=by
 refine Evt.eq (f:=fun k q=>_) ?_ (fun k q=>by rw [impl_DegreeOfLabels])
 refine Evt.bind (.const (inside_eq d 0 2)) ?_
 cases h1:decide (0≤d∧d≤2)with
 | false =>
  have:dlV a d=(0,false):=by unfold dlV dlAsk;rw [h1];rfl
  rw [this]
  exact Evt.ctrue rfl .pure
 | true =>
  have hd:=of_decide_eq_true h1
  obtain⟨n,rfl⟩:∃n:Nat,d=n:=⟨d.toNat,by omega⟩
  have hn:n≤2:=by omega
  have hw:IntKind.wrap .i64 (2*(n:Int))=((2*n:Nat):Int):=by rw [w64 (by omega) (by omega)];omega
  have hw2:IntKind.wrap .i64 (6*2 ^ min (Int.toNat ((2*n:Nat):Int)) (IntKind.bits .i64))=((6*2 ^ n*2 ^ n:Nat):Int):=by
   rcases(by omega:n=0∨n=1∨n=2)with rfl | rfl | rfl <;> rfl
  rw [hw,hw2]
  refine Evt.cfalse rfl (Evt.cfalse (decide_eq_false (by omega)) ?_)
  cases h2:((a.length:Int)==((6*2 ^ n*2 ^ n:Nat):Int))with
  | false =>
   have:dlV a n=(0,false):=by unfold dlV dlAsk;simp only [Int.toNat_natCast];rw [h1,h2];rfl
   rw [this]
   exact Evt.ctrue (by rw [bne,h2];rfl) .pure
  | true =>
   refine Evt.cfalse (by rw [bne,h2];rfl) (Evt.bind (areLabels_ev hb) ?_)
   cases h3:labsB a with
   | false =>
    have:dlV a n=(0,false):=by unfold dlV dlAsk;simp only [Int.toNat_natCast];rw [h1,h2,h3];rfl
    rw [this]
    exact Evt.ctrue rfl .pure
   | true =>
    have hq:dlAsk a n=true:=by unfold dlAsk;simp only [Int.toNat_natCast];rw [h1,h2,h3];rfl
    refine Evt.cfalse rfl (Evt.bind (degreeOfLabels_ev (dlAsk_ok hq)) ?_)
    unfold dlV
    rw [hq,if_pos rfl,Int.toNat_natCast]
    exact .pure
end Go.Ev.G

namespace Go.Ev.G
open Go Go.Ev
set_option maxRecDepth 100000

def digV(a:Int):ByteArray:=strOfNums [IntKind.wrap .u8 (IntKind.wrap .i64 (48+a))]
theorem l1Num_ev{a:Int}(h:isLab a):Evt (fun k _=>spec_l1Num k a) (digV a):=by
 refine⟨1,fun k n hk _ => ?_⟩
 obtain⟨m,rfl⟩:∃m,k=m+1:=⟨k - 1,by omega⟩
 unfold isLab at h
 show(bif decide (a<10)then _ else _)=_
 rw [decide_eq_true (by omega)]
 rfl
theorem itoa_all:(List.range 6).map (fun a:Nat=>(strconv_Itoa a).map fun b=>b.toList)=(List.range 6).map fun a:Nat=>some (digV a).toList:=by kernel_rfl
theorem toList_inj{a b:ByteArray}(h:a.toList=b.toList):a=b:=by
 rw [ByteArray.toList_eq,ByteArray.toList_eq]at h
 obtain⟨⟨x⟩⟩:=a
 obtain⟨⟨y⟩⟩:=b
 simp only at h
 rw [h]
theorem itoa_eq{a:Int}(h:isLab a):strconv_Itoa a=some (digV a):=by
 obtain⟨a,rfl⟩:∃m:Nat,a=m:=⟨a.toNat,by unfold isLab at h;omega⟩
 unfold isLab at h
 have h1:=List.map_inj_left.1 itoa_all a (by rw [List.mem_range];omega)
 cases hs:strconv_Itoa a with
 | none=>rw [hs]at h1;cases h1
 | some b =>
  rw [hs]at h1
  simp only [Option.map_some,Option.some.injEq]at h1
  rw [toList_inj h1]
theorem digV_size(a:Int):(digV a).size=1:=by unfold digV;rw [strOfNums_size];rfl
def textV:ByteArray→List Int→ByteArray
 | s,[]=>s
 | s,a::l=>textV (s++digV a) l
theorem size_push(s:ByteArray)(a:Int):(s++digV a).size=s.size+1:=by rw [ByteArray.size_append,digV_size]
theorem specText_ev{x:List Int}(hx:∀a∈x,isLab a)(hl:x.length≤96):∀(r d:List Int) (s:ByteArray),d++r=x→s.size=d.length→Evt (fun k n=>spec_LabelsText_L122 k n s x (x.length:Int) d.length) (.inr (textV s r,()))
 | [],d,s,h,hs=>by
  rw [List.append_nil]at h
  subst h
  refine Evt.step (fun k n=>spec_LabelsText_L122.eq_2 k _ _ _ _ n) ?_
  rw [mid_end]
  exact Evt.cfalse rfl .pure
 | e::r,d,s,h,hs=>by
  subst h
  refine Evt.step (fun k n=>spec_LabelsText_L122.eq_2 k _ _ _ _ n) (Evt.ctrue mid_lt (Evt.ctrue mid_ge (Evt.ctrue mid_lt ?_)))
  rw [mid_get]
  have hl2:d.length+(r.length+1)≤96:=by simpa using hl
  refine Evt.bind (l1Num_ev (hx e (by simp))) (Evt.ctrue (decide_eq_true (by rw [digV_size];omega)) ?_)
  rw [w64_next (by simp only [lenB];omega)]
  have:=specText_ev hx hl r (d ++ [e]) (s++digV e) (by simp) (by rw [size_push];simp;omega)
  rw [show(d ++ [e]).length=d.length+1 by simp]at this
  exact this
theorem implText_ev{x:List Int}(hx:∀a∈x,isLab a)(hl:x.length≤96):∀(r d:List Int) (s:ByteArray),d++r=x→s.size=d.length→Evt (fun k n=>impl_digitsText_L58 k n s x (x.length:Int) d.length) (.inr (textV s r,()))
 | [],d,s,h,hs=>by
  rw [List.append_nil]at h
  subst h
  refine Evt.step (fun k n=>impl_digitsText_L58.eq_2 k _ _ _ _ n) ?_
  rw [mid_end]
  exact Evt.cfalse rfl .pure
 | e::r,d,s,h,hs=>by
  subst h
  refine Evt.step (fun k n=>impl_digitsText_L58.eq_2 k _ _ _ _ n) (Evt.ctrue mid_lt (Evt.ctrue mid_ge (Evt.ctrue mid_lt ?_)))
  rw [mid_get]
  have hl2:d.length+(r.length+1)≤96:=by simpa using hl
  refine Evt.bind (.const (itoa_eq (hx e (by simp)))) (Evt.ctrue (decide_eq_true (by rw [digV_size];omega)) ?_)
  rw [w64_next (by simp only [lenB];omega)]
  have:=implText_ev hx hl r (d ++ [e]) (s++digV e) (by simp) (by rw [size_push];simp;omega)
  rw [show(d ++ [e]).length=d.length+1 by simp]at this
  exact this
def ltV(x:List Int):ByteArray×Bool:=if x.length≤96 then(if labsB x then(textV ⟨#[]⟩ x,true)else(⟨#[]⟩,false))else(⟨#[]⟩,false)
theorem labsB_lab{x:List Int}(h:labsB x=true):∀a∈x,isLab a:=by
 intro a ha
 have:=of_decide_eq_true (List.all_eq_true.1 h a ha)
 unfold isLab
 exact this
theorem spec_labelsText_ev{x:List Int}(hb:x.length<lenB):Evt (fun k _=>spec_LabelsText k x) (ltV x):=by
 refine Evt.eq (f:=fun k q=>_) ?_ (fun k q=>by rw [spec_LabelsText])
 unfold ltV
 by_cases h1:x.length≤96
 ·rw [if_pos h1]
  refine Evt.cfalse (decide_eq_false (by omega)) (Evt.bind (l1All_ev hb) ?_)
  show Evt (fun k _=>bif !(labsB x)then _ else _) _
  cases h3:labsB x with
  | false=>exact Evt.ctrue rfl .pure
  | true =>
   have:=specText_ev (labsB_lab h3) h1 x [] ⟨#[]⟩ rfl rfl
   exact Evt.cfalse rfl (Evt.inr (Evt.diag this) .pure)
 ·rw [if_neg h1]
  exact Evt.ctrue (decide_eq_true (by omega)) .pure
theorem impl_labelsText_ev{x:List Int}(hb:x.length<lenB):Evt (fun k _=>impl_LabelsText k x) (ltV x):=by
 refine Evt.eq (f:=fun k q=>_) ?_ (fun k q=>by rw [impl_LabelsText])
 unfold ltV
 by_cases h1:x.length≤96
 ·rw [if_pos h1]
  refine Evt.cfalse (decide_eq_false (by omega)) (Evt.bind (areLabels_ev hb) ?_)
  cases h3:labsB x with
  | false=>exact Evt.ctrue rfl .pure
  | true =>
   have:=implText_ev (labsB_lab h3) h1 x [] ⟨#[]⟩ rfl rfl
   refine Evt.cfalse rfl (Evt.bind (a:=textV ⟨#[]⟩ x) ?_ .pure)
   refine Evt.eq (f:=fun k q=>_) ?_ (fun k q=>by rw [impl_digitsText])
   exact Evt.inr (Evt.diag this) .pure
 ·rw [if_neg h1]
  exact Evt.ctrue (decide_eq_true (by omega)) .pure
end Go.Ev.G

namespace Go.Ev.G
open Go Go.Ev
set_option maxRecDepth 100000

def idT(n:Nat)(d:Int×Int):List Pt:=(List.range n).map fun i=>(List.range n).map fun k=>if i=k then d else(0,0)
end Go.Ev.G

namespace Go.Ev.G
open Go Go.Ev
set_option maxRecDepth 100000

abbrev Cu:=Unit×Int×Int
def CurOk(c:Cu)(m:Nat):Prop:=0≤c.2.1∧c.2.1≤m∧m≤1000000000
theorem CurOk.mono{c:Cu}{m m':Nat}(h:CurOk c m)(hm:m≤m')(hm':m'≤1000000000):CurOk c m':=⟨h.1,by have:=h.2.1;omega,hm'⟩
theorem and255(x:Int):(((BitVec.ofInt 64 x &&& BitVec.ofInt 64 255).toNat:Nat):Int)≤255:=by
 have h:(BitVec.ofInt 64 x &&& BitVec.ofInt 64 255).toNat≤255:=by
  rw [BitVec.toNat_and]
  have:(BitVec.ofInt 64 255).toNat=255:=by decide
  rw [this]
  exact Nat.and_le_right
 omega
def bytesOk(ks:List Int):Prop:=∀x∈ks,0≤x∧x≤255
theorem next_ok{ks:List Int}(hk:bytesOk ks){c:Cu}{m:Nat}(h:CurOk c m)(hm:m<1000000000):∃r c',spec_l1Cur_next ks c=some (r,c')∧CurOk c' (m+1)∧0≤r∧r≤255:=by
 obtain⟨u,p,s⟩:=c
 obtain⟨h1,h2,_⟩:=h
 simp only at h1 h2
 have w:IntKind.wrap .i64 (p+1)=p+1:=w64 (by omega) (by omega)
 have hmid:∃b:Int,(0≤b∧b≤255)∧((bif (decide (p<(ks.length:Int)))then(bif (decide (0≤p))then(bif (decide (p<(ks.length:Int)))then some (Sum.inr (((),p,s),(IntKind.wrap .i64 (ks.getD (Int.toNat p) 0)),()))else none)else none)else some (Sum.inr (((),p,s),0,())):Option ((Int×Unit×Int×Int) ⊕ ((Unit×Int×Int)×Int×Unit)))=some (.inr (((),p,s),b,()))):=by
  by_cases hlt:p<(ks.length:Int)
  ·have hl:p.toNat<ks.length:=by omega
   have hb:=hk (ks.getD (Int.toNat p) 0) (by rw [List.getD_eq_getElem?_getD,List.getElem?_eq_getElem hl];exact List.getElem_mem hl)
   refine⟨ks.getD (Int.toNat p) 0,hb,?_⟩
   rw [decide_eq_true hlt,decide_eq_true h1,w64 (by omega) (by omega)]
   rfl
  ·refine⟨0,by omega,?_⟩
   rw [decide_eq_false hlt]
   rfl
 obtain⟨b,hb,hmid⟩:=hmid
 unfold spec_l1Cur_next
 simp only
 rw [hmid]
 simp only [both,Option.bind_some,w]
 by_cases hle:p+1≤(ks.length:Int)
 ·rw [decide_eq_true hle]
  exact⟨_,_,rfl,⟨by simp only;omega,by simp only;omega,by omega⟩,hb⟩
 ·rw [decide_eq_false hle]
  refine⟨_,_,rfl,⟨by simp only;omega,by simp only;omega,by omega⟩,?_⟩
  have h3:=and255 (Int.fdiv (IntKind.wrap .u64 ((IntKind.wrap .u64 ((IntKind.wrap .u64 (s*6364136223846793005))+(IntKind.wrap .u64 b)))+1442695040888963407)) (2 ^ min (Int.toNat 40) (IntKind.bits .u64)))
  have e64:IntKind.bits .u64=64:=rfl
  rw [e64]at h3 ⊢
  generalize ((BitVec.ofInt 64 (Int.fdiv (IntKind.wrap .u64 ((IntKind.wrap .u64 ((IntKind.wrap .u64 (s*6364136223846793005))+(IntKind.wrap .u64 b)))+1442695040888963407)) (2 ^ min (Int.toNat 40) 64)) &&& BitVec.ofInt 64 255).toNat:Nat)=z at h3 ⊢
  rw [wu64 (by omega) (by omega),w64 (by omega) (by omega)]
  omega
theorem tmod_rng{x n:Int}(hx:0≤x)(hn:0<n):0≤Int.tmod x n∧Int.tmod x n<n:=by
 rw [Int.tmod_eq_emod_of_nonneg hx]
 exact⟨Int.emod_nonneg _ (by omega),Int.emod_lt_of_pos _ hn⟩
theorem pick_ok{ks:List Int}(hk:bytesOk ks){c:Cu}{m:Nat}(h:CurOk c m)(hm:m+2≤1000000000){n:Int}(hn:n≤1000000):∃r c',spec_l1Cur_pick ks c n=some (r,c')∧CurOk c' (m+2)∧0≤r∧(1≤n→r<n):=by
 unfold spec_l1Cur_pick
 by_cases h1:n≤1
 ·rw [decide_eq_true h1]
  exact⟨0,_,rfl,h.mono (by omega) (by omega),by omega,by omega⟩
 ·rw [decide_eq_false h1,cond_false]
  obtain⟨r,c',e,hc,hr⟩:=next_ok hk h (by omega)
  have e:spec_l1Cur_next ks ((),c.2)=some (r,c'):=e
  have hz:(n==0)=false:=by rw [beq_eq_false_iff_ne];omega
  rw [e,Option.bind_some]
  by_cases h2:n>200
  ·rw [decide_eq_true h2,cond_true]
   obtain⟨r2,c2,e2,hc2,hr2⟩:=next_ok hk hc (by omega)
   have e2:spec_l1Cur_next ks ((),c'.2)=some (r2,c2):=e2
   rw [e2,Option.bind_some,hz]
   have w1:IntKind.wrap .i64 (r*256)=r*256:=w64 (by omega) (by omega)
   have w2:IntKind.wrap .i64 (r*256+r2)=r*256+r2:=w64 (by omega) (by omega)
   simp only [w1,w2]
   have:=tmod_rng (x:=r*256+r2) (n:=n) (by omega) (by omega)
   exact⟨_,_,rfl,hc2,this.1,fun _=>this.2⟩
  ·rw [decide_eq_false h2,cond_false,hz]
   have:=tmod_rng (x:=r) (n:=n) (by omega) (by omega)
   exact⟨_,_,rfl,hc.mono (by omega) (by omega),this.1,fun _=>this.2⟩
theorem one_ok{ks:List Int}(hk:bytesOk ks){c:Cu}{m:Nat}(h:CurOk c m)(hm:m+2≤1000000000){n:Int}(hn:n≤1000000):∃r c',spec_l1Cur_one ks c n=some (r,c')∧CurOk c' (m+2):=by
 obtain⟨r,c',e,hc,_⟩:=pick_ok hk h hm hn
 unfold spec_l1Cur_one
 have e:spec_l1Cur_pick ks ((),c.2) n=some (r,c'):=e
 rw [e]
 exact⟨_,_,rfl,hc⟩
theorem among_ok{ks:List Int}(hk:bytesOk ks){c:Cu}{m:Nat}(h:CurOk c m)(hm:m+2≤1000000000){l:List Int}(h0:l ≠ [])(hl:l.length≤1000):∃r c',spec_l1Cur_among ks c l=some (r,c')∧CurOk c' (m+2)∧r∈l:=by
 have hp:1≤l.length:=List.length_pos_iff.2 h0
 obtain⟨r,c',e,hc,hr0,hr⟩:=pick_ok hk h hm (n:=(l.length:Int)) (by omega)
 have hr:=hr (by omega)
 unfold spec_l1Cur_among
 have e:spec_l1Cur_pick ks ((),c.2) (l.length:Int)=some (r,c'):=e
 rw [e,Option.bind_some,decide_eq_true hr0,decide_eq_true hr]
 refine⟨_,_,rfl,hc,?_⟩
 have hlt:r.toNat<l.length:=by omega
 rw [List.getD_eq_getElem?_getD,List.getElem?_eq_getElem hlt]
 exact List.getElem_mem hlt

def Drw{α:Type}(P:α→Prop)(j:Nat)(f:Nat→Cu→Option (α×Cu)):Prop:=∀(c:Cu) (m:Nat),CurOk c m→m+j≤1000000000→∃v c',Evt (fun k _=>f k c) (v,c')∧CurOk c' (m+j)∧P v
theorem Drw.step{α β:Type}{P:α→Prop}{Q:β→Prop}{j i:Nat}{f:Nat→Cu→Option (α×Cu)}{g:Nat→Cu→α×Cu→Option (β×Cu)}(hf:Drw P j f)(hg:∀v,P v→Drw Q i fun k c=>g k c (v,c))(hgc:∀k c d v,g k c (v,d)=g k d (v,d)):Drw Q (j+i) fun k c=>Option.bind (f k c) fun r=>g k c r:=by
 intro c m h hm
 obtain⟨v,c',e,hc,hp⟩:=hf c m h (by omega)
 obtain⟨w,c2,e2,hc2,hq⟩:=hg v hp c' (m+j) hc (by omega)
 refine⟨w,c2,Evt.bind e ?_,hc2.mono (by omega) (by omega),hq⟩
 exact Evt.eq e2 (fun k n=>hgc k c c' v)
end Go.Ev.G

namespace Go.Ev.G
open Go Go.Ev
set_option maxRecDepth 100000

def Ok{α:Type}(f:Nat→Nat→Option α)(P:α→Prop):Prop:=∃v,Evt f v∧P v
section
variable {α β R A : Type}
theorem Ok.pure{v:α}{P:α→Prop}(h:P v):Ok (fun _ _=>some v) P:=⟨v,.pure,h⟩
theorem Ok.const{o:Option α}{v:α}{P:α→Prop}(e:o=some v)(h:P v):Ok (fun _ _=>o) P:=⟨v,.const e,h⟩
theorem Ok.of{f:Nat→Nat→Option α}{v:α}{P:α→Prop}(e:Evt f v)(h:P v):Ok f P:=⟨v,e,h⟩
theorem Ok.mono{f:Nat→Nat→Option α}{P Q:α→Prop}(h:Ok f P)(hq:∀v,P v→Q v):Ok f Q:=by
 obtain⟨v,e,h⟩:=h
 exact⟨v,e,hq v h⟩
theorem Ok.bind{f:Nat→Nat→Option α}{g:Nat→Nat→α→Option β}{P:α→Prop}{Q:β→Prop}(h:Ok f P)(h':∀v,P v→Ok (fun k n=>g k n v) Q):Ok (fun k n=>Option.bind (f k n) fun x=>g k n x) Q:=by
 obtain⟨v,e,h⟩:=h
 obtain⟨u,e2,h2⟩:=h' v h
 exact⟨u,Evt.bind e e2,h2⟩
theorem Ok.bth{f:Nat→Nat→Option (R ⊕ α)}{G:Nat→Nat→R→Option A}{K:Nat→Nat→α→Option A}{P:α→Prop}{Q:A→Prop}(h:Ok f (fun s=>∃y,s = .inr y∧P y))(h':∀y,P y→Ok (fun k n=>K k n y) Q):Ok (fun k n=>both (f k n) (G k n) (K k n)) Q:=by
 obtain⟨_,e,y,rfl,h⟩:=h
 obtain⟨u,e2,h2⟩:=h' y h
 exact⟨u,Evt.inr e e2,h2⟩
theorem Ok.bothl{f:Nat→Nat→Option (R ⊕ α)}{G:Nat→Nat→R→Option A}{K:Nat→Nat→α→Option A}{S:R ⊕ α→Prop}{Q:A→Prop}(h:Ok f S)(hl:∀q,S (.inl q)→Ok (fun k n=>G k n q) Q)(hr:∀y,S (.inr y)→Ok (fun k n=>K k n y) Q):Ok (fun k n=>both (f k n) (G k n) (K k n)) Q:=by
 obtain⟨s,e,h⟩:=h
 cases s with
 | inl q =>
  obtain⟨u,e2,h2⟩:=hl q h
  exact⟨u,Evt.inl e e2,h2⟩
 | inr y =>
  obtain⟨u,e2,h2⟩:=hr y h
  exact⟨u,Evt.inr e e2,h2⟩
theorem Ok.ct{c:Bool}{f g:Nat→Nat→Option α}{P:α→Prop}(hc:c=true)(h:Ok f P):Ok (fun k n=>bif c then f k n else g k n) P:=by subst hc;exact h
theorem Ok.cf{c:Bool}{f g:Nat→Nat→Option α}{P:α→Prop}(hc:c=false)(h:Ok g P):Ok (fun k n=>bif c then f k n else g k n) P:=by subst hc;exact h
theorem Ok.ite{c:Bool}{f g:Nat→Nat→Option α}{P:α→Prop}(h:c=true→Ok f P)(h':c=false→Ok g P):Ok (fun k n=>bif c then f k n else g k n) P:=by
 cases c with
 | true=>exact h rfl
 | false=>exact h' rfl
theorem Ok.diag{f:Nat→Nat→Option α}{P:α→Prop}(h:Ok f P):Ok (fun k _=>f k k) P:=by
 obtain⟨v,e,h⟩:=h
 exact⟨v,Evt.diag e,h⟩
theorem Ok.step{L F:Nat→Nat→Option α}{P:α→Prop}(hL:∀k n,L k (n+1)=F k n)(h:Ok F P):Ok L P:=by
 obtain⟨v,e,h⟩:=h
 exact⟨v,Evt.step hL e,h⟩
theorem Ok.eq{f g:Nat→Nat→Option α}{P:α→Prop}(e:∀k n,g k n=f k n)(h:Ok f P):Ok g P:=by
 obtain⟨v,e2,h⟩:=h
 exact⟨v,Evt.eq e2 e,h⟩
theorem Ok.lt{a b:Int}{f g:Nat→Nat→Option α}{P:α→Prop}(hc:a<b)(h:Ok f P):Ok (fun k n=>bif decide (a<b)then f k n else g k n) P:=Ok.ct (decide_eq_true hc) h
theorem Ok.le{a b:Int}{f g:Nat→Nat→Option α}{P:α→Prop}(hc:a≤b)(h:Ok f P):Ok (fun k n=>bif decide (a≤b)then f k n else g k n) P:=Ok.ct (decide_eq_true hc) h
theorem Ok.ltN{a b:Nat}{f g:Nat→Nat→Option α}{P:α→Prop}(hc:a<b)(h:Ok f P):Ok (fun k n=>bif decide (a<b)then f k n else g k n) P:=Ok.ct (decide_eq_true hc) h
end

section
variable {ks : List Int}
theorem pickK(hk:bytesOk ks){c:Cu}{m:Nat}(h:CurOk c m)(hm:m+2≤1000000000){n:Int}(hn:n≤1000000):Ok (fun _ _=>spec_l1Cur_pick ks c n) (fun r=>CurOk r.2 (m+2)∧0≤r.1∧(1≤n→r.1<n)):=by
 obtain⟨r,c',e,h1,h2⟩:=pick_ok hk h hm hn
 exact .const e ⟨h1,h2⟩
theorem amongK(hk:bytesOk ks){c:Cu}{m:Nat}(h:CurOk c m)(hm:m+2≤1000000000){l:List Int}(h0:l ≠ [])(hl:l.length≤1000):Ok (fun _ _=>spec_l1Cur_among ks c l) (fun r=>CurOk r.2 (m+2)∧r.1∈l):=by
 obtain⟨r,c',e,h1,h2⟩:=among_ok hk h hm h0 hl
 exact .const e ⟨h1,h2⟩
theorem oneK(hk:bytesOk ks){c:Cu}{m:Nat}(h:CurOk c m)(hm:m+2≤1000000000){n:Int}(hn:n≤1000000):Ok (fun _ _=>spec_l1Cur_one ks c n) (fun r=>CurOk r.2 (m+2)):=by
 obtain⟨r,c',e,h1⟩:=one_ok hk h hm hn
 exact .const e h1
end
end Go.Ev.G

namespace Go.Ev.G
open Go Go.Ev
set_option maxRecDepth 100000

theorem poOrderK(a b:Tm):∃r,spec_poOrder a b=some r:=by
 have hs:∀x:Int,∃r,spec_l1Sign x=some r:=by
  intro x
  unfold spec_l1Sign
  cases decide (x>0)
  ·cases decide (x<0) <;> exact⟨_,rfl⟩
  ·exact⟨_,rfl⟩
 unfold spec_poOrder
 obtain⟨r1,e1⟩:=hs (IntKind.wrap .i64 (a.2.1 - b.2.1))
 obtain⟨r2,e2⟩:=hs (IntKind.wrap .i64 (a.2.2.1 - b.2.2.1))
 obtain⟨r3,e3⟩:=hs (IntKind.wrap .i64 (a.2.2.2 - b.2.2.2))
 rw [e1,e2,e3]
 cases (a.2.1 != b.2.1)
 ·cases (a.2.2.1 != b.2.2.1) <;> exact⟨_,rfl⟩
 ·exact⟨_,rfl⟩
theorem poOrderO(a b:Tm):Ok (fun _ _=>spec_poOrder a b) (fun _=>True):=by
 obtain⟨r,e⟩:=poOrderK a b
 exact .const e trivial
theorem poPutL{R:List Tm}{t:Tm}(hR:R.length≤1000000):∀(j i:Nat),i+j=R.length→Ok (fun k n=>spec_poPut_L28 k n R t i) (fun s=>∃y,s = .inr y∧∃p:Nat,y=(R,t,(p:Int),())∧p≤R.length)
 | 0,i,h=>Ok.step (fun k n=>spec_poPut_L28.eq_2 k _ _ _ n) (Ok.cf (decide_eq_false (by omega)) (.pure ⟨_,rfl,i,rfl,by omega⟩))
 | j+1,i,h=>by
  refine Ok.step (fun k n=>spec_poPut_L28.eq_2 k _ _ _ n) (Ok.lt (by omega) (Ok.le (by omega) (Ok.lt (by omega) (Ok.bind (poOrderO _ _) fun r _=>Ok.ite (fun _ => ?_) (fun _ => .pure ⟨_,rfl,i,rfl,by omega⟩)))))
  rw [w64_next (by simp only [lenB];omega)]
  exact poPutL hR j (i+1) (by omega)
theorem poPutO{R:List Tm}{t:Tm}(hR:R.length≤1000000):Ok (fun k _=>spec_poPut k R t) (fun R'=>R'.length≤R.length+1):=by
 refine Ok.eq (fun k q=>by rw [spec_poPut]) ?_
 refine Ok.bth (Ok.diag (poPutL hR R.length 0 (by omega))) fun y hy => ?_
 obtain⟨p,rfl,hp⟩:=hy
 refine Ok.le (by simp only;omega) (Ok.le (by simp only;omega) ?_)
 refine Ok.bth (P:=fun y=>y.1=R∧y.2.2.1=(p:Int)∧y.2.2.2.1.length+p≤R.length) ?_ fun y hy => ?_
 ·refine Ok.ite (fun hc => ?_) (fun _ => .pure ⟨_,rfl,rfl,rfl,by simp;omega⟩)
  have hc:=of_decide_eq_true hc
  simp only at hc
  refine Ok.le (by simp only;omega) (Ok.lt hc (Ok.bind (poOrderO _ _) fun r _=>Ok.ite (fun _ => ?_) (fun _ => .pure ⟨_,rfl,rfl,rfl,by simp;omega⟩)))
  simp only [w64_next (show p<lenB by simp only [lenB];omega)]
  exact Ok.le (by omega) (Ok.lt hc (Ok.le (by omega) (Ok.le (by omega) (.pure ⟨_,rfl,rfl,rfl,by simp;omega⟩))))
 ·obtain⟨h1,h2,h3⟩:=hy
  simp only [h1,h2,Int.toNat_natCast]
  have hl:(([]:List Tm)++List.drop 0 (List.take p R)).length=p:=by simp;omega
  refine Ok.le (by omega) (Ok.le (by omega) (Ok.ltN (by simp;omega) ?_))
  refine Ok.bth (P:=fun z=>z.1=y.2.2.2.1∧z.2.1.length≤p+1) ?_ fun z hz => ?_
  ·refine Ok.ite (fun _=>Ok.ltN (by rw [hl];simp;omega) (.pure ⟨_,rfl,rfl,?_⟩)) (fun _ => .pure ⟨_,rfl,rfl,?_⟩)
   ·rw [List.length_append,hl];simp
   ·rw [hl];omega
  ·obtain⟨h4,h5⟩:=hz
   rw [h4]
   exact Ok.ltN (by omega) (.pure (by rw [List.length_append];omega))
theorem poSumL{ts:List Tm}(ht:ts.length≤100000):∀(j i:Nat) (R:List Tm),i+j=ts.length→R.length≤i→Ok (fun k n=>spec_poSum_L58 k n R ts (ts.length:Int) i) (fun s=>∃y,s = .inr y∧y.1.length≤ts.length)
 | 0,i,R,h,hR=>Ok.step (fun k n=>spec_poSum_L58.eq_2 k _ _ _ _ n) (Ok.cf (decide_eq_false (by omega)) (.pure ⟨_,rfl,by simp only;omega⟩))
 | j+1,i,R,h,hR=>by
  refine Ok.step (fun k n=>spec_poSum_L58.eq_2 k _ _ _ _ n) (Ok.lt (by omega) (Ok.le (by omega) (Ok.lt (by omega) (Ok.bind (poPutO (by omega)) fun R' hR' => ?_))))
  rw [w64_next (by simp only [lenB];omega)]
  exact poSumL ht j (i+1) R' (by omega) (by omega)
theorem poSumO{ts:List Tm}(ht:ts.length≤100000):Ok (fun k _=>spec_poSum k ts) (fun r=>r.1.length≤ts.length):=by
 refine Ok.eq (fun k q=>by rw [spec_poSum]) ?_
 refine Ok.bth (Ok.diag (poSumL ht ts.length 0 [] (by omega) (by simp))) fun y hy => ?_
 refine Ok.bind (Ok.of (poGood_ev (by simp only [lenB];omega)) trivial (P:=fun _=>True)) fun r _=>Ok.ite (fun _ => .pure (by simp)) (fun _ => .pure hy)
theorem poAddO{p q:List Tm}(hp:p.length≤50000)(hq:q.length≤50000):Ok (fun k _=>spec_poAdd k p q) (fun r=>r.1.length≤p.length+q.length):=by
 refine Ok.eq (fun k q=>by rw [spec_poAdd]) ?_
 refine Ok.ltN (by simp;omega) (Ok.ltN (by simp;omega) (Ok.bind (poSumO (by simp;omega)) fun r hr => .pure ?_))
 simpa using hr
theorem poWithO(t:Tm)(i e:Int):Ok (fun _ _=>spec_poWith t i e) (fun _=>True):=by
 unfold spec_poWith
 exact Ok.ite (fun _ => .pure trivial) (fun _=>Ok.ite (fun _ => .pure trivial) (fun _ => .pure trivial))

section
variable {ks : List Int}
theorem termL(hk:bytesOk ks){n:Nat}(hn:n≤4){x4:Tm}:∀(j i:Nat) (c:Cu) (m:Nat) (t:Tm) (l:Int),i+j=n→CurOk c m→m+4*j≤1000000000→0≤l→l≤4 →
  Ok (fun k q=>spec_l1Cur_term_L122 k ks q c n x4 t l i) (fun s=>∃y,s = .inr y∧CurOk y.1 (m+4*j))
 | 0,i,c,m,t,l,h,hc,hm,l0,l4=>Ok.step (fun k q=>spec_l1Cur_term_L122.eq_2 k ks _ _ _ _ _ _ q) (Ok.cf (decide_eq_false (by omega)) (.pure ⟨_,rfl,hc.mono (by omega) (by omega)⟩))
 | j+1,i,c,m,t,l,h,hc,hm,l0,l4=>by
  refine Ok.step (fun k q=>spec_l1Cur_term_L122.eq_2 k ks _ _ _ _ _ _ q) (Ok.lt (by omega) ?_)
  rw [w64 (n:=l+1) (by omega) (by omega)]
  refine Ok.bind (pickK hk hc (by omega) (by omega)) fun r3 h3 => ?_
  have b3:=h3.2.2 (by omega)
  have a3:=h3.2.1
  refine Ok.bind (amongK hk h3.1 (by omega) (by simp) (by simp)) fun r4 h4 => ?_
  have m4:=h4.2
  simp only [List.mem_cons,List.not_mem_nil,or_false]at m4
  refine Ok.bth (P:=fun y=>CurOk y.1 (m+4)∧y.2.1=(n:Int)∧y.2.2.1=x4∧y.2.2.2.2.1=l∧y.2.2.2.2.2.1=(i:Int)∧0≤y.2.2.2.2.2.2.1∧y.2.2.2.2.2.2.1≤l) ?_ fun y hy => ?_
  ·refine Ok.ite (fun _ => .pure ⟨_,rfl,h4.1.mono (by omega) (by omega),rfl,rfl,rfl,rfl,l0,Int.le_refl _⟩) (fun hq => .pure ⟨_,rfl,h4.1.mono (by omega) (by omega),rfl,rfl,rfl,rfl,by simp only;omega,?_⟩)
   have:=of_decide_eq_false hq
   simp only;omega
  ·obtain⟨y1,y2,y3,y4,y5,y6,y7⟩:=hy
   refine Ok.bind (poWithO _ _ _) fun r6 _ => ?_
   rw [y2,y3,y4,y5,w64_next (m:=i) (by simp only [lenB];omega),w64 (n:=l - y.2.2.2.2.2.2.1) (by omega) (by omega)]
   have:=termL hk hn (x4:=x4) j (i+1) y.1 (m+4) r6 (l - y.2.2.2.2.2.2.1) (by omega) y1 (by omega) (by omega) (by omega)
   exact this.mono fun s hs=>by obtain⟨z,e,hz⟩:=hs;exact⟨z,e,hz.mono (by omega) (by omega)⟩
theorem termO(hk:bytesOk ks){c:Cu}{m:Nat}(h:CurOk c m)(hm:m+24≤1000000000){n:Nat}(hn:n≤4):Ok (fun k _=>spec_l1Cur_term k ks c n) (fun r=>CurOk r.2 (m+24)):=by
 refine Ok.eq (fun k q=>by rw [spec_l1Cur_term]) ?_
 refine Ok.bind (pickK hk h (by omega) (by omega)) fun r1 h1=>Ok.bind (amongK hk h1.1 (by omega) (by simp) (by simp)) fun r2 h2 => ?_
 refine Ok.bth (Ok.diag (termL hk hn n 0 r2.2 (m+4) _ 4 (by omega) (h2.1.mono (by omega) (by omega)) (by omega) (by omega) (by omega))) fun y hy => ?_
 refine Ok.bind (oneK hk (hy.mono (m':=m+20) (by omega) (by omega)) (by omega) (by omega)) fun r h11=>Ok.ite (fun _ => ?_) (fun _ => .pure (h11.mono (by omega) (by omega)))
 exact Ok.bind (amongK hk h11 (by omega) (by simp) (by simp)) fun r12 h12 => .pure (h12.1.mono (by omega) (by omega))
theorem polyL(hk:bytesOk ks){n:Nat}(hn:n≤4){M:Nat}(hM:M≤100):∀(j i:Nat) (c:Cu) (m:Nat) (p:List Tm),i+j=M→CurOk c m→m+24*j≤1000000000→p.length≤i →
  Ok (fun k q=>spec_l1Cur_poly_L250 k ks q c n p M i) (fun s=>∃y,s = .inr y∧CurOk y.1 (m+24*j)∧y.2.1.length≤M)
 | 0,i,c,m,p,h,hc,hm,hp=>Ok.step (fun k q=>spec_l1Cur_poly_L250.eq_2 k ks _ _ _ _ _ q) (Ok.cf (decide_eq_false (by omega)) (.pure ⟨_,rfl,hc.mono (by omega) (by omega),by simp only;omega⟩))
 | j+1,i,c,m,p,h,hc,hm,hp=>by
  refine Ok.step (fun k q=>spec_l1Cur_poly_L250.eq_2 k ks _ _ _ _ _ q) (Ok.lt (by omega) (Ok.bind (termO hk hc (by omega) hn) fun r4 h4=>Ok.bind (poAddO (by omega) (by simp)) fun r5 h5 => ?_))
  rw [w64_next (m:=i) (by simp only [lenB];omega)]
  have fin:∀p':List Tm,p'.length≤i+1→Ok (fun k q=>spec_l1Cur_poly_L250 k ks q r4.2 n p' M ((i+1:Nat):Int)) (fun s=>∃y,s = .inr y∧CurOk y.1 (m+24*(j+1))∧y.2.1.length≤M):=by
   intro p' hp'
   have:=polyL hk hn hM j (i+1) r4.2 (m+24) p' (by omega) h4 (by omega) hp'
   exact this.mono fun s hs=>by obtain⟨z,e,hz⟩:=hs;exact⟨z,e,hz.1.mono (by omega) (by omega),hz.2⟩
  exact Ok.ite (fun _=>fin r5.1 (by simp at h5;omega)) (fun _=>fin p (by omega))
theorem polyO(hk:bytesOk ks){c:Cu}{m:Nat}(h:CurOk c m)(hm:m+600≤1000000000){n:Nat}(hn:n≤4):Ok (fun k _=>spec_l1Cur_poly k ks c n) (fun r=>CurOk r.2 (m+600)∧r.1.length≤24):=by
 refine Ok.eq (fun k q=>by rw [spec_l1Cur_poly]) ?_
 refine Ok.bind (pickK hk h (by omega) (by omega)) fun r1 h1 => ?_
 have b1:=h1.2.2 (by omega)
 have a1:=h1.2.1
 refine Ok.bth (P:=fun y=>CurOk y.1 (m+4)∧y.2.1=(n:Int)∧y.2.2.1 = []∧∃M:Nat,y.2.2.2.1=(M:Int)∧M≤24) ?_ fun y hy => ?_
 ·refine Ok.bind (oneK hk h1.1 (by omega) (by omega)) fun r2 h2=>Ok.ite (fun _ => .pure ⟨_,rfl,h2,rfl,rfl,24,rfl,by omega⟩) (fun _ => .pure ⟨_,rfl,h2,rfl,rfl,(1+r1.1).toNat,?_,by omega⟩)
  rw [w64 (by omega) (by omega)]
  simp only;omega
 ·obtain⟨y1,y2,y3,M,y4,hM⟩:=hy
  rw [y2,y3,y4]
  refine Ok.bth (Ok.diag (polyL hk hn (M:=M) (by omega) M 0 y.1 (m+4) [] (by omega) y1 (by omega) (by simp))) fun z hz => ?_
  refine Ok.bind (oneK hk (hz.1.mono (m':=m+590) (by omega) (by omega)) (by omega) (by omega)) fun r9 h9=>Ok.ite (fun _ => .pure ⟨h9.mono (by omega) (by omega),by simp⟩) (fun _ => .pure ⟨h9.mono (by omega) (by omega),by have:=hz.2;simp only;omega⟩)
theorem systemL(hk:bytesOk ks){n:Nat}(hn:n≤4):∀(j:Nat) (s:List (List Tm)) (c:Cu) (m:Nat),s.length+j=n→(∀r∈s,r.length≤24)→CurOk c m→m+600*j≤1000000000 →
  Ok (fun k q=>spec_l1Cur_system_L28 k ks q c n s) (fun z=>∃y,z = .inr y∧CurOk y.2.1 (m+600*j)∧y.1.length=n∧∀r∈y.1,r.length≤24)
 | 0,s,c,m,h,hs,hc,hm=>Ok.step (fun k q=>spec_l1Cur_system_L28.eq_2 k ks _ _ _ q) (Ok.cf (decide_eq_false (by omega)) (.pure ⟨_,rfl,hc.mono (by omega) (by omega),by simp only;omega,hs⟩))
 | j+1,s,c,m,h,hs,hc,hm=>by
  refine Ok.step (fun k q=>spec_l1Cur_system_L28.eq_2 k ks _ _ _ q) (Ok.lt (by omega) (Ok.bind (polyO hk hc (by omega) hn) fun r1 h1=>Ok.ltN (by simp;omega) ?_))
  have:=systemL hk hn j (s ++ [r1.1]) r1.2 (m+600) (by simp;omega) (by
   intro r hr
   rcases List.mem_append.1 hr with hr | hr
   ·exact hs r hr
   ·simp at hr;rw [hr];exact h1.2) h1.1 (by omega)
  exact this.mono fun s hs=>by obtain⟨z,e,hz⟩:=hs;exact⟨z,e,hz.1.mono (by omega) (by omega),hz.2⟩
theorem systemO(hk:bytesOk ks){c:Cu}{m:Nat}(h:CurOk c m)(hm:m+2400≤1000000000){n:Nat}(hn:n≤4):Ok (fun k _=>spec_l1Cur_system k ks c n) (fun r=>CurOk r.2 (m+2400)∧r.1.length=n∧∀x∈r.1,x.length≤24):=by
 refine Ok.eq (fun k q=>by rw [spec_l1Cur_system]) ?_
 exact Ok.bth (Ok.diag (systemL hk hn n [] c m (by simp) (by simp) h (by omega))) fun y hy => .pure ⟨hy.1.mono (by omega) (by omega),hy.2⟩
end
end Go.Ev.G

namespace Go.Ev.G
open Go Go.Ev
set_option maxRecDepth 100000

theorem dyPowO{m:Int}(h0:0≤m)(h:m≤20):Ok (fun _ _=>spec_dyPower m) (fun r=>r=((2 ^ m.toNat:Nat):Int)∧1≤r∧r≤1048576):=by
 have e:=dyPower_eq (m:=m.toNat) (by omega)
 rw [show((m.toNat:Nat):Int)=m by omega]at e
 have h1:2 ^ m.toNat≤2 ^ 20:=Nat.pow_le_pow_right (by omega) (by omega)
 have h2:0<2 ^ m.toNat:=Nat.two_pow_pos _
 exact .const e ⟨rfl,by omega,by omega⟩
theorem dyPowS{m:Int}(h0:0≤m)(h:m≤8):Ok (fun _ _=>spec_dyPower m) (fun r=>r=((2 ^ m.toNat:Nat):Int)∧1≤r∧r≤256):=by
 obtain⟨r,e,hr,h1,_⟩:=dyPowO h0 (by omega)
 have h3:2 ^ m.toNat≤2 ^ 8:=Nat.pow_le_pow_right (by omega) (by omega)
 exact⟨r,e,hr,h1,by omega⟩
theorem leastO(a b:Int):Ok (fun _ _=>spec_l1Least a b) (fun r=>r=min a b):=by
 unfold spec_l1Least
 refine Ok.ite (fun h => .pure ?_) (fun h => .pure ?_)
 ·have:=of_decide_eq_true h;omega
 ·have:=of_decide_eq_false h;omega
theorem mostO(a b:Int):Ok (fun _ _=>spec_l1Most a b) (fun r=>r=max a b):=by
 unfold spec_l1Most
 refine Ok.ite (fun h => .pure ?_) (fun h => .pure ?_)
 ·have:=of_decide_eq_true h;omega
 ·have:=of_decide_eq_false h;omega
theorem ownO{l:List Int}(h:l.length≤1000):Ok (fun _ _=>spec_l1Own l) (fun r=>r=l):=by
 unfold spec_l1Own
 exact Ok.ltN (by simp;omega) (.pure (by simp))
abbrev Bx3:=Int×List Int×List Int
def bxN(n:Nat)(b:Bx3):Prop:=b.2.1.length=n∧b.2.2.length=n
theorem bxEvenL{b:Bx3}{n:Nat}(hb:bxN n b)(hn:n≤100):∀(j i:Nat),i+j=n→Ok (fun k q=>spec_bxEven_L26 k q b b.2.1 (b.2.1.length:Int) i) (fun _=>True)
 | 0,i,h=>Ok.step (fun k q=>spec_bxEven_L26.eq_2 k _ _ _ _ q) (Ok.cf (decide_eq_false (by rw [hb.1];omega)) (.pure trivial))
 | j+1,i,h=>by
  refine Ok.step (fun k q=>spec_bxEven_L26.eq_2 k _ _ _ _ q) (Ok.lt (by rw [hb.1];omega) (Ok.le (by omega) (Ok.lt (by rw [hb.1];omega) (Ok.ite (fun _ => .pure trivial) (fun _=>Ok.le (by omega) (Ok.lt (by rw [hb.2];omega) (Ok.ite (fun _ => .pure trivial) (fun _ => ?_))))))))
  rw [w64_next (m:=i) (by simp only [lenB];omega)]
  exact bxEvenL hb hn j (i+1) (by omega)
theorem bxEvenO{b:Bx3}{n:Nat}(hb:bxN n b)(hn:n≤100):Ok (fun k _=>spec_bxEven k b) (fun _=>True):=by
 refine Ok.eq (fun k q=>by rw [spec_bxEven]) ?_
 exact Ok.bothl (Ok.diag (bxEvenL hb hn n 0 (by omega))) (fun q _ => .pure trivial) (fun y _ => .pure trivial)
theorem halveL{z:Bx3}{n:Nat}(hn:n≤100):∀(j i:Nat) (b:Bx3),i+j=n→bxN n b→Ok (fun k q=>spec_bxMake_L1814 k q z b (n:Int) i) (fun s=>∃y,s = .inr y∧bxN n y.2.1∧y.2.1.1=b.1∧y.1=z)
 | 0,i,b,h,hb=>Ok.step (fun k q=>spec_bxMake_L1814.eq_2 k _ _ _ _ q) (Ok.cf (decide_eq_false (by omega)) (.pure ⟨_,rfl,hb,rfl,rfl⟩))
 | j+1,i,b,h,hb=>by
  have h1:(i:Int)<(b.2.1.length:Int):=by rw [hb.1];omega
  have h2:(i:Int)<(b.2.2.length:Int):=by rw [hb.2];omega
  refine Ok.step (fun k q=>spec_bxMake_L1814.eq_2 k _ _ _ _ q) (Ok.lt (by omega) (Ok.le (by omega) (Ok.lt h1 (Ok.le (by omega) (Ok.lt h1 (Ok.le (by omega) (Ok.lt h2 (Ok.le (by omega) (Ok.lt h2 ?_)))))))))
  rw [w64_next (m:=i) (by simp only [lenB];omega)]
  have:=halveL (z:=z) hn j (i+1) (b.1,(b.2.1.set (Int.toNat i) (IntKind.wrap .i64 (Int.tdiv (b.2.1.getD (Int.toNat i) 0) 2))),(b.2.2.set (Int.toNat i) (IntKind.wrap .i64 (Int.tdiv (b.2.2.getD (Int.toNat i) 0) 2)))) (by omega) ⟨by simpa using hb.1,by simpa using hb.2⟩
  exact this
theorem makeL{z:Bx3}{n:Nat}(hn:n≤100):∀(j:Nat) (b:Bx3),b.1≤j→j≤1000→bxN n b→Ok (fun k q=>spec_bxMake_L28 k q z b) (fun s=>∃y,s = .inr y∧bxN n y.2.1)
 | 0,b,h,hj,hb=>Ok.step (fun k q=>spec_bxMake_L28.eq_2 k _ _ q) (Ok.cf (decide_eq_false (by omega)) (.pure ⟨_,rfl,hb⟩))
 | j+1,b,h,hj,hb=>by
  refine Ok.step (fun k q=>spec_bxMake_L28.eq_2 k _ _ q) (Ok.ite (fun hp => ?_) (fun _ => .pure ⟨_,rfl,hb⟩))
  have hp:=of_decide_eq_true hp
  refine Ok.bind (bxEvenO hb hn) fun r _=>Ok.ite (fun _ => ?_) (fun _ => .pure ⟨_,rfl,hb⟩)
  have hl:=halveL (z:=z) hn n 0 (IntKind.wrap .i64 (b.1 - 1),b.2) (by omega) hb
  rw [hb.1]
  refine Ok.bth (Ok.diag hl) fun y hy => ?_
  obtain⟨y1,y2,y3⟩:=hy
  rw [y3]
  refine makeL hn j y.2.1 ?_ (by omega) y1
  rw [y2]
  simp only
  rw [w64 (by omega) (by omega)]
  omega
theorem bxMakeO{K:Int}{lo hi:List Int}{n:Nat}(hK:K≤1000)(hn:n≤100)(h1:lo.length=n)(h2:hi.length=n):Ok (fun k _=>spec_bxMake k K lo hi) (fun r=>r.2=true→bxN n r.1):=by
 refine Ok.eq (fun k q=>by rw [spec_bxMake]) ?_
 refine Ok.bind (ownO (by omega)) fun r1 e1=>Ok.bind (ownO (by omega)) fun r2 e2 => ?_
 rw [e1,e2]
 refine Ok.bth (Ok.diag (makeL hn 1000 (K,lo,hi) hK (by omega) ⟨h1,h2⟩)) fun y hy => ?_
 refine Ok.bind (Ok.of (bxGood_ev (by rw [hy.1];simp only [lenB];omega)) trivial (P:=fun _=>True)) fun r _=>Ok.ite (fun _ => .pure (by simp)) (fun _ => .pure (fun _=>hy))

section
variable {ks : List Int}
theorem boxL(hk:bytesOk ks){n:Nat}(hn:n≤4){z:Bx3}{K:Int}(hK:0≤K∧K≤8){M:Int}(hM:8≤M∧M≤2048):∀(j:Nat) (lo hi:List Int) (c:Cu) (m:Nat),lo.length+j=n→hi.length=lo.length→CurOk c m→m+12*j≤1000000000 →
  Ok (fun k q=>spec_l1Cur_box_L124 k ks q c n z K M lo hi) (fun s=>∃y,s = .inr y∧y.1=(n:Int)∧y.2.2.1=K∧y.2.2.2.1.length=n∧y.2.2.2.2.1.length=n∧CurOk y.2.2.2.2.2.1 (m+12*j))
 | 0,lo,hi,c,m,h,h2,hc,hm=>Ok.step (fun k q=>spec_l1Cur_box_L124.eq_2 k ks _ _ _ _ _ _ _ q) (Ok.cf (decide_eq_false (by omega)) (.pure ⟨_,rfl,rfl,rfl,by simp only;omega,by simp only;omega,hc.mono (by omega) (by omega)⟩))
 | j+1,lo,hi,c,m,h,h2,hc,hm=>by
  refine Ok.step (fun k q=>spec_l1Cur_box_L124.eq_2 k ks _ _ _ _ _ _ _ q) (Ok.lt (by omega) ?_)
  have w2:IntKind.wrap .i64 (2*M)=2*M:=w64 (by omega) (by omega)
  rw [w2]
  refine Ok.bind (dyPowS hK.1 hK.2) fun r3 h3=>Ok.bind (pickK hk hc (by omega) (by omega)) fun r4 h4=>Ok.bind (pickK hk h4.1 (by omega) (by omega)) fun r5 h5=>Ok.bind (amongK hk h5.1 (by omega) (by simp) (by simp)) fun r6 h6 => ?_
  refine Ok.bind (dyPowS hK.1 hK.2) fun r7 h7=>Ok.bind (dyPowS hK.1 hK.2) fun r8 h8=>Ok.bind (pickK hk h6.1 (by omega) (by omega)) fun r9 h9=>Ok.bind (pickK hk h9.1 (by omega) (by omega)) fun r10 h10=>Ok.bind (amongK hk h10.1 (by omega) (by simp) (by simp)) fun r11 h11 => ?_
  refine Ok.bind (leastO _ _) fun r12 _=>Ok.bind (mostO _ _) fun r13 _=>Ok.ltN (by simp;omega) (Ok.bind (leastO _ _) fun r14 _=>Ok.bind (mostO _ _) fun r15 _=>Ok.ltN (by simp;omega) ?_)
  have:=boxL hk hn (z:=z) hK hM j (lo ++ [r13]) (hi ++ [r15]) r11.2 (m+12) (by simp;omega) (by simp;omega) (h11.1.mono (by omega) (by omega)) (by omega)
  exact this.mono fun s hs=>by obtain⟨y,e,y1,y2,y3,y4,y5⟩:=hs;exact⟨y,e,y1,y2,y3,y4,y5.mono (by omega) (by omega)⟩
theorem unitL{n:Nat}(hn:n≤4){z:Bx3}{c:Cu}{m:Nat}(hc:CurOk c m):∀(j:Nat) (lo hi:List Int),lo.length+j=n→hi.length=lo.length →
  Ok (fun k q=>spec_l1Cur_box_L8148 k ks q n z lo hi c) (fun s=>∃y,s = .inr y∧y.2.1.length=n∧y.2.2.1.length=n∧CurOk y.2.2.2.1 m)
 | 0,lo,hi,h,h2=>Ok.step (fun k q=>spec_l1Cur_box_L8148.eq_2 k ks _ _ _ _ _ q) (Ok.cf (decide_eq_false (by omega)) (.pure ⟨_,rfl,by simp only;omega,by simp only;omega,hc⟩))
 | j+1,lo,hi,h,h2=>by
  refine Ok.step (fun k q=>spec_l1Cur_box_L8148.eq_2 k ks _ _ _ _ _ q) (Ok.lt (by omega) (Ok.ltN (by simp;omega) (Ok.ltN (by simp;omega) ?_)))
  exact unitL hn hc j (lo ++ [0]) (hi ++ [1]) (by simp;omega) (by simp;omega)
theorem boxO(hk:bytesOk ks){c:Cu}{m:Nat}(h:CurOk c m)(hm:m+60≤1000000000){n:Nat}(hn:n≤4):Ok (fun k _=>spec_l1Cur_box k ks c n) (fun r=>CurOk r.2 (m+60)∧bxN n r.1):=by
 refine Ok.eq (fun k q=>by rw [spec_l1Cur_box]) ?_
 refine Ok.bind (amongK hk h (by omega) (by simp) (by simp)) fun r1 h1 => ?_
 have m1:=h1.2
 simp only [List.mem_cons,List.not_mem_nil,or_false]at m1
 have hK:0≤r1.1∧r1.1≤8:=by omega
 refine Ok.bind (dyPowS hK.1 hK.2) fun r2 h2 => ?_
 have w:IntKind.wrap .i64 (8*r2)=8*r2:=w64 (by omega) (by omega)
 rw [w]
 refine Ok.bth (Ok.diag (boxL hk hn hK (by omega) n [] [] r1.2 (m+2) (by simp) rfl h1.1 (by omega))) fun y hy => ?_
 obtain⟨y1,y2,y3,y4,y5⟩:=hy
 rw [y1,y2]
 refine Ok.bind (bxMakeO (n:=n) (by omega) (by omega) y3 y4) fun r19 h19=>Ok.ite (fun hr => ?_) (fun hr => .pure ⟨y5.mono (by omega) (by omega),h19 (by simpa using hr)⟩)
 refine Ok.bth (Ok.diag (unitL hn y5 n [] [] (by simp) rfl)) fun z hz => .pure ⟨hz.2.2.mono (by omega) (by omega),hz.1,hz.2.1⟩
def bxS(b:Bx3):Prop:=b.2.1.length≤4∧b.2.2.length≤4
theorem bxN.s{n:Nat}{b:Bx3}(hn:n≤4)(h:bxN n b):bxS b:=⟨by rw [h.1];omega,by rw [h.2];omega⟩
theorem anyBoxO(hk:bytesOk ks){c:Cu}{m:Nat}(h:CurOk c m)(hm:m+70≤1000000000){n:Nat}(hn1:1≤n)(hn:n≤4):Ok (fun k _=>spec_l1Cur_anyBox k ks c n) (fun r=>CurOk r.2 (m+70)∧bxS r.1):=by
 refine Ok.eq (fun k q=>by rw [spec_l1Cur_anyBox]) ?_
 refine Ok.bind (boxO hk h (by omega) hn) fun r1 h1=>Ok.bind (pickK hk h1.1 (by omega) (by omega)) fun r2 h2 => ?_
 have hs:=h1.2.s hn
 have g1:(0:Int)<(r1.1.2.1.length:Int):=by rw [h1.2.1];omega
 have g2:(0:Int)<(r1.1.2.2.length:Int):=by rw [h1.2.2];omega
 have w:IntKind.wrap .i64 ((n:Int) - 1)=(n:Int) - 1:=w64 (by omega) (by omega)
 refine Ok.ite (fun _ => ?_) fun _=>Ok.ite (fun _ => ?_) fun _=>Ok.ite (fun _ => ?_) fun _=>Ok.ite (fun _ => ?_) fun _=>Ok.ite (fun _ => ?_) fun _ => ?_
 ·exact Ok.bind (amongK hk h2.1 (by omega) (by simp) (by simp)) fun r3 h3 => .pure ⟨h3.1.mono (by omega) (by omega),hs⟩
 ·refine Ok.lt g2 (Ok.bind (leastO _ _) fun r4 e4=>Ok.bind (mostO _ _) fun r5 e5=>Ok.bind (dyPowO (by omega) (by omega)) fun r6 _=>Ok.bind (amongK hk h2.1 (by omega) (by simp) (by simp)) fun r7 h7=>Ok.lt g1 (.pure ⟨h7.1.mono (by omega) (by omega),?_⟩))
  exact⟨by simpa using hs.1,hs.2⟩
 ·refine Ok.bind (leastO _ _) fun r4 e4=>Ok.bind (mostO _ _) fun r5 e5=>Ok.bind (dyPowO (by omega) (by omega)) fun r6 _=>Ok.bind (amongK hk h2.1 (by omega) (by simp) (by simp)) fun r7 h7=>Ok.lt g2 (.pure ⟨h7.1.mono (by omega) (by omega),?_⟩)
  exact⟨hs.1,by simpa using hs.2⟩
 ·rw [w]
  refine Ok.le (by omega) (Ok.le (by rw [h1.2.2];omega) (.pure ⟨h2.1.mono (by omega) (by omega),hs.1,?_⟩))
  have:=hs.2
  simp only [List.length_take];omega
 ·exact .pure ⟨h2.1.mono (by omega) (by omega),by simp,by simp⟩
 ·exact .pure ⟨h2.1.mono (by omega) (by omega),hs⟩
theorem coarseL(hk:bytesOk ks){n:Nat}(hn:n≤4){z:Bx3}{K:Int}(hK:0≤K∧K≤8){M:Int}(hM:8≤M∧M≤2048):∀(j:Nat) (lo hi:List Int) (c:Cu) (m:Nat),lo.length+j=n→hi.length=lo.length→CurOk c m→m+12*j≤1000000000 →
  Ok (fun k q=>spec_l1Cur_coarse_L124 k ks q c n z K M lo hi) (fun s=>∃y,s = .inr y∧CurOk y.1 (m+12*j)∧y.2.1=(n:Int)∧y.2.2.2.1=K∧y.2.2.2.2.1.length=n∧y.2.2.2.2.2.1.length=n)
 | 0,lo,hi,c,m,h,h2,hc,hm=>Ok.step (fun k q=>spec_l1Cur_coarse_L124.eq_2 k ks _ _ _ _ _ _ _ q) (Ok.cf (decide_eq_false (by omega)) (.pure ⟨_,rfl,hc.mono (by omega) (by omega),rfl,rfl,by simp only;omega,by simp only;omega⟩))
 | j+1,lo,hi,c,m,h,h2,hc,hm=>by
  refine Ok.step (fun k q=>spec_l1Cur_coarse_L124.eq_2 k ks _ _ _ _ _ _ _ q) (Ok.lt (by omega) ?_)
  have w2:IntKind.wrap .i64 (2*M)=2*M:=w64 (by omega) (by omega)
  rw [w2]
  refine Ok.bind (dyPowS hK.1 hK.2) fun r3 h3=>Ok.bind (pickK hk hc (by omega) (by omega)) fun r4 h4=>Ok.bind (amongK hk h4.1 (by omega) (by simp) (by simp)) fun r5 h5 => ?_
  refine Ok.bind (dyPowS hK.1 hK.2) fun r6 h6=>Ok.bind (dyPowS hK.1 hK.2) fun r7 h7=>Ok.bind (pickK hk h5.1 (by omega) (by omega)) fun r8 h8=>Ok.bind (amongK hk h8.1 (by omega) (by simp) (by simp)) fun r9 h9 => ?_
  refine Ok.bind (leastO _ _) fun r12 _=>Ok.bind (mostO _ _) fun r13 _=>Ok.ltN (by simp;omega) (Ok.bind (leastO _ _) fun r14 _=>Ok.bind (mostO _ _) fun r15 _=>Ok.ltN (by simp;omega) ?_)
  have:=coarseL hk hn (z:=z) hK hM j (lo ++ [r13]) (hi ++ [r15]) r9.2 (m+12) (by simp;omega) (by simp;omega) (h9.1.mono (by omega) (by omega)) (by omega)
  exact this.mono fun s hs=>by obtain⟨y,e,y1,y2⟩:=hs;exact⟨y,e,y1.mono (by omega) (by omega),y2⟩
theorem coarseO(hk:bytesOk ks){c:Cu}{m:Nat}(h:CurOk c m)(hm:m+120≤1000000000){n:Nat}(hn:n≤4):Ok (fun k _=>spec_l1Cur_coarse k ks c n) (fun r=>CurOk r.2 (m+120)∧bxN n r.1):=by
 refine Ok.eq (fun k q=>by rw [spec_l1Cur_coarse]) ?_
 refine Ok.bind (amongK hk h (by omega) (by simp) (by simp)) fun r1 h1 => ?_
 have m1:=h1.2
 simp only [List.mem_cons,List.not_mem_nil,or_false]at m1
 have hK:0≤r1.1∧r1.1≤8:=by omega
 refine Ok.bind (dyPowS hK.1 hK.2) fun r2 h2 => ?_
 have w:IntKind.wrap .i64 (8*r2)=8*r2:=w64 (by omega) (by omega)
 rw [w]
 refine Ok.bth (Ok.diag (coarseL hk hn hK (by omega) n [] [] r1.2 (m+2) (by simp) rfl h1.1 (by omega))) fun y hy => ?_
 obtain⟨y1,y2,y3,y4,y5⟩:=hy
 rw [y2,y3]
 refine Ok.bind (bxMakeO (n:=n) (by omega) (by omega) y4 y5) fun r19 h19=>Ok.ite (fun hr => ?_) (fun hr => .pure ⟨y1.mono (by omega) (by omega),h19 (by simpa using hr)⟩)
 exact Ok.bind (boxO hk y1 (by omega) hn) fun r18 h18 => .pure ⟨h18.1.mono (by omega) (by omega),h18.2⟩

theorem apZ(hk:bytesOk ks){x y:Nat}(hx:x≤5)(hy:y≤5):∀(j z:Nat) (c:Cu) (m:Nat) (p:List Tm),z+j=5→CurOk c m→m+2*j≤1000000000→p.length≤21 →
  Ok (fun k q=>spec_l1Cur_anyPoly_L494888082 k ks q c p x y z) (fun s=>∃w,s = .inr w∧CurOk w.1 (m+2*j)∧w.2.1.length≤21∧w.2.2.1=(x:Int)∧w.2.2.2.1=(y:Int))
 | 0,z,c,m,p,h,hc,hm,hp=>by
  refine Ok.step (fun k q=>spec_l1Cur_anyPoly_L494888082.eq_2 k ks _ _ _ _ _ q) (Ok.cf (decide_eq_false ?_) (.pure ⟨_,rfl,hc.mono (by omega) (by omega),hp,rfl,rfl⟩))
  rw [w64 (n:=(x:Int)+y) (by omega) (by omega),w64 (by omega) (by omega)]
  omega
 | j+1,z,c,m,p,h,hc,hm,hp=>by
  refine Ok.step (fun k q=>spec_l1Cur_anyPoly_L494888082.eq_2 k ks _ _ _ _ _ q) (Ok.ite (fun _ => ?_) (fun _ => .pure ⟨_,rfl,hc.mono (by omega) (by omega),hp,rfl,rfl⟩))
  refine Ok.bind (pickK hk hc (by omega) (by omega)) fun r6 h6 => ?_
  have b6:=h6.2.2 (by omega)
  have a6:=h6.2.1
  refine Ok.ite (fun hl => ?_) (fun _ => .pure ⟨_,rfl,h6.1.mono (by omega) (by omega),hp,rfl,rfl⟩)
  have hl:=of_decide_eq_true hl
  rw [w64 (by omega) (by omega)]at hl
  refine Ok.ltN (by simp;omega) ?_
  rw [w64_next (m:=z) (by simp only [lenB];omega)]
  have:=apZ hk hx hy j (z+1) r6.2 (m+2) (p ++ [(1,(x:Int),(y:Int),(z:Int))]) (by omega) h6.1 (by omega) (by simp;omega)
  exact this.mono fun s hs=>by obtain⟨w,e,w1,w2⟩:=hs;exact⟨w,e,w1.mono (by omega) (by omega),w2⟩
theorem apY(hk:bytesOk ks){x:Nat}(hx:x≤5):∀(j y:Nat) (c:Cu) (m:Nat) (p:List Tm),y+j=5→CurOk c m→m+10*j≤1000000000→p.length≤21 →
  Ok (fun k q=>spec_l1Cur_anyPoly_L7732626 k ks q c p x y) (fun s=>∃w,s = .inr w∧CurOk w.1 (m+10*j)∧w.2.1.length≤21∧w.2.2.1=(x:Int))
 | 0,y,c,m,p,h,hc,hm,hp=>by
  refine Ok.step (fun k q=>spec_l1Cur_anyPoly_L7732626.eq_2 k ks _ _ _ _ q) (Ok.cf (decide_eq_false ?_) (.pure ⟨_,rfl,hc.mono (by omega) (by omega),hp,rfl⟩))
  rw [w64 (n:=(x:Int)+y) (by omega) (by omega)]
  omega
 | j+1,y,c,m,p,h,hc,hm,hp=>by
  refine Ok.step (fun k q=>spec_l1Cur_anyPoly_L7732626.eq_2 k ks _ _ _ _ q) (Ok.ite (fun _ => ?_) (fun _ => .pure ⟨_,rfl,hc.mono (by omega) (by omega),hp,rfl⟩))
  refine Ok.bth (Ok.diag (apZ hk hx (y:=y) (by omega) 5 0 c m p (by omega) hc (by omega) hp)) fun w hw => ?_
  obtain⟨w1,w2,w3,w4⟩:=hw
  rw [w3,w4,w64_next (m:=y) (by simp only [lenB];omega)]
  have:=apY hk hx j (y+1) w.1 (m+10) w.2.1 (by omega) w1 (by omega) w2
  exact this.mono fun s hs=>by obtain⟨v,e,v1,v2⟩:=hs;exact⟨v,e,v1.mono (by omega) (by omega),v2⟩
theorem apX(hk:bytesOk ks):∀(j x:Nat) (c:Cu) (m:Nat) (p:List Tm),x+j=5→CurOk c m→m+50*j≤1000000000→p.length≤21 →
  Ok (fun k q=>spec_l1Cur_anyPoly_L120822 k ks q c p x) (fun s=>∃w,s = .inr w∧w.1.length≤21∧CurOk w.2.1 (m+50*j))
 | 0,x,c,m,p,h,hc,hm,hp=>Ok.step (fun k q=>spec_l1Cur_anyPoly_L120822.eq_2 k ks _ _ _ q) (Ok.cf (decide_eq_false (by omega)) (.pure ⟨_,rfl,hp,hc.mono (by omega) (by omega)⟩))
 | j+1,x,c,m,p,h,hc,hm,hp=>by
  refine Ok.step (fun k q=>spec_l1Cur_anyPoly_L120822.eq_2 k ks _ _ _ q) (Ok.le (by omega) ?_)
  refine Ok.bth (Ok.diag (apY hk (x:=x) (by omega) 5 0 c m p (by omega) hc (by omega) hp)) fun w hw => ?_
  obtain⟨w1,w2,w3⟩:=hw
  rw [w3,w64_next (m:=x) (by simp only [lenB];omega)]
  have:=apX hk j (x+1) w.1 (m+50) w.2.1 (by omega) w1 (by omega) w2
  exact this.mono fun s hs=>by obtain⟨v,e,v1,v2⟩:=hs;exact⟨v,e,v1,v2.mono (by omega) (by omega)⟩
theorem anyPolyO(hk:bytesOk ks){c:Cu}{m:Nat}(h:CurOk c m)(hm:m+900≤1000000000){n:Nat}(hn:n≤4):Ok (fun k _=>spec_l1Cur_anyPoly k ks c n) (fun r=>CurOk r.2 (m+900)∧r.1.length≤48):=by
 refine Ok.eq (fun k q=>by rw [spec_l1Cur_anyPoly]) ?_
 refine Ok.bind (polyO hk h (by omega) hn) fun r1 h1=>Ok.bind (pickK hk h1.1 (by omega) (by omega)) fun r2 h2 => ?_
 have l1:=h1.2
 refine Ok.ite (fun _ => ?_) fun _=>Ok.ite (fun _ => ?_) fun _=>Ok.ite (fun _ => ?_) fun _=>Ok.ite (fun _ => ?_) fun _ => ?_
 ·exact Ok.bind (amongK hk h2.1 (by omega) (by simp) (by simp)) fun r3 h3=>Ok.ltN (by simp;omega) (.pure ⟨h3.1.mono (by omega) (by omega),by simp;omega⟩)
 ·exact Ok.bind (amongK hk h2.1 (by omega) (by simp) (by simp)) fun r3 h3=>Ok.bind (amongK hk h3.1 (by omega) (by simp) (by simp)) fun r4 h4=>Ok.ltN (by simp;omega) (.pure ⟨h4.1.mono (by omega) (by omega),by simp;omega⟩)
 ·exact Ok.ltN (by omega) (.pure ⟨h2.1.mono (by omega) (by omega),by simp;omega⟩)
 ·exact Ok.bth (Ok.diag (apX hk 5 0 r2.2 _ [] (by omega) h2.1 (by omega) (by simp))) fun y hy => .pure ⟨hy.2.mono (by omega) (by omega),by have:=hy.1;simp only;omega⟩
 ·exact .pure ⟨h2.1.mono (by omega) (by omega),by simp only;omega⟩
def syS(s:List (List Tm)):Prop:=s.length≤4∧∀r∈s,r.length≤48
theorem anySystemO(hk:bytesOk ks){c:Cu}{m:Nat}(h:CurOk c m)(hm:m+6000≤1000000000):Ok (fun k _=>spec_l1Cur_anySystem k ks c) (fun r=>CurOk r.2 (m+6000)∧syS r.1):=by
 refine Ok.eq (fun k q=>by rw [spec_l1Cur_anySystem]) ?_
 refine Ok.bind (amongK hk h (by omega) (by simp) (by simp)) fun r1 h1 => ?_
 have m1:=h1.2
 simp only [List.mem_cons,List.not_mem_nil,or_false]at m1
 obtain⟨n,hn,hn1,hn3⟩:∃n:Nat,r1.1=(n:Int)∧1≤n∧n≤3:=⟨r1.1.toNat,by omega,by omega,by omega⟩
 rw [hn]
 refine Ok.bind (systemO hk h1.1 (by omega) (n:=n) (by omega)) fun r2 h2=>Ok.bind (pickK hk h2.1 (by omega) (by omega)) fun r3 h3 => ?_
 have hs:syS r2.1:=⟨by rw [h2.2.1];omega,fun r hr=>by have:=h2.2.2 r hr;omega⟩
 refine Ok.ite (fun _ => ?_) fun _=>Ok.ite (fun _ => ?_) fun _=>Ok.ite (fun _ => ?_) fun _ => ?_
 ·refine Ok.bind (pickK hk h3.1 (by omega) (by omega)) fun r4 h4=>Ok.bind (anyPolyO hk h4.1 (by omega) (n:=3) (by omega)) fun r5 h5 => ?_
  have b4:=h4.2.2 (by omega)
  refine Ok.le h4.2.1 (Ok.lt (by rw [h2.2.1];omega) (.pure ⟨h5.1.mono (by omega) (by omega),by simpa using hs.1,fun x hx => ?_⟩))
  rcases List.mem_or_eq_of_mem_set hx with hx | hx
  ·exact hs.2 x hx
  ·rw [hx];exact h5.2
 ·exact .pure ⟨h3.1.mono (by omega) (by omega),by simp,by simp⟩
 ·exact Ok.bind (systemO hk h3.1 (by omega) (n:=4) (by omega)) fun r6 h6 => .pure ⟨h6.1.mono (by omega) (by omega),by rw [h6.2.1];omega,fun r hr=>by have:=h6.2.2 r hr;omega⟩
 ·exact .pure ⟨h3.1.mono (by omega) (by omega),hs⟩
end
end Go.Ev.G

namespace Go.Ev.G
open Go Go.Ev
set_option maxRecDepth 100000

theorem curZ:CurOk ((),0,0) 0:=⟨by decide,by decide,by decide⟩
section
variable {ks : List Int}
end
end Go.Ev.G

namespace Go.Ev.G
open Go Go.Ev
set_option maxRecDepth 100000
variable {ks : List Int}

theorem cubeL(hk:bytesOk ks){z:Bx3}{x4:List Tm}(hx4:x4.length=3){xs:List Int}(hxs:xs.length=3)(hx:∀x∈xs,0≤x∧x<3):∀(j i:Nat) (c:Cu) (m:Nat) (acc:List (List Tm)),i+j=3→acc.length=i→(∀r∈acc,r.length≤20)→CurOk c m→m+8*j≤1000000000 →
  Ok (fun k q=>spec_l1Cur_cubeSystem_L506 k ks q c z x4 acc xs (xs.length:Int) i) (fun w=>∃y,w = .inr y∧CurOk y.1 (m+8*j)∧y.2.2.1.length=3∧(∀r∈y.2.2.1,r.length≤20))
 | 0,i,c,m,acc,h,ha,hr,hc,hm=>Ok.step (fun k q=>spec_l1Cur_cubeSystem_L506.eq_2 k ks _ _ _ _ _ _ _ q) (Ok.cf (decide_eq_false (by omega)) (.pure ⟨_,rfl,hc.mono (by omega) (by omega),by simp only;omega,hr⟩))
 | j+1,i,c,m,acc,h,ha,hr,hc,hm=>by
  have hxi:=hx _ (getD_in (l:=xs) (j:=Int.toNat (i:Int)) (z:=0) (by omega))
  refine Ok.step (fun k q=>spec_l1Cur_cubeSystem_L506.eq_2 k ks _ _ _ _ _ _ _ q) (Ok.lt (by omega) (Ok.le (by omega) (Ok.lt (by omega) (Ok.le hxi.1 (Ok.lt (by omega) ?_)))))
  generalize x4.getD (Int.toNat (xs.getD (Int.toNat (i:Int)) 0)) (0,0,0,0)=t
  refine Ok.bth (P:=fun y=>CurOk y.1 (m+8)∧y.2.1=z∧y.2.2.1=x4∧y.2.2.2.1=acc∧y.2.2.2.2.1.length≤2∧y.2.2.2.2.2.1=xs∧y.2.2.2.2.2.2.1=(xs.length:Int)∧y.2.2.2.2.2.2.2.1=(i:Int)) ?_ fun y hy => ?_
  ·refine Ok.bind (oneK hk hc (by omega) (by omega)) fun r8 h8=>Ok.ite (fun _ => ?_) (fun _ => .pure ⟨_,rfl,h8.mono (by omega) (by omega),rfl,rfl,rfl,by simp,rfl,rfl,rfl⟩)
   refine Ok.bind (amongK hk h8 (by omega) (by simp) (by simp)) fun r9 h9=>Ok.bind (pickK hk h9.1 (by omega) (by omega)) fun r10 h10=>Ok.bind (pickK hk h10.1 (by omega) (by omega)) fun r11 h11=>Ok.bind (poAddO (by simp) (by simp)) fun r12 h12 => ?_
   simp only [List.length_cons,List.length_nil]at h12
   exact Ok.ite (fun _ => .pure ⟨_,rfl,h11.1.mono (by omega) (by omega),rfl,rfl,rfl,by simp only;omega,rfl,rfl,rfl⟩) (fun _ => .pure ⟨_,rfl,h11.1.mono (by omega) (by omega),rfl,rfl,rfl,by simp,rfl,rfl,rfl⟩)
  ·obtain⟨y1,y2,y3,y4,y5,y6,y7,y8⟩:=hy
   rw [y2,y3,y4,y6,y7,y8,w64_next (m:=i) (by simp only [lenB];omega)]
   refine Ok.ltN (by simp;omega) ?_
   have:=cubeL hk (z:=z) hx4 hxs hx j (i+1) y.1 (m+8) (acc ++ [y.2.2.2.2.1]) (by omega) (by simp;omega) (fun r hr'=>by
    rcases List.mem_append.1 hr' with hr' | hr'
    ·exact hr r hr'
    ·simp at hr'
     rw [hr']
     omega) y1 (by omega)
   exact this.mono fun w hw=>by obtain⟨v,e,v1,v2⟩:=hw;exact⟨v,e,v1.mono (by omega) (by omega),v2⟩
theorem cubeSystemO(hk:bytesOk ks){c:Cu}{m:Nat}(h:CurOk c m)(hm:m+8000≤1000000000):Ok (fun k _=>spec_l1Cur_cubeSystem k ks c) (fun r=>CurOk r.2.2 (m+8000)∧syS r.1∧bxS r.2.1):=by
 refine Ok.eq (fun k q=>by rw [spec_l1Cur_cubeSystem]) ?_
 refine Ok.bind (oneK hk h (by omega) (by omega)) fun r1 h1=>Ok.ite (fun _ => ?_) (fun _ => ?_)
 ·exact Ok.bind (anySystemO hk h1 (by omega)) fun r2 h2=>Ok.bind (anyBoxO (n:=3) hk h2.1 (by omega) (by omega) (by omega)) fun r3 h3 => .pure ⟨h3.1.mono (by omega) (by omega),h2.2,h3.2⟩
 refine Ok.bind (amongK hk h1 (by omega) (by simp) (by simp)) fun r4 h4=>Ok.bind (amongK hk h4.1 (by omega) (by simp) (by simp)) fun r5 h5=>Ok.bind (amongK hk h5.1 (by omega) (by simp) (by simp)) fun r6 h6=>Ok.bind (pickK hk h6.1 (by omega) (by omega)) fun r7 h7 => ?_
 have a7:=h7.2.1
 have b7:r7.1<4:=h7.2.2 (by decide)
 refine Ok.le a7 (Ok.lt b7 ?_)
 have e7:r7.1=0∨r7.1=1∨r7.1=2∨r7.1=3:=by omega
 refine Ok.bth (P:=fun y=>CurOk y.1 (m+200)∧syS y.2.2.1) ?_ fun y hy => ?_
 ·have hl:(([([0,1,2]:List Int),([1,0,2]:List Int),([2,1,0]:List Int),([1,2,0]:List Int)]:List (List Int)).getD (Int.toNat r7.1) []).length=3:=by
   rcases e7 with e | e | e | e <;> rw [e] <;> rfl
  have hmem:∀x∈(([([0,1,2]:List Int),([1,0,2]:List Int),([2,1,0]:List Int),([1,2,0]:List Int)]:List (List Int)).getD (Int.toNat r7.1) []),0≤x∧x<3:=by
   rcases e7 with e | e | e | e <;> rw [e] <;> decide
  refine(Ok.diag (cubeL hk (z:=(0,[],[])) (x4 := [(r4.1,1,0,0),(r5.1,0,1,0),(r6.1,0,0,1)]) rfl hl hmem 3 0 r7.2 (m+100) [] rfl rfl (by simp) (h7.1.mono (by omega) (by omega)) (by omega))).mono fun w hw => ?_
  obtain⟨v,e,v1,v2,v3⟩:=hw
  exact⟨v,e,v1.mono (by omega) (by omega),by omega,fun r hr=>by have:=v3 r hr;omega⟩
 refine Ok.bth (P:=fun y=>CurOk y.1 (m+300)∧syS y.2.2.1) ?_ fun y' hy' => ?_
 ·exact Ok.bind (pickK hk hy.1 (by omega) (by omega)) fun r18 h18=>Ok.ite (fun _ => .pure ⟨_,rfl,h18.1.mono (by omega) (by omega),by simp,by simp⟩) (fun _=>Ok.ite (fun _ => .pure ⟨_,rfl,h18.1.mono (by omega) (by omega),by simp,by simp⟩) (fun _ => .pure ⟨_,rfl,h18.1.mono (by omega) (by omega),hy.2⟩))
 ·exact Ok.bind (amongK hk hy'.1 (by omega) (by simp) (by simp)) fun r20 h20=>Ok.bind (oneK hk h20.1 (by omega) (by omega)) fun r21 h21=>Ok.ite (fun _=>Ok.bind (coarseO (n:=3) hk h21 (by omega) (by omega)) fun r22 h22 => .pure ⟨h22.1.mono (by omega) (by omega),hy'.2,h22.2.s (by omega)⟩) (fun _ => .pure ⟨h21.mono (by omega) (by omega),hy'.2,by simp,by simp⟩)
theorem cellDepthK(hk:bytesOk ks){c:Cu}{m:Nat}(h:CurOk c m)(hm:m+100≤1000000000):Ok (fun _ _=>spec_l1Cur_cellDepth ks c) (fun r=>CurOk r.2 (m+4) ∧ -1≤r.1∧r.1≤3):=by
 unfold spec_l1Cur_cellDepth
 refine Ok.bind (amongK hk h (by omega) (by simp) (by simp)) fun r1 h1=>Ok.bind (amongK hk h1.1 (by omega) (by simp) (by simp)) fun r2 h2 => .pure ⟨h2.1.mono (by omega) (by omega),?_⟩
 have m1:=h1.2
 have m2:=h2.2
 simp only [List.mem_cons,List.not_mem_nil,or_false]at m1 m2
 simp only
 omega
theorem cbDepthO(d:Int):Ok (fun _ _=>spec_cbDepth d) (fun r=>r=decide (0≤d∧d≤2)):=by
 unfold spec_cbDepth
 exact Ok.bind (Ok.const (P:=fun r=>r=decide (0≤d∧d≤2)) (l1In_eq d 0 2) rfl) fun r hr => .pure hr
theorem cellOfO(hk:bytesOk ks){c:Cu}{m:Nat}(h:CurOk c m)(hm:m+100≤1000000000)(d:Int):Ok (fun _ _=>spec_l1Cur_cellOf ks c d) (fun r=>CurOk r.2 (m+100)):=by
 unfold spec_l1Cur_cellOf
 refine Ok.bth (P:=fun y=>CurOk y.1 m∧1≤y.2.2.1∧y.2.2.1≤256) ?_ fun y hy => ?_
 ·refine Ok.bind (cbDepthO d) fun r1 h1=>Ok.ite (fun e => ?_) (fun _ => .pure ⟨_,rfl,h,by simp⟩)
  rw [h1]at e
  have e:=of_decide_eq_true e
  exact Ok.bind (dyPowS e.1 (by omega)) fun r2 h2 => .pure ⟨_,rfl,h,h2.2⟩
 ·obtain⟨y1,y2,y3⟩:=hy
  refine Ok.bind (amongK hk y1 (by omega) (by simp) (by simp)) fun r4 h4=>Ok.bind (amongK hk h4.1 (by omega) (by simp) (by simp)) fun r5 h5=>Ok.bind (oneK hk h5.1 (by omega) (by omega)) fun r6 h6=>Ok.bind (pickK hk h6 (by omega) (by omega)) fun r7 h7 => ?_
  have a7:=h7.2.1
  have b7:r7.1<12:=h7.2.2 (by decide)
  have t7:0≤Int.tdiv r7.1 11∧Int.tdiv r7.1 11≤1:=by rw [Int.tdiv_eq_ediv_of_nonneg a7];omega
  rw [w64 (n:=Int.tdiv r7.1 11) (by omega) (by omega),w64 (n:=y.2.2.1+Int.tdiv r7.1 11) (by omega) (by omega)]
  exact Ok.bind (pickK hk h7.1 (by omega) (by omega)) fun r8 h8=>Ok.bind (pickK hk h8.1 (by omega) (by omega)) fun r9 h9=>Ok.bind (pickK hk h9.1 (by omega) (by omega)) fun r10 h10 => .pure (h10.1.mono (by omega) (by omega))
theorem labelsL(hk:bytesOk ks){d:Int}{N:Nat}(hN:N≤96):∀(j:Nat) (acc:List Int) (c:Cu) (m:Nat),acc.length+j=N→CurOk c m→m+2*j≤1000000000 →
  Ok (fun k q=>spec_l1Cur_cellLabels_L124 k ks q c d acc (N:Int)) (fun w=>∃y,w = .inr y∧CurOk y.1 (m+2*j)∧y.2.1=d∧y.2.2.1.length=N)
 | 0,acc,c,m,h,hc,hm=>Ok.step (fun k q=>spec_l1Cur_cellLabels_L124.eq_2 k ks _ _ _ _ q) (Ok.cf (decide_eq_false (by omega)) (.pure ⟨_,rfl,hc.mono (by omega) (by omega),rfl,by simp only;omega⟩))
 | j+1,acc,c,m,h,hc,hm=>by
  refine Ok.step (fun k q=>spec_l1Cur_cellLabels_L124.eq_2 k ks _ _ _ _ q) (Ok.lt (by omega) (Ok.bind (amongK hk hc (by omega) (by simp) (by simp)) fun r4 h4=>Ok.ltN (by simp;omega) ?_))
  have:=labelsL hk (d:=d) hN j (acc ++ [r4.1]) r4.2 (m+2) (by simp;omega) h4.1 (by omega)
  exact this.mono fun w hw=>by obtain⟨v,e,v1,v2⟩:=hw;exact⟨v,e,v1.mono (by omega) (by omega),v2⟩
theorem cellLabelsO(hk:bytesOk ks){c:Cu}{m:Nat}(h:CurOk c m)(hm:m+400≤1000000000)(d:Int):Ok (fun k _=>spec_l1Cur_cellLabels k ks c d) (fun r=>CurOk r.2 (m+400)∧r.1.length≤96):=by
 refine Ok.eq (fun k q=>by rw [spec_l1Cur_cellLabels]) ?_
 refine Ok.bth (P:=fun y=>CurOk y.1 m∧y.2.2.1 = []∧∃N:Nat,y.2.2.2.1=(N:Int)∧6≤N∧N≤96) ?_ fun y hy => ?_
 ·refine Ok.bind (cbDepthO d) fun r1 h1=>Ok.ite (fun e => ?_) (fun _ => .pure ⟨_,rfl,h,rfl,6,rfl,by omega,by omega⟩)
  rw [h1]at e
  have e:=of_decide_eq_true e
  obtain⟨n,rfl⟩:∃n:Nat,d=n:=⟨d.toNat,by omega⟩
  have hn:n≤2:=by omega
  have hl:=cellsV_len hn
  have h1:1≤2 ^ (2*n):=Nat.one_le_two_pow
  exact Ok.bind (Ok.const (P:=fun r=>r=(((cellsV (2 ^ n)).length:Nat):Int)) (cbCount_eq hn) rfl) fun r2 h2 => .pure ⟨_,rfl,h,rfl,_,h2,by omega,by omega⟩
 ·obtain⟨y1,y2,N,y3,y4,y5⟩:=hy
  rw [y2,y3]
  refine Ok.bth (Ok.diag (labelsL hk y5 N [] y.1 m (by simp) y1 (by omega))) fun y' hy' => ?_
  obtain⟨z1,z2,z3⟩:=hy'
  refine Ok.bth (P:=fun y=>CurOk y.1 (m+300)∧1≤y.2.1.length∧y.2.1.length≤96) ?_ fun u hu => ?_
  ·have own:CurOk y'.1 (m+300):=z1.mono (by omega) (by omega)
   have z1:CurOk y'.1 (m+200):=z1.mono (by omega) (by omega)
   exact Ok.ite (fun _=>Ok.bind (oneK hk z1 (by omega) (by omega)) fun r8 h8=>Ok.ite (fun _=>Ok.bind (oneK hk h8 (by omega) (by omega)) fun r9 h9=>Ok.ite (fun _ => .pure ⟨_,rfl,h9.mono (by omega) (by omega),by simp⟩) (fun _ => .pure ⟨_,rfl,h9.mono (by omega) (by omega),by simp⟩)) (fun _ => .pure ⟨_,rfl,h8.mono (by omega) (by omega),by simp only;omega,by simp only;omega⟩)) (fun _ => .pure ⟨_,rfl,own,by simp only;omega,by simp only;omega⟩)
  ·obtain⟨u1,u2,u3⟩:=hu
   refine Ok.bind (pickK hk u1 (by omega) (by omega)) fun r11 h11=>Ok.ite (fun _=>Ok.le (by omega) (.pure ⟨h11.1.mono (by omega) (by omega),by simp;omega⟩)) (fun _=>Ok.ite (fun _ => ?_) (fun _ => .pure ⟨h11.1.mono (by omega) (by omega),u3⟩))
   exact Ok.bind (amongK hk h11.1 (by omega) (by simp) (by simp)) fun r12 h12=>Ok.lt (by omega) (.pure ⟨h12.1.mono (by omega) (by omega),by simp;omega⟩)
theorem drawCellSidesO(hk:bytesOk ks):Ok (fun k _=>spec_DrawCellSides k ks) (fun r=>bxS r.1):=by
 refine Ok.eq (fun k q=>by rw [spec_DrawCellSides]) ?_
 exact Ok.bind (cubeSystemO hk curZ (by omega)) fun r1 h1=>Ok.bind (cellDepthK hk h1.1 (by omega)) fun r2 h2=>Ok.bind (cellOfO hk h2.1 (by omega) _) fun r3 h3 => .pure h1.2.2
theorem drawCellLabelO(hk:bytesOk ks):Ok (fun k _=>spec_DrawCellLabel k ks) (fun r=>syS r.1∧bxS r.2.1):=by
 refine Ok.eq (fun k q=>by rw [spec_DrawCellLabel]) ?_
 exact Ok.bind (cubeSystemO hk curZ (by omega)) fun r1 h1=>Ok.bind (cellDepthK hk h1.1 (by omega)) fun r2 h2=>Ok.bind (cellOfO hk h2.1 (by omega) _) fun r3 h3 => .pure h1.2
theorem drawIsCubeO(hk:bytesOk ks):Ok (fun k _=>spec_DrawIsCubeSystem k ks) (fun r=>syS r.1∧bxS r.2):=by
 refine Ok.eq (fun k q=>by rw [spec_DrawIsCubeSystem]) ?_
 exact Ok.bind (cubeSystemO hk curZ (by omega)) fun r1 h1 => .pure h1.2
theorem syS.lb{s:List (List Tm)}(h:syS s):s.length<lenB∧∀r∈s,r.length<lenB:=⟨by have:=h.1;simp only [lenB];omega,fun r hr=>by have:=h.2 r hr;simp only [lenB];omega⟩
theorem bxS.lb{b:Bx3}(h:bxS b):b.2.1.length<lenB:=by have:=h.1;simp only [lenB];omega
theorem drawDegreeO(hk:bytesOk ks):Ok (fun k _=>spec_DrawDegreeOfLabels k ks) (fun r=>r.1.length≤96):=by
 refine Ok.eq (fun k q=>by rw [spec_DrawDegreeOfLabels]) ?_
 refine Ok.bind (cubeSystemO hk curZ (by omega)) fun r1 h1=>Ok.bind (cellDepthK hk h1.1 (by omega)) fun r2 h2 => ?_
 refine Ok.bothl (S:=fun w=>(∃q,w = .inl q∧q.1.length≤96)∨∃y,w = .inr y∧CurOk y.1 10000) ?_ (fun q hq => ?_) (fun y hy => ?_)
 ·have hs:=h1.2.1.lb
  have own:CurOk r2.2 10000:=h2.1.mono (by omega) (by omega)
  refine Ok.bind (Ok.of (P:=fun r=>r=askC r1.1 r1.2.1 r2.1) (cbAsked_ev hs.1 hs.2 h1.2.2.lb) rfl) fun r3 h3=>Ok.ite (fun e => ?_) (fun _ => .pure (.inr ⟨_,rfl,own⟩))
  rw [h3]at e
  obtain⟨n,en,hn,hC,hb⟩:=askC_form e hs.2
  rw [en]
  refine Ok.bind (oneK hk h2.1 (by omega) (by omega)) fun r4 h4=>Ok.ite (fun _ => ?_) (fun _ => .pure (.inr ⟨_,rfl,h4.mono (by omega) (by omega)⟩))
  refine Ok.bind (Ok.of (P:=fun r=>r.length≤96) (cbLabels_ev hC hb hn) (lbsV_len hn).1) fun r5 h5=>Ok.bind (Ok.const (P:=fun _=>True) (cbCount_eq hn) trivial) fun r6 _=>Ok.ite (fun _ => .pure (.inl ⟨_,rfl,h5⟩)) (fun _ => .pure (.inr ⟨_,rfl,h4.mono (by omega) (by omega)⟩))
 ·rcases hq with ⟨q',e,hq⟩ | ⟨y,e,_⟩
  ·cases e;exact .pure hq
  ·cases e
 ·rcases hy with ⟨q',e,_⟩ | ⟨y',e,hy⟩
  ·cases e
  ·cases e
   exact Ok.bind (cellLabelsO hk hy (by omega) _) fun r8 h8 => .pure h8.2
theorem textL(hk:bytesOk ks):∀(j:Nat) (acc:List Int) (c:Cu) (m:Nat),acc.length+j=98→CurOk c m→m+2*j≤100000 →
  Ok (fun k q=>spec_DrawLabelsText_L244 k ks q c acc) (fun w=>∃y,w = .inr y∧y.1.length≤98)
 | 0,acc,c,m,h,hc,hm=>by
  refine Ok.step (fun k q=>spec_DrawLabelsText_L244.eq_2 k ks _ _ q) (Ok.bind (pickK hk hc (by omega) (by omega)) fun r4 h4 => ?_)
  have a4:=h4.2.1
  have b4:r4.1<2:=h4.2.2 (by decide)
  rw [w64 (n:=96+r4.1) (by omega) (by omega)]
  exact Ok.cf (decide_eq_false (by omega)) (.pure ⟨_,rfl,by simp only;omega⟩)
 | j+1,acc,c,m,h,hc,hm=>by
  refine Ok.step (fun k q=>spec_DrawLabelsText_L244.eq_2 k ks _ _ q) (Ok.bind (pickK hk hc (by omega) (by omega)) fun r4 h4=>Ok.ite (fun _=>Ok.ltN (by simp;omega) ?_) (fun _ => .pure ⟨_,rfl,by simp only;omega⟩))
  exact textL hk j (acc ++ [5]) r4.2 (m+2) (by simp;omega) h4.1 (by omega)
theorem drawTextO(hk:bytesOk ks):Ok (fun k _=>spec_DrawLabelsText k ks) (fun r=>r.length≤98):=by
 refine Ok.eq (fun k q=>by rw [spec_DrawLabelsText]) ?_
 refine Ok.bind (pickK hk curZ (by omega) (by omega)) fun r1 h1=>Ok.bind (cellLabelsO hk h1.1 (by omega) _) fun r2 h2=>Ok.bind (oneK hk h2.1 (by omega) (by omega)) fun r3 h3=>Ok.ite (fun _ => ?_) (fun _ => .pure (by have:=h2.2;omega))
 refine Ok.bth (Ok.diag (textL hk (98 - r2.1.length) r2.1 r3.2 1000 (by have:=h2.2;omega) (h3.mono (by omega) (by omega)) (by omega))) fun y hy => .pure hy
end Go.Ev.G

namespace Go.Ev.G
open Go Go.Ev
set_option maxRecDepth 100000

def oT0_0:List (List Int) := [[0,4,2],[0,2,5],[0,3,4],[0,5,3]]
theorem oT0_0_eq:(cornX 1 0).map (ordV 0 1)=oT0_0:=by kernel_rfl
def oT0_1:List (List Int) := [[1,2,4],[1,5,2],[1,4,3],[1,3,5]]
theorem oT0_1_eq:(cornX 1 1).map (ordV 0 1)=oT0_1:=by kernel_rfl
def oT1_0:List (List Int) := [[0,16,8],[0,8,9,1],[1,9,20],[0,2,17,16],[0,1,3,2],[1,20,21,3],[2,12,17],[2,3,13,12],[3,21,13]]
theorem oT1_0_eq:(cornX 2 0).map (ordV 1 2)=oT1_0:=by kernel_rfl
def oT1_1:List (List Int) := [[8,16,18,10],[8,10,11,9],[9,11,22,20],[16,17,19,18],[],[20,22,23,21],[12,14,19,17],[12,13,15,14],[13,21,23,15]]
theorem oT1_1_eq:(cornX 2 1).map (ordV 1 2)=oT1_1:=by kernel_rfl
def oT1_2:List (List Int) := [[4,10,18],[4,5,11,10],[5,22,11],[4,18,19,6],[4,6,7,5],[5,7,23,22],[6,19,14],[6,14,15,7],[7,15,23]]
theorem oT1_2_eq:(cornX 2 2).map (ordV 1 2)=oT1_2:=by kernel_rfl
def oT2_0:List (List Int) := [[0,64,32],[0,32,33,1],[1,33,34,2],[2,34,35,3],[3,35,80],[0,4,65,64],[0,1,5,4],[1,2,6,5],[2,3,7,6],[3,80,81,7],[4,8,66,65],[4,5,9,8],[5,6,10,9],[6,7,11,10],[7,81,82,11],[8,12,67,66],[8,9,13,12],[9,10,14,13],[10,11,15,14],[11,82,83,15],[12,48,67],[12,13,49,48],[13,14,50,49],[14,15,51,50],[15,83,51]]
theorem oT2_0_eq:(cornX 4 0).map (ordV 2 4)=oT2_0:=by kernel_rfl
def oT2_1:List (List Int) := [[32,64,68,36],[32,36,37,33],[33,37,38,34],[34,38,39,35],[35,39,84,80],[64,65,69,68],[],[],[],[80,84,85,81],[65,66,70,69],[],[],[],[81,85,86,82],[66,67,71,70],[],[],[],[82,86,87,83],[48,52,71,67],[48,49,53,52],[49,50,54,53],[50,51,55,54],[51,83,87,55]]
theorem oT2_1_eq:(cornX 4 1).map (ordV 2 4)=oT2_1:=by kernel_rfl
def oT2_2:List (List Int) := [[36,68,72,40],[36,40,41,37],[37,41,42,38],[38,42,43,39],[39,43,88,84],[68,69,73,72],[],[],[],[84,88,89,85],[69,70,74,73],[],[],[],[85,89,90,86],[70,71,75,74],[],[],[],[86,90,91,87],[52,56,75,71],[52,53,57,56],[53,54,58,57],[54,55,59,58],[55,87,91,59]]
theorem oT2_2_eq:(cornX 4 2).map (ordV 2 4)=oT2_2:=by kernel_rfl
def oT2_3:List (List Int) := [[40,72,76,44],[40,44,45,41],[41,45,46,42],[42,46,47,43],[43,47,92,88],[72,73,77,76],[],[],[],[88,92,93,89],[73,74,78,77],[],[],[],[89,93,94,90],[74,75,79,78],[],[],[],[90,94,95,91],[56,60,79,75],[56,57,61,60],[57,58,62,61],[58,59,63,62],[59,91,95,63]]
theorem oT2_3_eq:(cornX 4 3).map (ordV 2 4)=oT2_3:=by kernel_rfl
def oT2_4:List (List Int) := [[16,44,76],[16,17,45,44],[17,18,46,45],[18,19,47,46],[19,92,47],[16,76,77,20],[16,20,21,17],[17,21,22,18],[18,22,23,19],[19,23,93,92],[20,77,78,24],[20,24,25,21],[21,25,26,22],[22,26,27,23],[23,27,94,93],[24,78,79,28],[24,28,29,25],[25,29,30,26],[26,30,31,27],[27,31,95,94],[28,79,60],[28,60,61,29],[29,61,62,30],[30,62,63,31],[31,63,95]]
theorem oT2_4_eq:(cornX 4 4).map (ordV 2 4)=oT2_4:=by kernel_rfl
def ords0:List (List Int):=oT0_0++oT0_1
def ords1:List (List Int):=oT1_0++oT1_1++oT1_2
def ords2:List (List Int):=oT2_0++oT2_1++oT2_2++oT2_3++oT2_4
end Go.Ev.G

namespace Go.Ev.G
open Go Go.Ev
set_option maxRecDepth 100000

def ordsD(d:Nat):List (List Int):=match d with
 | 0=>ords0
 | 1=>ords1
 | _=>ords2
def tot(A:List Int)(d:Nat):Int:=((ordsD d).map fun o=>fan (o.map (labF A))).sum
def anyOpp(A:List Int)(d:Nat):Bool:=(ordsD d).any fun o=>oppI (o.map (labF A))
theorem sum_flatMap{α β:Type}(g:α→List β)(f:β→Int):∀(l:List α),((l.flatMap g).map f).sum=(l.map fun x=>((g x).map f).sum).sum
 | []=>rfl
 | x::l=>by
  rw [List.flatMap_cons,List.map_append,List.sum_append,sum_flatMap g f l]
  rfl
def Sp(g:Int→Option Int)(bad:Bool)(v:Int)(B:Nat):Prop:=v.natAbs≤B∧∀s:Int,s.natAbs+B≤1000000000→g s=if bad then none else some (s+v)
theorem runN_sp{g:Nat→Int→Option Int}{bad:Nat→Bool}{v:Nat→Int}{B:Nat}:∀(m i:Nat),(∀j,i≤j→j<i+m→Sp (g j) (bad j) (v j) B)→Sp (runN g m i) ((List.range' i m).any bad) (((List.range' i m).map v).sum) (m*B)
 | 0,i,_=>⟨by simp,fun s _=>by simp [runN]⟩
 | m+1,i,h=>by
  obtain⟨b1,e1⟩:=h i (by omega) (by omega)
  obtain⟨b2,e2⟩:=runN_sp m (i+1) (fun j h1 h2=>h j (by omega) (by omega))
  rw [List.range'_succ]
  have hB:(m+1)*B=m*B+B:=by rw [Nat.succ_mul]
  refine⟨?_,fun s hs => ?_⟩
  ·rw [List.map_cons,List.sum_cons]
   omega
  ·rw [List.map_cons,List.sum_cons,List.any_cons]
   show((g i s).bind fun s=>runN g m (i+1) s)=_
   rw [e1 s (by omega)]
   cases bad i with
   | true=>rfl
   | false =>
    simp only [Bool.false_eq_true,if_false,Option.bind_some,Bool.false_or]
    rw [e2 (s+v i) (by omega),Int.add_assoc]
def tb(a b c:Int):Bool:=Nat.ble (triV a b c).natAbs 1
theorem tb_all:(L6.all fun a=>L6.all fun b=>L6.all fun c=>tb a b c)=true:=by kernel_rfl
theorem tri_bd{a b c:Int}(ha:isLab a)(hb:isLab b)(hc:isLab c):(triV a b c).natAbs≤1:=Nat.le_of_ble_eq_true (all3 tb_all ha hb hc)
theorem fanA_bd{a:Int}(ha:isLab a):∀(r:List Int) (p:Int),isLab p→(∀x∈r,isLab x)→(fanA a p r).natAbs≤r.length
 | [],p,_,_=>by simp [fanA]
 | c::cs,p,hp,h=>by
  have h1:=tri_bd ha hp (h c (by simp))
  have h2:=fanA_bd ha cs c (h c (by simp)) (fun x hx=>h x (by simp [hx]))
  simp only [fanA,List.length_cons]
  omega
theorem sumL_fan{a:Int}(ha:isLab a):∀(r:List Int) (p s:Int),isLab p→(∀x∈r,isLab x)→s.natAbs+r.length≤2000000000→sumL a p r s=s+fanA a p r
 | [],p,s,_,_,_=>by simp [sumL,fanA]
 | c::cs,p,s,hp,h,hs=>by
  have h1:=tri_bd ha hp (h c (by simp))
  simp only [List.length_cons]at hs
  have w:IntKind.wrap .i64 (s+triV a p c)=s+triV a p c:=w64 (by omega) (by omega)
  simp only [sumL,fanA]
  rw [w,sumL_fan ha cs c _ (h c (by simp)) (fun x hx=>h x (by simp [hx])) (by omega)]
  omega
theorem cornV_sp{L:List Int}(h:∀l∈L,isLab l)(hl:L.length≤1000):Sp (cornV L) (oppI L) (fan L) 1000:=by
 constructor
 ·match L,h,hl with
  | [],_,_=>simp [fan]
  | [_],_,_=>simp [fan]
  | a::b::cs,h,hl =>
   have:=fanA_bd (h a (by simp)) cs b (h b (by simp)) (fun x hx=>h x (by simp [hx]))
   simp only [List.length_cons]at hl
   show(fanA a b cs).natAbs≤1000
   omega
 ·intro s hs
  unfold cornV
  cases oppI L with
  | true=>rfl
  | false =>
   simp only [Bool.false_eq_true,if_false]
   congr 1
   match L,h,hl with
   | [],_,_=>simp [fan,sumC]
   | [_],_,_=>simp [fan,sumC]
   | a::b::cs,h,hl =>
    simp only [List.length_cons]at hl
    exact sumL_fan (h a (by simp)) cs b s (h b (by simp)) (fun x hx=>h x (by simp [hx])) (by omega)
theorem ordsD_eq{d:Nat}(hd:d≤2):ordsD d=(List.range (2 ^ d+1)).flatMap fun x=>(cornX (2 ^ d) x).map (ordV d (2 ^ d)):=by
 rcases(by omega:d=0∨d=1∨d=2)with rfl | rfl | rfl
 ·have e:(List.range (2 ^ 0+1)).flatMap (fun x=>(cornX (2 ^ 0) x).map (ordV ((0:Nat):Int) (2 ^ 0)))=(cornX 1 0).map (ordV 0 1)++((cornX 1 1).map (ordV 0 1) ++ []):=rfl
  rw [e,oT0_0_eq,oT0_1_eq,List.append_nil]
  rfl
 ·have e:(List.range (2 ^ 1+1)).flatMap (fun x=>(cornX (2 ^ 1) x).map (ordV ((1:Nat):Int) (2 ^ 1)))=(cornX 2 0).map (ordV 1 2)++((cornX 2 1).map (ordV 1 2)++((cornX 2 2).map (ordV 1 2) ++ [])):=rfl
  rw [e,oT1_0_eq,oT1_1_eq,oT1_2_eq,List.append_nil]
  rfl
 ·have e:(List.range (2 ^ 2+1)).flatMap (fun x=>(cornX (2 ^ 2) x).map (ordV ((2:Nat):Int) (2 ^ 2)))=(cornX 4 0).map (ordV 2 4)++((cornX 4 1).map (ordV 2 4)++((cornX 4 2).map (ordV 2 4)++((cornX 4 3).map (ordV 2 4)++((cornX 4 4).map (ordV 2 4) ++ [])))):=rfl
  rw [e,oT2_0_eq,oT2_1_eq,oT2_2_eq,oT2_3_eq,oT2_4_eq,List.append_nil]
  show ords2=_
  unfold ords2
  simp only [List.append_assoc]
theorem ordsD_in{d:Nat}(hd:d≤2){o:List Int}(ho:o∈ordsD d):∃x y z:Nat,x≤2 ^ d∧y≤2 ^ d∧z≤2 ^ d∧o=ordV d (2 ^ d) ((x:Int),(y:Int),(z:Int)):=by
 rw [ordsD_eq hd]at ho
 obtain⟨x,hx,ho⟩:=List.mem_flatMap.1 ho
 obtain⟨p,hp,rfl⟩:=List.mem_map.1 ho
 unfold cornX at hp
 obtain⟨y,hy,hp⟩:=List.mem_flatMap.1 hp
 obtain⟨z,hz,rfl⟩:=List.mem_map.1 hp
 rw [List.mem_range]at hx hy hz
 exact⟨x,y,z,by omega,by omega,by omega,rfl⟩
theorem ordsD_bnd{d:Nat}(hd:d≤2){o:List Int}(ho:o∈ordsD d):∀i∈o,0≤i∧i<((6*2 ^ d*2 ^ d:Nat):Int):=by
 obtain⟨x,y,z,hx,hy,hz,rfl⟩:=ordsD_in hd ho
 exact ord_bnd ⟨hd,by omega,by omega,by omega,by omega,by omega,by omega⟩
theorem labF_lab{A:List Int}{d:Nat}(h:LabOk A d){i:Int}(hi:0≤i∧i<((6*2 ^ d*2 ^ d:Nat):Int)):isLab (labF A i):=by
 unfold labF
 have hlt:i.toNat<A.length:=by rw [h.len];omega
 rw [List.getD_eq_getElem?_getD,List.getElem?_eq_getElem hlt]
 exact h.lab _ (List.getElem_mem hlt)
theorem any_congr2{α:Type}{f g:α→Bool}{l:List α}(h:∀x∈l,f x=g x):l.any f=l.any g:=by
 induction l with
 | nil=>rfl
 | cons a r ih=>rw [List.any_cons,List.any_cons,h a (by simp),ih (fun x hx=>h x (by simp [hx]))]
theorem dgLV_eq{A:List Int}{d:Nat}(h:LabOk A d):dgLV A d=if anyOpp A d then(0,false)else(tot A d,true):=by
 have hd:=h.hd
 have hn:=h.n
 have s1:∀x y,x≤2 ^ d→y≤2 ^ d→Sp (gy A d x y) ((List.range' 0 (2 ^ d+1)).any fun z=>oppI (Lof A d x y z)) (((List.range' 0 (2 ^ d+1)).map fun z=>fan (Lof A d x y z)).sum) ((2 ^ d+1)*1000):=by
  intro x y hx hy
  refine runN_sp (2 ^ d+1) 0 fun z _ hz => ?_
  refine cornV_sp (h.lof hx hy (by omega)) ?_
  unfold Lof
  rw [List.length_map]
  exact ordV_len (h.inb hx hy (by omega))
 have s2:∀x,x≤2 ^ d→Sp (gx A d x) ((List.range' 0 (2 ^ d+1)).any fun y=>(List.range' 0 (2 ^ d+1)).any fun z=>oppI (Lof A d x y z)) (((List.range' 0 (2 ^ d+1)).map fun y=>((List.range' 0 (2 ^ d+1)).map fun z=>fan (Lof A d x y z)).sum).sum) ((2 ^ d+1)*((2 ^ d+1)*1000)):=fun x hx=>runN_sp (2 ^ d+1) 0 fun y _ hy=>s1 x y hx (by omega)
 have s3:Sp (runN (gx A d) (2 ^ d+1) 0) ((List.range' 0 (2 ^ d+1)).any fun x=>(List.range' 0 (2 ^ d+1)).any fun y=>(List.range' 0 (2 ^ d+1)).any fun z=>oppI (Lof A d x y z)) (((List.range' 0 (2 ^ d+1)).map fun x=>((List.range' 0 (2 ^ d+1)).map fun y=>((List.range' 0 (2 ^ d+1)).map fun z=>fan (Lof A d x y z)).sum).sum).sum) ((2 ^ d+1)*((2 ^ d+1)*((2 ^ d+1)*1000))):=runN_sp (2 ^ d+1) 0 fun x _ hx=>s2 x (by omega)
 have hB:(2 ^ d+1)*((2 ^ d+1)*((2 ^ d+1)*1000))≤1000000:=by
  rcases(by omega:d=0∨d=1∨d=2)with rfl | rfl | rfl <;> decide
 have e:=s3.2 0 (by simp;omega)
 have eo:anyOpp A d=((List.range' 0 (2 ^ d+1)).any fun x=>(List.range' 0 (2 ^ d+1)).any fun y=>(List.range' 0 (2 ^ d+1)).any fun z=>oppI (Lof A d x y z)):=by
  unfold anyOpp
  rw [ordsD_eq hd,List.any_flatMap,←List.range_eq_range']
  refine any_congr2 fun x _ => ?_
  unfold cornX
  rw [List.any_map,List.any_flatMap]
  refine any_congr2 fun y _ => ?_
  rw [List.any_map]
  rfl
 have et:tot A d=(((List.range' 0 (2 ^ d+1)).map fun x=>((List.range' 0 (2 ^ d+1)).map fun y=>((List.range' 0 (2 ^ d+1)).map fun z=>fan (Lof A d x y z)).sum).sum).sum):=by
  unfold tot
  rw [ordsD_eq hd,sum_flatMap,←List.range_eq_range']
  congr 1
  refine List.map_congr_left fun x _ => ?_
  unfold cornX
  rw [List.map_map,sum_flatMap]
  congr 1
  refine List.map_congr_left fun y _ => ?_
  rw [List.map_map]
  rfl
 unfold dgLV
 rw [e,eo,et]
 split
 ·rename_i hs
  split at hs
  ·cases hs
  ·rename_i hb
   cases hs
   rw [if_neg hb,Int.zero_add]
 ·rename_i hs
  split at hs
  ·rename_i hb
   rw [if_pos hb]
  ·cases hs
end Go.Ev.G

namespace Go.Ev.G
open Go Go.Ev
set_option maxRecDepth 100000

theorem labF_map{A:List Int}{d:Nat}(h:LabOk A d)(f:Int→Int){i:Int}(hi:0≤i∧i<((6*2 ^ d*2 ^ d:Nat):Int)):labF (A.map f) i=f (labF A i):=by
 have hlt:i.toNat<A.length:=by rw [h.len];omega
 unfold labF
 rw [List.getD_eq_getElem?_getD,List.getElem?_map,List.getElem?_eq_getElem hlt,List.getD_eq_getElem?_getD,List.getElem?_eq_getElem hlt]
 rfl
def roL(a:Int):Int:=Int.tdiv a 3*3+Int.tmod (Int.tmod a 3+1) 3
def ro3(a b c:Int):Bool:=triV (roL a) (roL b) (roL c)==triV a b c
theorem ro3_all:(L6.all fun a=>L6.all fun b=>L6.all fun c=>ro3 a b c)=true:=by kernel_rfl
def ro2(a b:Int):Bool:=(opL (roL a)==roL b)==(opL a==b)
theorem ro2_all:(L6.all fun a=>L6.all fun b=>ro2 a b)=true:=by kernel_rfl
theorem roL_lab{a:Int}(h:isLab a):isLab (roL a):=by
 rcases isLab_cases h with rfl | rfl | rfl | rfl | rfl | rfl <;> (unfold isLab;decide)
theorem fanA_ro{a:Int}(ha:isLab a):∀(r:List Int) (p:Int),isLab p→(∀x∈r,isLab x)→fanA (roL a) (roL p) (r.map roL)=fanA a p r
 | [],p,_,_=>rfl
 | c::cs,p,hp,h=>by
  have hc:=h c (by simp)
  have t:triV (roL a) (roL p) (roL c)=triV a p c:=by have:=all3 ro3_all ha hp hc;simpa [ro3] using this
  simp only [List.map_cons,fanA,t,fanA_ro ha cs c hc (fun x hx=>h x (by simp [hx]))]
theorem fan_ro{l:List Int}(h:∀x∈l,isLab x):fan (l.map roL)=fan l:=by
 match l,h with
 | [],_=>rfl
 | [_],_=>rfl
 | a::b::cs,h=>exact fanA_ro (h a (by simp)) cs b (h b (by simp)) (fun x hx=>h x (by simp [hx]))
theorem oppI_ro:∀ {l:List Int},(∀x∈l,isLab x)→oppI (l.map roL)=oppI l
 | [],_=>rfl
 | a::r,h=>by
  have ih:=oppI_ro (l:=r) (fun x hx=>h x (by simp [hx]))
  simp only [List.map_cons,oppI,ih]
  congr 1
  have ha:=h a (by simp)
  have:∀(s:List Int),(∀x∈s,isLab x)→(s.map roL).contains (opL (roL a))=s.contains (opL a):=by
   intro s
   induction s with
   | nil=>intro _;rfl
   | cons c cs ih =>
    intro hs
    rw [List.map_cons,List.contains_cons,List.contains_cons,ih (fun x hx=>hs x (by simp [hx]))]
    have:=all2 ro2_all ha (hs c (by simp))
    simp only [ro2,beq_iff_eq]at this
    rw [this]
  exact this r (fun x hx=>h x (by simp [hx]))
theorem dgLV_ro{A:List Int}{d:Nat}(h:LabOk A d):LabOk (A.map roL) d∧dgLV (A.map roL) d=dgLV A d:=by
 have hd:=h.hd
 have h2:LabOk (A.map roL) d:=⟨hd,by rw [List.length_map];exact h.len,by
  intro l hl
  obtain⟨x,hx,rfl⟩:=List.mem_map.1 hl
  exact roL_lab (h.lab x hx)⟩
 refine⟨h2,?_⟩
 rw [dgLV_eq h,dgLV_eq h2]
 have e:∀o∈ordsD d,o.map (labF (A.map roL))=(o.map (labF A)).map roL:=by
  intro o ho
  rw [List.map_map]
  exact List.map_congr_left fun i hi=>labF_map h roL (ordsD_bnd hd ho i hi)
 have hl:∀o∈ordsD d,∀x∈o.map (labF A),isLab x:=by
  intro o ho x hx
  obtain⟨i,hi,rfl⟩:=List.mem_map.1 hx
  exact labF_lab h (ordsD_bnd hd ho i hi)
 have e1:anyOpp (A.map roL) d=anyOpp A d:=any_congr2 fun o ho=>by rw [e o ho];exact oppI_ro (hl o ho)
 have e2:tot (A.map roL) d=tot A d:=by
  unfold tot
  congr 1
  exact List.map_congr_left fun o ho=>by rw [e o ho];exact fan_ro (hl o ho)
 rw [e1,e2]
end Go.Ev.G

namespace Go.Ev.G
open Go Go.Ev
set_option maxRecDepth 100000

theorem ivGd.gdI{x:Iv}(h:ivGd x):gdI x:=⟨h.1,h.2.1⟩
end Go.Ev.G

namespace Go.Ev.G
open Go Go.Ev
set_option maxRecDepth 100000

def small4(T:List Pt):Prop:=T.length≤4∧∀r∈T,r.length≤4
end Go.Ev.G

namespace Go.Ev.G
open Go Go.Ev
set_option maxRecDepth 100000

structure Sm(m:List Pt):Prop where
 l:m.length≤1000
 r:∀r∈m,r.length≤1000
theorem Sm.of{m:List Pt}(h:small4 m):Sm m:=⟨by have:=h.1;omega,fun r hr=>by have:=h.2 r hr;omega⟩
theorem Sm.lb{m:List Pt}(h:Sm m):m.length<lenB:=by have:=h.l;simp only [lenB];omega
theorem Sm.id(n:Nat)(hn:n≤1000)(d:Int×Int):Sm (idT n d):=by
 refine⟨by simp [idT];omega,fun r hr => ?_⟩
 unfold idT at hr
 obtain⟨i,_,rfl⟩:=List.mem_map.1 hr
 simp;omega
theorem bytes_of{a:List Int}(h:WfT (.sl (.int .u8)) a):bytesOk a:=by
 intro x hx
 have h2:(decide (IntKind.u8.min≤x)&&decide (x≤IntKind.u8.max))=true:=h.2 x hx
 rw [Bool.and_eq_true]at h2
 have h3:=of_decide_eq_true h2.1
 have h4:=of_decide_eq_true h2.2
 have e1:IntKind.u8.min=0:=rfl
 have e2:IntKind.u8.max=255:=rfl
 rw [e1]at h3
 rw [e2]at h4
 exact⟨h3,h4⟩
end Go.Ev.G

namespace Go.Ev.G
open Go Go.Ev
set_option maxRecDepth 100000

theorem dyTwo_eq(a b:Int×Int):spec_dyTwo a b=some (decide (gd a∧gd b)):=by
 unfold spec_dyTwo
 rw [dyGood_eq,Option.bind_some]
 by_cases ha:gd a
 ·rw [decide_eq_true ha,cond_true,dyGood_eq]
  simp [ha]
 ·rw [decide_eq_false ha,cond_false]
  simp [ha]
theorem compDy_ev{a b:Int×Int}(ha:gd a)(hb:gd b):Evt (fun k _=>spec_CompareDyadic k a b) (cmpI (sv a) (sv b),true):=by
 refine Evt.eq (f:=fun k q=>_) ?_ (fun k q=>by rw [spec_CompareDyadic])
 exact Evt.bind (.const (dyTwo_eq a b)) (Evt.cfalse (by rw [decide_eq_true ⟨ha,hb⟩];rfl) (Evt.bind (dyCmp_ev ha hb) .pure))
theorem qUp_ev{a b:Int×Int}(ha:gd a)(hb:gd b):Evt (fun k _=>laws_qUp k a b) (cmpI (sv a) (sv b)):=by
 refine Evt.eq (f:=fun k q=>_) ?_ (fun k q=>by rw [laws_qUp])
 exact Evt.bind (compDy_ev ha hb) .pure
theorem qIn_ev{i:Iv}{a:Int×Int}(hi:gdI i)(ha:gd a)(h1:sv i.1≤sv a)(h2:sv a≤sv i.2):Evt (fun k _=>laws_qIn k i a) true:=by
 refine Evt.eq (f:=fun k q=>_) ?_ (fun k q=>by rw [laws_qIn])
 refine Evt.bind (qUp_ev hi.1 ha) (Evt.ctrue (by rw [cmpI_le];exact decide_eq_true h1) (Evt.bind (qUp_ev ha hi.2) ?_))
 rw [cmpI_le,decide_eq_true h2]
 exact .pure
theorem same_all{α:Type}{L:Nat→Nat→Int→Option (Bool ⊕ Unit)}{xs:List α}{z:α}{e:Nat→α→Option Bool}(hb:xs.length<lenB)(he:∀x∈xs,Evt (fun k _=>e k x) true)
  (hL:∀k n i,L k (n+1) i=(bif (decide (i<(xs.length:Int)))then(bif (decide (0≤i))then(bif (decide (i<(xs.length:Int)))then(bif (decide (0≤i))then(bif (decide (i<(xs.length:Int)))then(Option.bind (e k (xs.getD (Int.toNat i) z)) fun r=>(bif (!r)then some (Sum.inl false)else L k n (IntKind.wrap .i64 (i+1))))else none)else none)else none)else none)else some (.inr ()))) :
  Evt (fun k n=>L k n 0) (.inr ()):=by
 have key:∀(r d:List α),d++r=xs→Evt (fun k n=>L k n d.length) (.inr ()):=by
  intro r
  induction r with
  | nil =>
   intro d h
   rw [List.append_nil]at h
   subst h
   refine Evt.step (fun k n=>hL k n _) ?_
   rw [mid_end]
   exact Evt.cfalse rfl .pure
  | cons x r ih =>
   intro d h
   subst h
   refine Evt.step (fun k n=>hL k n _) (Evt.ctrue mid_lt (Evt.ctrue mid_ge (Evt.ctrue mid_lt (Evt.ctrue mid_ge (Evt.ctrue mid_lt ?_)))))
   rw [mid_get]
   refine Evt.bind (he x (by simp)) (Evt.cfalse rfl ?_)
   rw [len_next hb]
   exact ih (d ++ [x]) (by simp)
 exact key xs [] rfl
theorem qIntervals_ev{x:List Iv}(hb:x.length<lenB):Evt (fun k _=>laws_qIntervals k x x) true:=by
 refine Evt.eq (f:=fun k q=>_) ?_ (fun k q=>by rw [laws_qIntervals])
 exact Evt.cfalse (by simp) (Evt.inr (Evt.diag (same_all (L:=fun k n i=>laws_qIntervals_L58 k n x x (x.length:Int) i) (z:=((0,0),0,0)) (e:=fun _ y=>some (((y.1.1==y.1.1)&&((y.1.2==y.1.2)&&true))&&(((y.2.1==y.2.1)&&((y.2.2==y.2.2)&&true))&&true))) hb (fun y _ => .const (by simp)) (fun k n i=>by rw [laws_qIntervals_L58.eq_2];rfl))) .pure)
end Go.Ev.G

namespace Go.Ev.G
open Go Go.Ev
set_option maxRecDepth 100000

def sfV(d:Int):List Cl×Bool:=if 0≤d∧d≤2 then(cellsV (2 ^ d.toNat),true)else([],false)
theorem sfV_len(d:Int):(sfV d).1.length≤96:=by
 unfold sfV
 split
 ·rename_i h
  have:=cellsV_len (n:=d.toNat) (by omega)
  simp only
  omega
 ·simp
theorem spec_surface_ev(d:Int):Evt (fun k _=>spec_SurfaceCells k d) (sfV d):=by
 refine Evt.eq (f:=fun k q=>_) ?_ (fun k q=>by rw [spec_SurfaceCells])
 have e:spec_cbDepth d=some (decide (0≤d∧d≤2)):=by unfold spec_cbDepth;rw [l1In_eq];rfl
 refine Evt.bind (.const e) ?_
 unfold sfV
 by_cases h:0≤d∧d≤2
 ·rw [decide_eq_true h,if_pos h]
  obtain⟨n,rfl⟩:∃n:Nat,d=n:=⟨d.toNat,by omega⟩
  exact Evt.cfalse rfl (Evt.bind (cbCells_ev (by omega)) .pure)
 ·rw [decide_eq_false h,if_neg h]
  exact Evt.ctrue rfl .pure
theorem impl_surface_ev(d:Int):Evt (fun k _=>impl_SurfaceCells k d) (sfV d):=by
 refine Evt.eq (f:=fun k q=>_) ?_ (fun k q=>by rw [impl_SurfaceCells])
 refine Evt.bind (.const (inside_eq d 0 2)) ?_
 unfold sfV
 by_cases h:0≤d∧d≤2
 ·rw [decide_eq_true h,if_pos h]
  obtain⟨n,rfl⟩:∃n:Nat,d=n:=⟨d.toNat,by omega⟩
  exact Evt.cfalse rfl (Evt.bind (surfaceCells_ev (by omega)) .pure)
 ·rw [decide_eq_false h,if_neg h]
  exact Evt.ctrue rfl .pure
theorem qCells_ev{x:List Cl}(hb:x.length<lenB):Evt (fun k _=>laws_qCells k x x) true:=by
 refine Evt.eq (f:=fun k q=>_) ?_ (fun k q=>by rw [laws_qCells])
 exact Evt.cfalse (by simp) (Evt.inr (Evt.diag (same_all (L:=fun k n i=>laws_qCells_L58 k n x x (x.length:Int) i) (z:=(0,false,0,0)) (e:=fun _ y=>some ((y.1==y.1)&&((y.2.1==y.2.1)&&((y.2.2.1==y.2.2.1)&&((y.2.2.2==y.2.2.2)&&true))))) hb (fun y _ => .const (by simp)) (fun k n i=>by rw [laws_qCells_L58.eq_2];rfl))) .pure)

theorem sideV_lt{m dep:Nat}{l h x y:Int}(hl : -64≤l∧l<h∧h≤64)(hx:0≤x∧x≤5)(hy:0≤y∧y≤5)(hd:dep≤2)(hm:m≤3)(hxy:x<y):sideV m dep l h x≠sideV m dep l h y:=by
 have hp:=pow2 hd
 have b1:=side_bound (s:=2 ^ dep) hl hx hp
 have b2:=side_bound (s:=2 ^ dep) hl hy hp
 have hlt:(h - l)*x<(h - l)*y:=Int.mul_lt_mul_of_pos_left hxy (by omega)
 have e1:=sv_mkD (mkD_ok (n:=l*2 ^ dep+(h - l)*x) (k:=m+dep) (by omega) (by omega) (by omega))
 have e2:=sv_mkD (mkD_ok (n:=l*2 ^ dep+(h - l)*y) (k:=m+dep) (by omega) (by omega) (by omega))
 intro he
 unfold sideV at he
 rw [he,e2]at e1
 omega
theorem sideV_zero(m dep:Nat)(l h:Int):sideV m dep l h 0=(mkD l m).1:=by
 unfold sideV
 rw [Int.mul_zero,Int.add_zero,mkD_scale]
theorem sideV_full(m dep:Nat)(l h:Int):sideV m dep l h (2 ^ dep)=(mkD h m).1:=by
 unfold sideV
 have e:l*2 ^ dep+(h - l)*2 ^ dep=h*2 ^ dep:=by
  rw [Int.sub_mul]
  omega
 rw [e,mkD_scale]
theorem part_ev{m dep:Nat}{l h x y:Int}(hl : -64≤l∧l<h∧h≤64)(hx:0≤x)(hxy:x≤y)(hy:y≤2 ^ dep)(hd:dep≤2)(hm:m≤3):Evt (fun k _=>laws_qPart k (sideV m dep l h x,sideV m dep l h y) ((mkD l m).1,(mkD h m).1)) true:=by
 have hp:=pow2 hd
 have a:=sideV_sv hl (x:=0) (y:=x) (by omega) (by omega) hd hm hx
 have b:=sideV_sv hl (x:=x) (y:=y) (by omega) (by omega) hd hm hxy
 have c:=sideV_sv hl (x:=y) (y:=2 ^ dep) (by omega) (by omega) hd hm hy
 rw [sideV_zero]at a
 rw [sideV_full]at c
 have a3:=a.2.2
 have b3:=b.2.2
 have c3:=c.2.2
 simp only at a3 b3 c3
 refine Evt.eq (f:=fun k q=>_) ?_ (fun k q=>by rw [laws_qPart])
 exact Evt.bind (qIn_ev ⟨a.1,c.2.1⟩ a.2.1 a3 (by simp only;omega)) (Evt.ctrue rfl (Evt.bind (qIn_ev ⟨a.1,c.2.1⟩ c.1 (by simp only;omega) c3) .pure))
theorem pair_beq(a b:Int×Int):((a.1==b.1)&&((a.2==b.2)&&true))=decide (a=b):=by
 obtain⟨a1,a2⟩:=a
 obtain⟨b1,b2⟩:=b
 rw [Bool.eq_iff_iff]
 simp
theorem part_step{c:Cl}{S F x15:List Iv}{A:List Int}{x26 x29:Int}{x28:Bool}{j:Nat}{R:Bool ⊕ (Cl×List Iv×List Int×Int×Bool×Int×List Iv×Unit)}(hj:j<S.length)(hF:j<F.length)(h3:S.length≤3)(hq:Evt (fun k _=>laws_qPart k (S.getD j ((0,0),0,0)) (F.getD j ((0,0),0,0))) true)(he:decide ((S.getD j ((0,0),0,0)).1=(S.getD j ((0,0),0,0)).2)=((j:Int)==c.1))
  (h:Evt (fun k n=>laws_FnCells_L536870746 k n c x15 A x26 x28 x29 F S (S.length:Int) ((j+1:Nat):Int)) R):Evt (fun k n=>laws_FnCells_L536870746 k n c x15 A x26 x28 x29 F S (S.length:Int) (j:Int)) R:=by
 refine Evt.step (fun k n=>laws_FnCells_L536870746.eq_2 k _ _ _ _ _ _ _ _ _ _ n) (Evt.ctrue (decide_eq_true (by omega)) (Evt.ctrue (decide_eq_true (by omega)) (Evt.ctrue (decide_eq_true (by omega)) (Evt.ctrue (decide_eq_true (by omega)) (Evt.ctrue (decide_eq_true (by omega)) ?_)))))
 rw [Int.toNat_natCast,w64_next (by simp only [lenB];omega)]
 refine Evt.bind hq (Evt.cfalse rfl (Evt.cfalse ?_ h))
 rw [pair_beq,he]
 simp
theorem part_end{c:Cl}{S F x15:List Iv}{A:List Int}{x26 x29:Int}{x28:Bool}:Evt (fun k n=>laws_FnCells_L536870746 k n c x15 A x26 x28 x29 F S (S.length:Int) (S.length:Int)) (.inr (c,x15,A,x26,x28,x29,F,())) :=
 Evt.step (fun k n=>laws_FnCells_L536870746.eq_2 k _ _ _ _ _ _ _ _ _ _ n) (Evt.cfalse (decide_eq_false (by omega)) .pure)
structure CellC(s:Int)(c:Cl)(x y:Int×Int×Int):Prop where
 a0:0≤x.1∧x.1≤y.1∧y.1≤s
 a1:0≤x.2.1∧x.2.1≤y.2.1∧y.2.1≤s
 a2:0≤x.2.2∧x.2.2≤y.2.2∧y.2.2≤s
 e0:if c.1=0 then(x.1=y.1∧x.1=if c.2.1 then s else 0)else x.1<y.1
 e1:if c.1=1 then(x.2.1=y.2.1∧x.2.1=if c.2.1 then s else 0)else x.2.1<y.2.1
 e2:if c.1=2 then(x.2.2=y.2.2∧x.2.2=if c.2.1 then s else 0)else x.2.2<y.2.2
theorem cell_c{dep:Nat}{c:Cl}(hd:dep≤2)(h:cellV dep c=true):CellC (2 ^ dep) c (lowV c (2 ^ dep)) (upV c.1 0 (lowV c (2 ^ dep)).1,upV c.1 1 (lowV c (2 ^ dep)).2.1,upV c.1 2 (lowV c (2 ^ dep)).2.2):=by
 have hp:=pow2 hd
 unfold cellV at h
 simp only [Bool.and_eq_true,decide_eq_true_eq,Int.toNat_natCast]at h
 obtain⟨_,k1,k2,k3⟩:=h
 obtain⟨ax,u,i,j⟩:=c
 simp only at k1 k2 k3
 generalize (2:Int) ^ dep=s at hp k2 k3
 rcases(by omega:ax=0∨ax=1∨ax=2)with rfl | rfl | rfl <;> cases u <;> constructor <;> simp [lowV,upV] <;> omega
theorem cells_sides{b:Bx3}{d:Int}{c:Cl}(hb:b.2.1.length<lenB)(h:(csV b d c).2=true):∃F:List Iv,F.length=3∧(csV b d c).1.length=3∧(0≤c.1∧c.1<3)∧Evt (fun k _=>spec_SidesOver k b) (F,true) ∧
  ((csV b d c).1.getD c.1.toNat ((0,0),0,0)).1=(if c.2.1 then(F.getD c.1.toNat ((0,0),0,0)).2 else(F.getD c.1.toNat ((0,0),0,0)).1) ∧
  ∀(A:List Int) (x26 x29:Int) (x28:Bool) (x15:List Iv),Evt (fun k n=>laws_FnCells_L536870746 k n c x15 A x26 x28 x29 F (csV b d c).1 ((csV b d c).1.length:Int) 0) (.inr (c,x15,A,x26,x28,x29,F,())):=by
 unfold csV at h ⊢
 split at h
 case isFalse=>cases h
 rename_i hc
 rw [if_pos hc]
 rw [Bool.and_eq_true]at hc
 obtain⟨hcb,hcell⟩:=hc
 obtain⟨n,rfl,hn,k1,_⟩:=cellV_form hcell
 have hc:=cell_c hn hcell
 have hN:nwV [[(1,0,0,0)],[(1,0,0,0)],[(1,0,0,0)]] b=true:=by
  unfold cbV at hcb
  simp only [Bool.and_eq_true,beq_iff_eq,decide_eq_true_eq]at hcb
  unfold nwV
  simp only [Bool.and_eq_true,beq_iff_eq,decide_eq_true_eq]
  exact⟨by decide,hcb.1,by simp only [List.length_cons,List.length_nil];omega,by omega⟩
 obtain⟨m',hbm,hNw⟩:=nwV_form hN
 have hgood:bxV b=true:=by
  unfold cbV at hcb
  rw [Bool.and_eq_true]at hcb
  exact hcb.1
 have hva:=vaSides_ev hNw
 rw [←hbm]at hva
 obtain⟨m,l0,l1,l2,h0,h1,h2,rfl,hm,g0,g1,g2⟩:=cbV_form hcb
 have em:m'=m:=by
  have:=congrArg (fun b:Bx=>b.1) hbm
  simp only at this
  omega
 subst em
 have hF:sidesB m' [l0,l1,l2] [h0,h1,h2] = [((mkD l0 m').1,(mkD h0 m').1),((mkD l1 m').1,(mkD h1 m').1),((mkD l2 m').1,(mkD h2 m').1)]:=rfl
 simp only at hva
 rw [hF]at hva
 refine⟨[((mkD l0 m').1,(mkD h0 m').1),((mkD l1 m').1,(mkD h1 m').1),((mkD l2 m').1,(mkD h2 m').1)],rfl,by simp only [Int.toNat_natCast,cellSides,List.length_cons,List.length_nil],by omega,?_,?_,?_⟩
 ·refine Evt.eq (f:=fun k q=>_) ?_ (fun k q=>by rw [spec_SidesOver])
  have hg:=bxGood_ev hb
  rw [hgood]at hg
  exact Evt.bind hg (Evt.cfalse rfl (Evt.bind hva .pure))
 ·simp only [Int.toNat_natCast,cellSides]
  have h0':=hc.e0
  have h1':=hc.e1
  have h2':=hc.e2
  generalize lowV c (2 ^ n)=x at h0' h1' h2'
  rcases(by omega:c.1=0∨c.1=1∨c.1=2)with e | e | e
  ·rw [e,if_pos rfl]at h0'
   rw [e]
   show sideV m' n l0 h0 x.1=if c.2.1=true then(mkD h0 m').1 else(mkD l0 m').1
   rw [h0'.2]
   split
   ·exact sideV_full _ _ _ _
   ·exact sideV_zero _ _ _ _
  ·rw [e,if_pos rfl]at h1'
   rw [e]
   show sideV m' n l1 h1 x.2.1=if c.2.1=true then(mkD h1 m').1 else(mkD l1 m').1
   rw [h1'.2]
   split
   ·exact sideV_full _ _ _ _
   ·exact sideV_zero _ _ _ _
  ·rw [e,if_pos rfl]at h2'
   rw [e]
   show sideV m' n l2 h2 x.2.2=if c.2.1=true then(mkD h2 m').1 else(mkD l2 m').1
   rw [h2'.2]
   split
   ·exact sideV_full _ _ _ _
   ·exact sideV_zero _ _ _ _
 ·intro A x26 x29 x28 x15
  simp only [Int.toNat_natCast,cellSides]
  have hp:=pow2 hn
  have h0':=hc.e0
  have h1':=hc.e1
  have h2':=hc.e2
  have a0:=hc.a0
  have a1:=hc.a1
  have a2:=hc.a2
  generalize upV c.1 0 (lowV c (2 ^ n)).1=y0 at h0' a0
  generalize upV c.1 1 (lowV c (2 ^ n)).2.1=y1 at h1' a1
  generalize upV c.1 2 (lowV c (2 ^ n)).2.2=y2 at h2' a2
  generalize lowV c (2 ^ n)=x at h0' h1' h2' a0 a1 a2
  have eq:∀ {l h u v:Int} {j:Int},(-64≤l∧l<h∧h≤64)→0≤u∧u≤v∧v≤2 ^ n→(if c.1=j then(u=v∧u=if c.2.1 then 2 ^ n else 0)else u<v)→decide (sideV m' n l h u=sideV m' n l h v)=(j==c.1):=by
   intro l h u v j hl hu hv
   by_cases e:c.1=j
   ·rw [if_pos e]at hv
    rw [hv.1,e]
    simp
   ·rw [if_neg e]at hv
    rw [decide_eq_false (sideV_lt hl (by omega) (by omega) hn hm hv)]
    exact(beq_eq_false_iff_ne.2 fun h=>e h.symm).symm
  refine part_step (j:=0) (by simp) (by simp) (by simp) (part_ev g0 a0.1 a0.2.1 a0.2.2 hn hm) (eq (j:=0) g0 a0 h0') ?_
  refine part_step (j:=1) (by simp) (by simp) (by simp) (part_ev g1 a1.1 a1.2.1 a1.2.2 hn hm) (eq (j:=1) g1 a1 h1') ?_
  refine part_step (j:=2) (by simp) (by simp) (by simp) (part_ev g2 a2.1 a2.2.1 a2.2.2 hn hm) (eq (j:=2) g2 a2 h2') ?_
  exact part_end

def roW(a:Int):Int:=IntKind.wrap .i64 ((IntKind.wrap .i64 ((IntKind.wrap .i64 (Int.tdiv a 3))*3))+(Int.tmod (IntKind.wrap .i64 ((Int.tmod a 3)+1)) 3))
theorem roW_all:(L6.all fun a=>roW a==roL a)=true:=by kernel_rfl
theorem ro_loop{A:List Int}(hA:∀a∈A,isLab a)(hl:A.length≤96)(d v:Int):∀(r D:List Int),D++r=A→Evt (fun k n=>laws_FnCells_L536870826 k n d v (D.map roL) A (A.length:Int) D.length) (.inr (d,v,A.map roL,()))
 | [],D,h=>by
  rw [List.append_nil]at h
  subst h
  exact Evt.step (fun k n=>laws_FnCells_L536870826.eq_2 k _ _ _ _ _ _ n) (Evt.cfalse mid_end .pure)
 | e::r,D,h=>by
  have hn:=congrArg List.length h
  simp only [List.length_append,List.length_cons]at hn
  have ih:=ro_loop hA hl d v r (D ++ [e]) (by simpa using h)
  have he:roW e=roL e:=by
   have:=List.all_eq_true.1 roW_all e (L6_mem (hA e (by rw [←h];simp)))
   rwa [beq_iff_eq]at this
  refine Evt.step (fun k n=>laws_FnCells_L536870826.eq_2 k _ _ _ _ _ _ n) ?_
  subst h
  refine Evt.ctrue mid_lt (Evt.ctrue mid_ge (Evt.ctrue mid_lt (Evt.ctrue (decide_eq_true (by simp;omega)) ?_)))
  rw [mid_get,len_next (e:=e) (r:=r) (by simp only [List.length_append,List.length_cons,lenB];omega)]
  rw [List.map_append,List.map_cons,List.map_nil,←he]at ih
  exact ih
theorem dlAsk_of{A:List Int}{d:Nat}(h:LabOk A d):dlAsk A d=true:=by
 unfold dlAsk labsB
 simp only [Bool.and_eq_true,decide_eq_true_eq,beq_iff_eq,List.all_eq_true,Int.toNat_natCast]
 exact⟨⟨by have:=h.hd;omega,by rw [h.len]⟩,fun x hx=>h.lab x hx⟩
theorem dl_told{A:List Int}{d:Int}(h:(dlV A d).2=true):∃n:Nat,d=n∧LabOk A n∧dlV A d=dgLV A n:=by
 unfold dlV at h ⊢
 split at h
 ·rename_i ha
  rw [if_pos ha]
  have hd:0≤d∧d≤2:=by
   unfold dlAsk at ha
   simp only [Bool.and_eq_true,decide_eq_true_eq]at ha
   exact ha.1.1
  obtain⟨n,rfl⟩:∃n:Nat,d=n:=⟨d.toNat,by omega⟩
  exact⟨n,rfl,dlAsk_ok ha,rfl⟩
 ·cases h
theorem pow_six{d:Nat}(h:d≤2):decide (IntKind.wrap .u64 (IntKind.wrap .i64 (2*(d:Int)))<0)=false∧IntKind.wrap .i64 (6*2 ^ min (Int.toNat (IntKind.wrap .u64 (IntKind.wrap .i64 (2*(d:Int))))) (IntKind.bits .i64))=((6*2 ^ (2*d):Nat):Int):=by
 rcases(by omega:d=0∨d=1∨d=2)with rfl | rfl | rfl <;> decide
theorem fnCells_law(a b:List Int)(ha:bytesOk a)(hb:bytesOk b):∃k,laws_FnCells k a b=some true:=by
 refine Evt.get (Evt.eq (f:=fun k q=>_) ?_ (fun k q=>by rw [laws_FnCells]))
 refine Evt.ite (fun _ => .pure) (fun _ => ?_)
 obtain⟨⟨d1,c1⟩,e1,_⟩:=cellDepthK ha curZ (by omega)
 have e1:Evt (fun k _=>spec_DrawSurfaceCells a) d1:=by
  unfold spec_DrawSurfaceCells
  exact Evt.bind e1 .pure
 obtain⟨⟨b2,d2,c2⟩,e2,hb2⟩:=drawCellSidesO hb
 obtain⟨⟨s3,b3,d3,c3⟩,e3,hs3,hb3⟩:=drawCellLabelO hb
 obtain⟨⟨A,d4⟩,e4,hA⟩:=drawDegreeO hb
 obtain⟨T,e5,hT⟩:=drawTextO hb
 obtain⟨⟨s6,b6⟩,e6,hs6,hb6⟩:=drawIsCubeO hb
 simp only at hb2 hs3 hb3 hA hs6 hb6
 have l3:=hs3.lb
 have l6:=hs6.lb
 have lA:A.length<lenB:=by simp only [lenB];omega
 have lT:T.length<lenB:=by simp only [lenB];omega
 refine Evt.bind e1 (Evt.bind (impl_surface_ev d1) (Evt.bind (spec_surface_ev d1) (Evt.bind e2 (Evt.bind (impl_CellSides_ev hb2.lb) (Evt.bind (spec_cellSides_ev hb2.lb) (Evt.bind e3 (Evt.bind (impl_cellLabel_ev l3.1 l3.2 hb3.lb) (Evt.bind (spec_cellLabel_ev l3.1 l3.2 hb3.lb) (Evt.bind e4 (Evt.bind (impl_degreeOfLabels_ev lA) (Evt.bind (spec_degreeOfLabels_ev lA) (Evt.bind e5 (Evt.bind (impl_labelsText_ev lT) (Evt.bind (spec_labelsText_ev lT) (Evt.bind e6 ?_)))))))))))))))
 have sl:=sfV_len d1
 have cl:=csV_len b2 d2 c2
 refine Evt.cfalse (by simp) (Evt.bind (qCells_ev (by simp only [lenB];omega)) (Evt.cfalse rfl (Evt.cfalse (by simp) (Evt.bind (qIntervals_ev (by simp only [lenB];omega)) (Evt.cfalse rfl (Evt.cfalse (by simp) (Evt.cfalse (by simp) (Evt.cfalse (by simp) (Evt.cfalse (by simp) (Evt.cfalse (by simp) (Evt.cfalse (by simp) (Evt.bind (isCube_ev l6.1 l6.2 hb6.lb|>fun h=>Evt.eq (Evt.bind h .pure) (fun k q=>by rw [impl_IsCubeSystem])) (Evt.bind (cbGood_ev l6.1 l6.2 hb6.lb|>fun h=>Evt.eq (Evt.bind h .pure) (fun k q=>by rw [spec_IsCubeSystem])) (Evt.cfalse (by simp) ?_))))))))))))))
  -- how many cells
 refine Evt.inr (y:=(b2,c2,(csV b2 d2 c2).2,(csV b2 d2 c2).1,A,d4,(dlV A d4).2,(dlV A d4).1,())) ?_ ?_
 ·refine Evt.ite (fun hk => ?_) (fun _ => .pure)
  unfold sfV at hk
  split at hk
  case isFalse=>cases hk
  rename_i hd
  obtain⟨n,rfl⟩:∃n:Nat,d1=n:=⟨d1.toNat,by omega⟩
  obtain⟨p1,p2⟩:=pow_six (d:=n) (by omega)
  have hl:=cellsV_len (n:=n) (by omega)
  refine Evt.cfalse p1 (Evt.cfalse ?_ .pure)
  unfold sfV
  rw [if_pos hd,p2,Int.toNat_natCast,bne_eq_false_iff_eq]
  simp only
  omega
  -- the sides of a cell
 refine Evt.inr (y:=(A,d4,(dlV A d4).2,(dlV A d4).1,())) ?_ ?_
 ·refine Evt.ite (fun hk => ?_) (fun _ => .pure)
  obtain⟨F,f1,f2,f3,f4,f5,f6⟩:=cells_sides hb2.lb hk
  have t0:c2.1.toNat<3:=by omega
  refine Evt.bind f4 (Evt.cfalse rfl (Evt.inr (Evt.diag (f6 A d4 (dlV A d4).1 (dlV A d4).2 (csV b2 d2 c2).1)) ?_))
  have g1:decide (0≤c2.1)=true:=decide_eq_true f3.1
  have g2:decide (c2.1<(F.length:Int))=true:=decide_eq_true (by omega)
  have g3:decide (c2.1<((csV b2 d2 c2).1.length:Int))=true:=decide_eq_true (by omega)
  refine Evt.ctrue g1 (Evt.ctrue g2 ?_)
  refine Evt.inr (y:=(c2,(csV b2 d2 c2).1,A,d4,(dlV A d4).2,(dlV A d4).1,(if c2.2.1 then(F.getD c2.1.toNat ((0,0),0,0)).2 else(F.getD c2.1.toNat ((0,0),0,0)).1),())) ?_ ?_
  ·refine Evt.ite (fun hu => ?_) (fun hu => ?_)
   ·have hu:c2.2.1=true:=hu
    rw [if_pos hu]
    exact Evt.ctrue g1 (Evt.ctrue g2 .pure)
   ·have hu:c2.2.1=false:=hu
    rw [hu]
    exact .pure
  ·refine Evt.ctrue g1 (Evt.ctrue g3 (Evt.cfalse ?_ .pure))
   simp only
   rw [f5,pair_beq]
   simp
  -- labels that are moved on
 refine Evt.ite (fun hk => ?_) (fun _ => .pure)
 have hk:(dlV A d4).2=true:=hk
 obtain⟨n,rfl,hL,hdl⟩:=dl_told hk
 obtain⟨r1,r2⟩:=dgLV_ro hL
 refine Evt.inr (Evt.diag (ro_loop hL.lab hA (n:Int) (dlV A n).1 A [] rfl)) ?_
 have hdl2:dlV (A.map roL) n=dlV A n:=by
  rw [hdl,←r2]
  unfold dlV
  rw [if_pos (dlAsk_of r1),Int.toNat_natCast]
 have e7:=impl_degreeOfLabels_ev (a:=A.map roL) (d:=(n:Int)) (by simp only [List.length_map];exact lA)
 rw [hdl2]at e7
 exact Evt.bind e7 (Evt.cfalse (by rw [hk];rfl) (Evt.cfalse (by simp) .pure))
theorem fnCells_row(a b:List Int)(h:WfT (.sl (.int .u8)) a)(h':WfT (.sl (.int .u8)) b):∃k,laws_FnCells k a b=some true:=fnCells_law a b (bytes_of h) (bytes_of h')
end Go.Ev.G

