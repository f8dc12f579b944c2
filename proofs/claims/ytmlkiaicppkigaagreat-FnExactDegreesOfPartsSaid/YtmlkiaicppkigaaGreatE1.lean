/- A part of a verified evaluator of the model's code: what it evaluates is what a call returns; no condition beyond the theorems' own hypotheses. -/
import Derived.Orders
import Derived.Laws.CopyRow
import Derived.Laws.Rows
import Derived.KernelRfl
import Derived.Laws.BytesArg
set_option linter.unusedVariables false
set_option linter.unusedSectionVars false
namespace Go.Ev
open Go

inductive Ty where
 | unit
 | int (k:IntKind)
 | bool
 | str
 | pair (a b:Ty)
 | sl (t:Ty)
 | rm (t:Ty)
 | ks
 deriving DecidableEq

abbrev Ty.T:Ty→Type
 | .unit=>Unit
 | .int _=>Int
 | .bool=>Bool
 | .str=>ByteArray
 | .pair a b=>a.T×b.T
 | .sl t=>List t.T
 | .rm t=>List t.T×List t.T
 | .ks=>Unit

def Ty.size:Ty→Nat
 | .unit=>0
 | .int _=>1
 | .bool=>1
 | .str=>1
 | .pair a b=>a.size+b.size
 | .sl _=>1
 | .rm _=>1
 | .ks=>1

def Ty.flat:Ty→Bool
 | .unit=>true
 | .int _=>true
 | .bool=>true
 | .str=>true
 | .pair a b=>a.flat&&b.flat
 | .sl _=>false
 | .rm _=>false
 | .ks=>true

def Ty.dflt:(t:Ty)→t.T
 | .unit=>()
 | .int _=>0
 | .bool=>false
 | .str => .empty
 | .pair a b=>(a.dflt,b.dflt)
 | .sl _ => []
 | .rm _=>([],[])
 | .ks=>()

def RowR{α:Type}(own:Bool)(w:World)(sz:Nat)(R:α→List Value→List Nat→Prop)(xs:List α)(A:Option Addr)(n c:Nat)(F:List Nat):Prop :=
 n=xs.length∧n≤c∧((xs = []∧F = []∧(own=true→c=0)) ∨
  ∃(b o:Nat) (arr:Array Value) (e:TypeId) (fr:Nat×Nat) (Fs:List (List Nat)) (G:List Nat),A=some ⟨b,o,none⟩∧w.heap[b]? = some (.cells arr e fr)∧(own=true→fr=(0,0)) ∧
   o+(if own then c else n)*sz≤arr.size∧F=b::(Fs.flatten++G)∧(∀k∈G,k<w.heap.size)∧Fs.length=xs.length ∧
   ∀i x Fi,xs[i]? = some x→Fs[i]? = some Fi→R x ((arr.toList.drop (o+i*sz)).take sz) Fi)

class KSl where
 A:Option Addr
 n:Nat
 c:Nat
 xs:List Int
 R:List Nat

def KSl.s[k:KSl]:Value := .slice k.A k.n k.c

instance (priority:=low) KSl.nil:KSl:=⟨none,0,0,[],[]⟩

variable [KSl]

def RE(own:Bool)(w:World):(t:Ty)→t.T→List Value→List Nat→Prop
 | .unit,_,cs,F=>cs = []∧F = []
 | .int k,n,cs,F=>cs = [.int k n]∧F = []
 | .bool,b,cs,F=>cs = [.bool b]∧F = []
 | .str,s,cs,F=>cs = [.string s]∧F = []
 | .pair a b,x,cs,F=>∃c1 c2 F1 F2,cs=c1++c2∧F=F1++F2∧RE own w a x.1 c1 F1∧RE own w b x.2 c2 F2
 | .sl t,xs,cs,F=>∃A n c,cs = [.slice A n c]∧RowR own w t.size (RE own w t) xs A n c F
 | .rm t,x,cs,F=>∃A n c,cs = [.slice A n c]∧n=x.1.length∧RowR own w t.size (RE own w t) (x.1++x.2) A (x.1++x.2).length c F
 | .ks,_,cs,F=>cs = [KSl.s]∧F = []

theorem RE_len{own w}:∀ {t:Ty} {x cs F},RE own w t x cs F→cs.length=t.size
 | .unit,_,_,_,h=>by simp [h.1,Ty.size]
 | .int _,_,_,_,h=>by simp [h.1,Ty.size]
 | .bool,_,_,_,h=>by simp [h.1,Ty.size]
 | .str,_,_,_,h=>by simp [h.1,Ty.size]
 | .ks,_,_,_,h=>by simp [h.1,Ty.size]
 | .pair _ _,_,_,_,h=>by
  obtain⟨c1,c2,F1,F2,rfl,rfl,h1,h2⟩:=h
  simp [Ty.size,RE_len h1,RE_len h2]
 | .sl _,_,_,_,h=>by
  obtain⟨A,n,c,rfl,_⟩:=h
  simp [Ty.size]
 | .rm _,_,_,_,h=>by
  obtain⟨A,n,c,rfl,_⟩:=h
  simp [Ty.size]

theorem RowR_mono{α:Type}{own own':Bool}{w w':World}{sz:Nat}{R R':α→List Value→List Nat→Prop}{xs:List α}{A n c F}
  (ho:own'=true→own=true) (hw:∀b∈F,w'.heap[b]? = w.heap[b]?) (hR:∀x cs Fi,(∀b∈Fi,b∈F)→R x cs Fi→R' x cs Fi)
  (h:RowR own w sz R xs A n c F):RowR own' w' sz R' xs A n c F:=by
 obtain⟨hn,hc,h | ⟨b,o,arr,e,fr,Fs,G,hA,hb,hf,hs,hF,hG,hl,hel⟩⟩:=h
 ·exact⟨hn,hc,.inl ⟨h.1,h.2.1,fun h'=>h.2.2 (ho h')⟩⟩
 ·refine⟨hn,hc,.inr ⟨b,o,arr,e,fr,Fs,G,hA,?_,fun h'=>hf (ho h'),?_,hF,?_,hl,fun i x Fi hx hFi=>hR _ _ _ ?_ (hel i x Fi hx hFi)⟩⟩
  ·rw [hw b (by simp [hF]),hb]
  ·refine Nat.le_trans (Nat.add_le_add_left (Nat.mul_le_mul_right _ ?_) _) hs
   cases own' <;> cases own <;> simp_all
  ·intro k hk
   have h1:=hw k (by rw [hF];simp [hk])
   have h2:=hG k hk
   rw [Array.getElem?_eq_getElem h2]at h1
   exact(Array.getElem?_eq_some_iff.1 h1).1
  ·intro b' hb'
   rw [hF]
   refine List.mem_cons_of_mem _ (List.mem_append.2 (.inl (List.mem_flatten.2 ⟨Fi,List.mem_of_getElem? hFi,hb'⟩)))

theorem RE_mono{own own':Bool}{w w':World}(ho:own'=true→own=true):∀ {t:Ty} {x cs F},(∀b∈F,w'.heap[b]? = w.heap[b]?)→RE own w t x cs F→RE own' w' t x cs F
 | .unit,_,_,_,_,h=>h
 | .int _,_,_,_,_,h=>h
 | .bool,_,_,_,_,h=>h
 | .str,_,_,_,_,h=>h
 | .ks,_,_,_,_,h=>h
 | .pair _ _,_,_,_,hw,h=>by
  obtain⟨c1,c2,F1,F2,rfl,rfl,h1,h2⟩:=h
  exact⟨c1,c2,F1,F2,rfl,rfl,RE_mono ho (fun b hb=>hw b (by simp [hb])) h1,RE_mono ho (fun b hb=>hw b (by simp [hb])) h2⟩
 | .sl _,_,_,_,hw,h=>by
  obtain⟨A,n,c,rfl,hr⟩:=h
  exact⟨A,n,c,rfl,RowR_mono ho hw (fun x cs Fi hF h=>RE_mono ho (fun b hb=>hw b (hF b hb)) h) hr⟩
 | .rm _,_,_,_,hw,h=>by
  obtain⟨A,n,c,rfl,hn,hr⟩:=h
  exact⟨A,n,c,rfl,hn,RowR_mono ho hw (fun x cs Fi hF h=>RE_mono ho (fun b hb=>hw b (hF b hb)) h) hr⟩

theorem RE_frame{own:Bool}{w w':World}{t:Ty}{x cs F}(hw:∀b∈F,w'.heap[b]? = w.heap[b]?)(h:RE own w t x cs F):RE own w' t x cs F:=RE_mono id hw h
theorem RE_ro{own:Bool}{w:World}{t:Ty}{x cs F}(h:RE own w t x cs F):RE false w t x cs F:=RE_mono (by simp) (fun _ _=>rfl) h

theorem RowR_lt{α:Type}{own:Bool}{w:World}{sz:Nat}{R:α→List Value→List Nat→Prop}{xs:List α}{A n c F}
  (hR:∀x cs Fi,R x cs Fi→∀b∈Fi,b<w.heap.size) (h:RowR own w sz R xs A n c F):∀b∈F,b<w.heap.size:=by
 obtain⟨hn,hc,h | ⟨b,o,arr,e,fr,Fs,G,hA,hb,hf,hs,hF,hG,hl,hel⟩⟩:=h
 ·rw [h.2.1];simp
 ·intro b' hb'
  rw [hF]at hb'
  rcases List.mem_cons.1 hb' with rfl | hm
  ·exact(Array.getElem?_eq_some_iff.1 hb).1
  rcases List.mem_append.1 hm with hm | hm
  ·obtain⟨Fi,hFi,hm⟩:=List.mem_flatten.1 hm
   obtain⟨i,hi,hFi⟩:=List.getElem_of_mem hFi
   have hx:i<xs.length:=by omega
   exact hR _ _ _ (hel i xs[i] Fi (List.getElem?_eq_getElem hx) (by rw [List.getElem?_eq_getElem hi,hFi])) _ hm
  ·exact hG _ hm

theorem RE_lt{own:Bool}{w:World}:∀ {t:Ty} {x cs F},RE own w t x cs F→∀b∈F,b<w.heap.size
 | .unit,_,_,_,h=>by rw [h.2];simp
 | .int _,_,_,_,h=>by rw [h.2];simp
 | .bool,_,_,_,h=>by rw [h.2];simp
 | .str,_,_,_,h=>by rw [h.2];simp
 | .ks,_,_,_,h=>by rw [h.2];simp
 | .pair _ _,_,_,_,h=>by
  obtain⟨c1,c2,F1,F2,rfl,rfl,h1,h2⟩:=h
  intro b hb
  rcases List.mem_append.1 hb with hb | hb
  ·exact RE_lt h1 b hb
  ·exact RE_lt h2 b hb
 | .sl _,_,_,_,h=>by
  obtain⟨A,n,c,rfl,hr⟩:=h
  exact RowR_lt (fun x cs Fi h=>RE_lt h) hr
 | .rm _,_,_,_,h=>by
  obtain⟨A,n,c,rfl,_,hr⟩:=h
  exact RowR_lt (fun x cs Fi h=>RE_lt h) hr

theorem RE_one{own:Bool}{w:World}:∀ {t:Ty} {x cs F},RE own w t x cs F→∀v∈cs,v.oneCell'=true
 | .unit,_,_,_,h=>by rw [h.1];simp
 | .int _,_,_,_,h=>by rw [h.1];simp [Value.oneCell']
 | .bool,_,_,_,h=>by rw [h.1];simp [Value.oneCell']
 | .str,_,_,_,h=>by rw [h.1];simp [Value.oneCell']
 | .ks,_,_,_,h=>by rw [h.1];simp [KSl.s,Value.oneCell']
 | .pair _ _,_,_,_,h=>by
  obtain⟨c1,c2,F1,F2,rfl,rfl,h1,h2⟩:=h
  intro b hb
  rcases List.mem_append.1 hb with hb | hb
  ·exact RE_one h1 b hb
  ·exact RE_one h2 b hb
 | .sl _,_,_,_,h=>by
  obtain⟨A,n,c,rfl,hr⟩:=h
  simp [Value.oneCell']
 | .rm _,_,_,_,h=>by
  obtain⟨A,n,c,rfl,hr⟩:=h
  simp [Value.oneCell']

theorem RE_flat{own:Bool}{w:World}:∀ {t:Ty} {x cs F},t.flat=true→RE own w t x cs F→F = []
 | .unit,_,_,_,_,h=>h.2
 | .int _,_,_,_,_,h=>h.2
 | .bool,_,_,_,_,h=>h.2
 | .str,_,_,_,_,h=>h.2
 | .ks,_,_,_,_,h=>h.2
 | .pair _ _,_,_,_,hf,h=>by
  obtain⟨c1,c2,F1,F2,rfl,rfl,h1,h2⟩:=h
  simp [Ty.flat]at hf
  rw [RE_flat hf.1 h1,RE_flat hf.2 h2]
  rfl
 | .sl _,_,_,_,hf,_=>by simp [Ty.flat]at hf
 | .rm _,_,_,_,hf,_=>by simp [Ty.flat]at hf

theorem RE_flat_own{own own':Bool}{w w':World}:∀ {t:Ty} {x cs F},t.flat=true→RE own w t x cs F→RE own' w' t x cs F
 | .unit,_,_,_,_,h=>h
 | .int _,_,_,_,_,h=>h
 | .bool,_,_,_,_,h=>h
 | .str,_,_,_,_,h=>h
 | .ks,_,_,_,_,h=>h
 | .pair _ _,_,_,_,hf,h=>by
  obtain⟨c1,c2,F1,F2,rfl,rfl,h1,h2⟩:=h
  simp [Ty.flat]at hf
  exact⟨c1,c2,F1,F2,rfl,rfl,RE_flat_own hf.1 h1,RE_flat_own hf.2 h2⟩
 | .sl _,_,_,_,hf,_=>by simp [Ty.flat]at hf
 | .rm _,_,_,_,hf,_=>by simp [Ty.flat]at hf

theorem RowR_pre{α:Type}{own:Bool}{w:World}{sz:Nat}{R:α→List Value→List Nat→Prop}{xs ys:List α}{A:Option Addr}{c:Nat}{F:List Nat}(hR:∀x cs Fi,R x cs Fi→∀b∈Fi,b<w.heap.size)
  (h:RowR own w sz R (xs++ys) A (xs++ys).length c F):RowR own w sz R xs A xs.length c F:=by
 have hlt:=RowR_lt hR h
 obtain⟨hn,hc,h | ⟨b,o,arr,e,fr,Fs,G,hA,hb,hf,hs,hF,hG,hl,hel⟩⟩:=h
 ·refine⟨rfl,?_,.inl ⟨(List.append_eq_nil_iff.1 h.1).1,h.2⟩⟩
  simp at hc;omega
 ·have hln:xs.length≤(xs++ys).length:=by simp
  refine⟨rfl,by omega,.inr ⟨b,o,arr,e,fr,Fs.take xs.length,(Fs.drop xs.length).flatten++G,hA,hb,hf,?_,?_,fun k hk=>hlt k ?_,?_,fun i x Fi hx hFi => ?_⟩⟩
  ·refine Nat.le_trans (Nat.add_le_add_left (Nat.mul_le_mul_right _ ?_) _) hs
   cases own <;> simp
  ·rw [hF,←List.append_assoc,←List.flatten_append,List.take_append_drop]
  ·rw [hF]
   refine List.mem_cons_of_mem _ ?_
   rcases List.mem_append.1 hk with hk | hk
   ·obtain⟨Fi,hFi,hm⟩:=List.mem_flatten.1 hk
    exact List.mem_append.2 (.inl (List.mem_flatten.2 ⟨Fi,List.mem_of_mem_drop hFi,hm⟩))
   ·exact List.mem_append.2 (.inr hk)
  ·rw [List.length_take,hl,List.length_append];omega
  ·have hi:=(List.getElem?_eq_some_iff.1 hx).1
   rw [List.getElem?_take,if_pos hi]at hFi
   exact hel i x Fi (by rw [List.getElem?_append_left hi];exact hx) hFi

theorem RowR_map{α β:Type}{own:Bool}{w:World}{sz:Nat}{R:α→List Value→List Nat→Prop}{R':β→List Value→List Nat→Prop}{f:α→β}(hR:∀x cs Fi,R x cs Fi→R' (f x) cs Fi){xs:List α}{A:Option Addr}{n c:Nat}{F:List Nat}
  (h:RowR own w sz R xs A n c F):RowR own w sz R' (xs.map f) A n c F:=by
 obtain⟨hn,hc,h | ⟨b,o,arr,e,fr,Fs,G,hA,hb,hf,hs,hF,hG,hl,hel⟩⟩:=h
 ·exact⟨by simp [hn],hc,.inl ⟨by simp [h.1],h.2⟩⟩
 ·refine⟨by simp [hn],hc,.inr ⟨b,o,arr,e,fr,Fs,G,hA,hb,hf,hs,hF,hG,by simp [hl],fun i x Fi hx hFi => ?_⟩⟩
  rw [List.getElem?_map]at hx
  obtain⟨y,hy,rfl⟩:=Option.map_eq_some_iff.1 hx
  exact hR _ _ _ (hel i y Fi hy hFi)

def castF(t t':Ty):Option (t.T→t'.T) :=
 if h:t=t' then some (fun x=>h ▸ x)else
 match t,t' with
 | .rm a,.sl b=>if h:a=b then some (fun x=>h ▸ x.1)else match castF a b with
  | some f=>some fun x=>x.1.map f
  | none=>none
 | .sl a,.sl b=>match castF a b with
  | some f=>some fun x=>x.map f
  | none=>none
 | .pair a b,.pair c d=>match castF a c,castF b d with
  | some f,some g=>some fun x=>(f x.1,g x.2)
  | _,_=>none
 | _,_=>none

theorem castF_size:∀ {t t':Ty} {f},castF t t'=some f→t.size=t'.size:=by
 intro t
 induction t with
 | pair a b iha ihb =>
  intro t' f h
  unfold castF at h
  split at h
  ·rename_i e;rw [e]
  ·cases t' with
   | pair c d =>
    simp only at h
    split at h
    ·rename_i f1 g1 h1 h2
     simp [Ty.size,iha h1,ihb h2]
    ·cases h
   | _=>cases h
 | sl a iha =>
  intro t' f h
  unfold castF at h
  split at h
  ·rename_i e;rw [e]
  ·cases t' <;> first | rfl | cases h
 | rm a iha =>
  intro t' f h
  unfold castF at h
  split at h
  ·rename_i e;rw [e]
  ·cases t' <;> first | rfl | cases h
 | _ =>
  intro t' f h
  unfold castF at h
  split at h
  ·rename_i e;rw [e]
  ·cases h

theorem RE_cast{own:Bool}{w:World}:∀ {t t':Ty} {f:t.T→t'.T} {x:t.T} {cs F},castF t t'=some f→RE own w t x cs F→RE own w t' (f x) cs F:=by
 intro t
 induction t with
 | pair a b iha ihb =>
  intro t' f x cs F h hx
  unfold castF at h
  split at h
  ·rename_i e;subst e;cases h;exact hx
  ·cases t' with
   | pair c d =>
    simp only at h
    split at h
    ·rename_i f1 g1 h1 h2
     cases h
     obtain⟨c1,c2,F1,F2,rfl,rfl,q1,q2⟩:=hx
     exact⟨c1,c2,F1,F2,rfl,rfl,iha h1 q1,ihb h2 q2⟩
    ·cases h
   | _=>cases h
 | sl a iha =>
  intro t' f x cs F h hx
  unfold castF at h
  split at h
  ·rename_i e;subst e;cases h;exact hx
  ·cases t' with
   | sl b =>
    simp only at h
    split at h
    ·rename_i g hg
     cases h
     obtain⟨A,n,c,rfl,hr⟩:=hx
     refine⟨A,n,c,rfl,?_⟩
     rw [←castF_size hg]
     exact RowR_map (R:=RE own w a) (fun x cs Fi=>iha hg) hr
    ·cases h
   | _=>cases h
 | rm a iha =>
  intro t' f x cs F h hx
  unfold castF at h
  split at h
  ·rename_i e;subst e;cases h;exact hx
  ·cases t' with
   | sl b =>
    simp only at h
    split at h
    ·rename_i e
     subst e
     cases h
     obtain⟨A,n,c,rfl,hn,hr⟩:=hx
     exact⟨A,n,c,rfl,by rw [hn];exact RowR_pre (R:=RE own w a) (fun x cs Fi h=>RE_lt h) hr⟩
    ·split at h
     ·rename_i g hg
      cases h
      obtain⟨A,n,c,rfl,hn,hr⟩:=hx
      refine⟨A,n,c,rfl,?_⟩
      rw [hn,←castF_size hg]
      exact RowR_map (R:=RE own w a) (fun x cs Fi=>iha hg) (RowR_pre (fun x cs Fi h=>RE_lt h) hr)
     ·cases h
   | _=>cases h
 | _ =>
  intro t' f x cs F h hx
  unfold castF at h
  split at h
  ·rename_i e;subst e;cases h;exact hx
  ·cases h

end Go.Ev
namespace Go.Ev
open Go
noncomputable section

inductive Sc where
 | top
 | und
 | v (x:Value)
 | ptr (id off:Nat)
 | elt (id i j sz:Nat)
 | sl (id:Nat)
 | fn (f:FuncId) (id:Nat)
 | sn (b:Bool) (id:Nat)
 | suf (id l sz:Nat)
 | sf (id:Nat)
 | k
 | ke (i:Nat)
 | slc (id n:Nat)

inductive AV where
 | one (l:List Sc) (agg:Bool)
 | tup (l:List (List Sc×Bool))

abbrev AV.sc(c:Sc):AV := .one [c] false

inductive Blk where
 | unborn
 | dead
 | cells (l:List Sc) (ro:Bool)
 | row (t:Ty) (x:List t.T) (own:Bool) (ver:Nat) (par:List (Nat×Nat))
 | clo (l:List (List Sc×Bool))
 | idx (t:Ty) (xs:List (List t.T)) (sid i pid ver:Nat)
 | win (t:Ty) (x y:List t.T) (own:Bool) (ver:Nat) (par:List (Nat×Nat))
 | sfx (sid s2 l sz:Nat)
 | hol (t:Ty) (xs:List t.T) (i:Nat)
 | hof (t:Ty) (xs:List t.T) (k:Nat)
 | pfx (oid k:Nat)
 | pfs (oid k sz:Nat)
 | lenB (oid n sz:Nat)
 | lnk (oid j:Nat)

structure St where
 T:Nat→AV
 H:Nat→Blk

def St.setT(s:St)(i:Nat)(v:AV):St:=⟨fun j=>bif Nat.beq j i then v else s.T j,s.H⟩
def St.setH(s:St)(i:Nat)(v:Blk):St:=⟨s.T,fun j=>bif Nat.beq j i then v else s.H j⟩

abbrev Loc:=Bool×Nat

inductive Pg(α:Type):Type 1 where
 | ret (a:α)
 | get (i:Nat) (k:AV→Pg α)
 | getB (id:Nat) (k:Blk→Pg α)
 | put (i:Nat) (v:AV) (k:Pg α)
 | putB (id:Nat) (b:Blk) (k:Pg α)
 | br (b:Bool) (x y:Pg α)
 | brT (i:Nat) (x y:Pg α)
 | bnd {β:Type} (o:Option β) (k:β→Pg α)
 | fail

def Pg.run{α:Type}:Pg α→St→Option (α×St)
 | .ret a,s=>some (a,s)
 | .get i k,s=>(k (s.T i)).run s
 | .getB i k,s=>(k (s.H i)).run s
 | .put i v k,s=>k.run (s.setT i v)
 | .putB i v k,s=>k.run (s.setH i v)
 | .br b x y,s=>bif b then x.run s else y.run s
 | .brT i x y,s=>match s.T i with
  | .one [.v (.bool b)] false=>bif b then x.run (s.setT i (.sc (.v (.bool true))))else y.run (s.setT i (.sc (.v (.bool false))))
  | _=>none
 | .bnd o k,s=>o.bind fun a=>(k a).run s
 | .fail,_=>none

def Pg.runK{α A:Type}:Pg α→St→(α→St→Option A)→Option A
 | .ret a,s,K=>K a s
 | .get i k,s,K=>(k (s.T i)).runK s K
 | .getB i k,s,K=>(k (s.H i)).runK s K
 | .put i v k,s,K=>k.runK (s.setT i v) K
 | .putB i v k,s,K=>k.runK (s.setH i v) K
 | .br b x y,s,K=>bif b then x.runK s K else y.runK s K
 | .brT i x y,s,K=>match s.T i with
  | .one [.v (.bool b)] false=>bif b then x.runK (s.setT i (.sc (.v (.bool true)))) K else y.runK (s.setT i (.sc (.v (.bool false)))) K
  | _=>none
 | .bnd o k,s,K=>o.bind fun a=>(k a).runK s K
 | .fail,_,_=>none

theorem Pg.runK_eq{α A:Type}:∀(p:Pg α) (s:St) (K:α→St→Option A),p.runK s K=(p.run s).bind fun q=>K q.1 q.2
 | .ret a,s,K=>rfl
 | .get i k,s,K=>Pg.runK_eq (k (s.T i)) s K
 | .getB i k,s,K=>Pg.runK_eq (k (s.H i)) s K
 | .put i v k,s,K=>Pg.runK_eq k _ K
 | .putB i v k,s,K=>Pg.runK_eq k _ K
 | .br b x y,s,K=>by
  cases b
  ·exact Pg.runK_eq y s K
  ·exact Pg.runK_eq x s K
 | .brT i x y,s,K=>by
  simp only [Pg.runK,Pg.run]
  split
  ·rename_i b _
   cases b
   ·exact Pg.runK_eq y _ K
   ·exact Pg.runK_eq x _ K
  ·rfl
 | .bnd o k,s,K=>by
  cases o with
  | none=>rfl
  | some a=>exact Pg.runK_eq (k a) s K
 | .fail,s,K=>rfl

def Pg.runF{α A:Type}:Pg α→St→List Loc→List Loc→(α→St→List Loc→List Loc→Option A)→Option A
 | .ret a,s,r,w,K=>K a s r w
 | .get i k,s,r,w,K=>(k (s.T i)).runF s ((false,i)::r) w K
 | .getB i k,s,r,w,K=>(k (s.H i)).runF s ((true,i)::r) w K
 | .put i v k,s,r,w,K=>k.runF (s.setT i v) r ((false,i)::w) K
 | .putB i v k,s,r,w,K=>k.runF (s.setH i v) r ((true,i)::w) K
 | .br b x y,s,r,w,K=>bif b then x.runF s r w K else y.runF s r w K
 | .brT i x y,s,r,w,K=>match s.T i with
  | .one [.v (.bool b)] false=>bif b then x.runF (s.setT i (.sc (.v (.bool true)))) ((false,i)::r) w K else y.runF (s.setT i (.sc (.v (.bool false)))) ((false,i)::r) w K
  | _=>none
 | .bnd o k,s,r,w,K=>o.bind fun a=>(k a).runF s r w K
 | .fail,_,_,_,_=>none

def Pg.bind{α β:Type}:Pg α→(α→Pg β)→Pg β
 | .ret a,f=>f a
 | .get i k,f => .get i fun v=>(k v).bind f
 | .getB i k,f => .getB i fun v=>(k v).bind f
 | .put i v k,f => .put i v (k.bind f)
 | .putB i v k,f => .putB i v (k.bind f)
 | .br b x y,f => .br b (x.bind f) (y.bind f)
 | .brT i x y,f => .brT i (x.bind f) (y.bind f)
 | .bnd o k,f => .bnd o fun a=>(k a).bind f
 | .fail,_ => .fail

inductive CK where
 | sc | ag | pr | pp

inductive BTy where
 | val (t:Ty) (agg:Bool)
 | ptr (t:Ty) (mu:Bool)
 | own (t:Ty)
 | eat (t:Ty)
 | fn (f:FuncId) (caps:List (Ty×CK))
 | lit (v:Value)
 | box (t:Ty) (own:Bool)
 | gob (t:Ty) (agg:Bool)
 | pp (t:Ty)
 | same (t:Nat)
 | vw (p:Nat)
 | hof (t:Ty)
 | al (t:Nat) (offs:List Nat)
 | fsel (t:Nat) (offs:List Nat)

abbrev CapT:List (Ty×CK)→Type
 | []=>Unit
 | c::l=>c.1.T×CapT l

abbrev BTy.T:BTy→Type
 | .val t _=>t.T
 | .ptr t _=>t.T
 | .own t=>List t.T
 | .eat t=>List t.T
 | .fn _ caps=>CapT caps
 | .lit _=>Unit
 | .box t _=>t.T
 | .gob t _=>t.T
 | .pp t=>t.T
 | .same _=>Unit
 | .vw _=>Nat
 | .hof t=>List t.T×Nat
 | .al _ _=>Unit
 | .fsel _ _=>Nat

abbrev PT:List BTy→Type
 | []=>Unit
 | b::l=>b.T×PT l

abbrev CT:List Ty→Type
 | []=>Unit
 | [t]=>t.T
 | t::t'::l=>t.T×CT (t'::l)

def outs:List BTy→List Ty
 | [] => []
 | .ptr t true::l=>t::outs l
 | .own t::l => .sl t::outs l
 | _::l=>outs l

structure Variant where
 ps:List BTy
 rs:List (Ty×Bool)
 fn:PT ps→Option (CT (rs.map (·.1)++outs ps))

structure Cfg where
 P:Program
 ty:TypeId→Option Ty
 ntmps:Nat
 G:FuncId→List FuncId→Option Variant
 win:Bool
 rt:List Nat
 share:List Nat

section
variable {α : Type}

def opndR(x:Operand)(k:AV→Pg α):Pg α :=
 match x with
 | .tmp t => .get t k
 | .const (.agg cs)=>bif cs.toList.all (·.oneCell')then k (.one (cs.toList.map .v) true)else .fail
 | .const (.tuple _) => .fail
 | .const v=>k (.sc (.v v))
 | .global g=>k (.sc (.v (.pointer (some ⟨g,0,none⟩))))
 | .func f=>k (.sc (.v (.func (.func f) #[] #[])))

def weak1:AV→AV
 | .one [.sn _ id] false => .sc (.sl id)
 | v=>v

def weak:AV→AV
 | .one [.sn _ id] false => .sc (.sl id)
 | .one [.sf id] false => .sc (.sl id)
 | v=>v

def opnd1(x:Operand)(k:AV→Pg α):Pg α:=opndR x fun v=>k (weak1 v)

def opnd(x:Operand)(k:AV→Pg α):Pg α:=opndR x fun v=>k (weak v)

def opnds:List Operand→(List AV→Pg α)→Pg α
 | [],k=>k []
 | x::l,k=>opnd x fun v=>opnds l fun vs=>k (v::vs)

def chkPar:List (Nat×Nat)→Pg α→Pg α
 | [],k=>k
 | (p,v)::l,k => .getB p fun
  | .row _ _ true v' _=>bif Nat.beq v v' then chkPar l k else .fail
  | _ => .fail

def castRow(t t':Ty)(x:List t.T):Option (List t'.T):=if h:t=t' then some (h ▸ x)else none
def castL(t t':Ty)(x:List t.T):Option (List t'.T):=if h:t=t' then some (h ▸ x)else match castF t t' with
 | some f=>some (x.map f)
 | none=>none

def rdT:(t:Ty)→List Sc→(t.T→List Sc→List Nat→Pg α)→Pg α
 | .unit,l,k=>k () l []
 | .int q,l,k=>match l with
  | .v (.int q' n)::l=>if q=q' then k n l []else .fail
  | _ => .fail
 | .bool,l,k=>match l with
  | .v (.bool b)::l=>k b l []
  | _ => .fail
 | .str,l,k=>match l with
  | .v (.string b)::l=>k b l []
  | _ => .fail
 | .pair a b,l,k=>rdT a l fun x l u=>rdT b l fun y l u'=>k (x,y) l (u++u')
 | .sl t,l,k=>match l with
  | .v (.slice none 0 0)::l=>k [] l []
  | .sl id::l => .getB id fun
   | .row t' x _ _ par=>match castL t' t x with
    | some x=>chkPar par (k x l (id::par.map (·.1)))
    | none => .fail
   | .win t' x _ _ _ par=>match castL t' t x with
    | some x=>chkPar par (k x l (id::par.map (·.1)))
    | none => .fail
   | _ => .fail
  | _ => .fail
 | .ks,l,k=>match l with
  | .k::l=>k () l []
  | _ => .fail
 | .rm t,l,k=>match l with
  | .v (.slice none 0 0)::l=>k ([],[]) l []
  | .sl id::l => .getB id fun
   | .row t' x _ _ par=>match castRow t' t x with
    | some x=>chkPar par (k (x,[]) l (id::par.map (·.1)))
    | none => .fail
   | .win t' x y _ _ par=>match castRow t' t x,castRow t' t y with
    | some x,some y=>chkPar par (k (x,y) l (id::par.map (·.1)))
    | _,_ => .fail
   | _ => .fail
  | _ => .fail

def rdO:(t:Ty)→List Sc→(t.T→List Sc→Pg α)→Pg α
 | .unit,l,k=>k () l
 | .int q,l,k=>match l with
  | .v (.int q' n)::l=>if q=q' then k n l else .fail
  | _ => .fail
 | .bool,l,k=>match l with
  | .v (.bool b)::l=>k b l
  | _ => .fail
 | .str,l,k=>match l with
  | .v (.string b)::l=>k b l
  | _ => .fail
 | .pair a b,l,k=>rdO a l fun x l=>rdO b l fun y l=>k (x,y) l
 | .sl t,l,k=>match l with
  | .v (.slice none 0 0)::l=>k [] l
  | .sl id::l => .getB id fun
   | .row t' x true _ []=>match castRow t' t x with
    | some x => .putB id .dead (k x l)
    | none => .fail
   | .win t' x _ true _ []=>match castRow t' t x with
    | some x => .putB id .dead (k x l)
    | none => .fail
   | _ => .fail
  | _ => .fail
 | .ks,l,k=>match l with
  | .k::l=>k () l
  | _ => .fail
 | .rm t,l,k=>match l with
  | .v (.slice none 0 0)::l=>k ([],[]) l
  | .sl id::l => .getB id fun
   | .row t' x true _ []=>match castRow t' t x with
    | some x => .putB id .dead (k (x,[]) l)
    | none => .fail
   | .win t' x y true _ []=>match castRow t' t x,castRow t' t y with
    | some x,some y => .putB id .dead (k (x,y) l)
    | _,_ => .fail
   | _ => .fail
  | _ => .fail

def rdG:(t:Ty)→List Sc→(t.T→List Sc→List Nat→Pg α)→Pg α
 | .unit,l,k=>k () l []
 | .int q,l,k=>match l with
  | .v (.int q' n)::l=>if q=q' then k n l []else .fail
  | _ => .fail
 | .bool,l,k=>match l with
  | .v (.bool b)::l=>k b l []
  | _ => .fail
 | .str,l,k=>match l with
  | .v (.string b)::l=>k b l []
  | _ => .fail
 | .pair a b,l,k=>rdG a l fun x l e=>rdG b l fun y l e'=>k (x,y) l (e++e')
 | .sl t,l,k=>match l with
  | .v (.slice none 0 0)::l=>k [] l []
  | .sl id::l => .getB id fun
   | .row t' x true _ []=>match castL t' t x with
    | some x => .putB id .dead (k x l [id])
    | none => .fail
   | .win t' x _ true _ []=>match castL t' t x with
    | some x => .putB id .dead (k x l [id])
    | none => .fail
   | _ => .fail
  | _ => .fail
 | .rm _,_,_ => .fail
 | .ks,l,k=>match l with
  | .k::l=>k () l []
  | _ => .fail

def rdS:(t:Ty)→List Sc→(t.T→List Sc→List (Nat×Nat)→Pg α)→Pg α
 | .unit,l,k=>k () l []
 | .int q,l,k=>match l with
  | .v (.int q' n)::l=>if q=q' then k n l []else .fail
  | _ => .fail
 | .bool,l,k=>match l with
  | .v (.bool b)::l=>k b l []
  | _ => .fail
 | .str,l,k=>match l with
  | .v (.string b)::l=>k b l []
  | _ => .fail
 | .pair a b,l,k=>rdS a l fun x l u=>rdS b l fun y l u'=>k (x,y) l (u++u')
 | .sl t,l,k=>match l with
  | .v (.slice none 0 0)::l=>k [] l []
  | .sl id::l => .getB id fun
   | .row t' x own ver par=>match castL t' t x with
    | some x=>chkPar par (k x l ((bif own then [(id,ver)]else [])++par))
    | none => .fail
   | .win t' x _ false _ par=>match castL t' t x with
    | some x=>chkPar par (k x l par)
    | none => .fail
   | _ => .fail
  | _ => .fail
 | .rm _,_,_ => .fail
 | .ks,l,k=>match l with
  | .k::l=>k () l []
  | _ => .fail

def unT(own:Bool)(par:List (Nat×Nat)):(t:Ty)→t.T→Nat→List Sc×List Blk
 | .unit,_,_=>([],[])
 | .int q,n,_=>([.v (.int q n)],[])
 | .bool,b,_=>([.v (.bool b)],[])
 | .str,s,_=>([.v (.string s)],[])
 | .pair a b,x,i =>
  ((unT own par a x.1 i).1++(unT own par b x.2 (i+(unT own par a x.1 i).2.length)).1,(unT own par a x.1 i).2++(unT own par b x.2 (i+(unT own par a x.1 i).2.length)).2)
 | .sl t,xs,i=>([.sl i],[.row t xs own 0 par])
 | .rm t,xs,i=>([.sl i],[.win t xs.1 xs.2 own 0 par])
 | .ks,_,_=>([.k],[])

def newB(id:Nat)(b:Blk)(k:Pg α):Pg α :=
 .getB id fun
 | .unborn => .putB id b k
 | _ => .fail

def newBs:Nat→List Blk→Pg α→Pg α
 | _,[],k=>k
 | i,b::l,k=>newB i b (newBs (i+1) l k)

def isAggB(P:Program)(t:TypeId):Bool :=
 match P.underlying t with
 | some (.struct _)=>true
 | some (.array _ _)=>true
 | _=>false

def disj(a b:List Nat):Bool:=a.all fun x=>b.all fun y => !Nat.beq x y
def nodupB:List Nat→Bool
 | []=>true
 | x::l=>(l.all fun y => !Nat.beq x y)&&nodupB l
end
end
end Go.Ev
namespace Go.Ev
open Go
noncomputable section

section
variable {α : Type}

def asPtr:AV→Option Nat
 | .one [.ptr id 0] false=>some id
 | _=>none
def asSl:AV→Option Nat
 | .one [.sl id] false=>some id
 | _=>none
def asNil:AV→Bool
 | .one [.v (.slice none 0 0)] false=>true
 | _=>false
def asFn:AV→Option (FuncId×Nat)
 | .one [.fn f id] false=>some (f,id)
 | _=>none
def asFn0:AV→Option FuncId
 | .one [.v (.func (.func f) x y)] false=>bif Nat.beq x.size 0&&Nat.beq y.size 0 then some f else none
 | _=>none

def rdV(t:Ty)(g:Bool)(v:AV)(k:t.T→List Nat→Pg α):Pg α :=
 match v with
 | .one l g'=>bif g==g' then rdT t l fun x r u=>match r with
  | []=>k x u
  | _ => .fail
  else .fail
 | _ => .fail

def rdP(t:Ty)(mu:Bool)(v:AV)(k:t.T→Nat→List Nat→Pg α):Pg α :=
 match asPtr v with
 | some id => .getB id fun
  | .cells l ro=>bif mu&&ro then .fail else rdT t l fun x r u=>match r with
   | []=>k x id u
   | _ => .fail
  | _ => .fail
 | none => .fail

def rdI(t:Ty)(v:AV)(k:t.T→List Nat→Pg α):Pg α :=
 match v with
 | .one [.elt id i 0 sz] false => .getB id fun
  | .row t' xs _ _ par=>bif Nat.beq t.size sz then(match castRow t' t xs with
    | some xs=>chkPar par (k (xs.getD i t.dflt) (id::par.map (·.1)))
    | none => .fail)else .fail
  | _ => .fail
 | v=>rdP t false v fun x id u=>k x (id::u)

def rdPP(t:Ty)(v:AV)(k:t.T→Nat→Nat→List Nat→Pg α):Pg α :=
 match asPtr v with
 | some i => .getB i fun
  | .cells l _=>match l with
   | [.ptr j 0]=>rdP t false (.sc (.ptr j 0)) fun x j' u=>k x i j' u
   | _ => .fail
  | _ => .fail
 | none => .fail

def rdCaps:(caps:List (Ty×CK))→List (List Sc×Bool)→(CapT caps→List Nat→Pg α)→Pg α
 | [],[],k=>k () []
 | [],_::_,_ => .fail
 | _::_,[],_ => .fail
 | (t,.sc)::cs,p::ls,k=>rdV t false (.one p.1 p.2) fun x u=>rdCaps cs ls fun y u'=>k (x,y) (u++u')
 | (t,.ag)::cs,p::ls,k=>rdV t true (.one p.1 p.2) fun x u=>rdCaps cs ls fun y u'=>k (x,y) (u++u')
 | (t,.pr)::cs,p::ls,k=>rdP t false (.one p.1 p.2) fun x id u=>rdCaps cs ls fun y u'=>k (x,y) (id::(u++u'))
 | (t,.pp)::cs,p::ls,k=>rdPP t (.one p.1 p.2) fun x i j u=>rdCaps cs ls fun y u'=>k (x,y) (i::j::(u++u'))

def rdRow(t:Ty)(id:Nat)(k:List t.T→Pg α):Pg α :=
 .getB id fun
  | .row t' x true _ []=>match castL t' t x with
   | some x=>k x
   | none => .fail
  | .win t' x _ true _ []=>match castL t' t x with
   | some x=>k x
   | none => .fail
  | _ => .fail

def rdArg:(b:BTy)→AV→(b.T→List Nat→List Nat→List Nat→Pg α)→Pg α
 | .val t g,v,k=>rdV t g v fun x u=>k x u [] []
 | .ptr t true,v,k=>rdP t true v fun x id u=>k x u [] [id]
 | .ptr t false,v,k=>rdI t v fun x u=>k x u [] []
 | .own t,v,k=>match asSl v with
  | some id=>rdRow t id fun x=>k x [] [] [id]
  | none => .fail
 | .eat t,v,k=>bif asNil v then k [] [] [] []else match asSl v with
  | some id=>rdRow t id fun x => .putB id .dead (k x [] [id] [])
  | none => .fail
 | .fn f caps,v,k=>match asFn v with
  | some (f',id)=>bif Nat.beq f f' then .getB id fun
   | .clo l=>rdCaps caps l fun x u=>k x u [] []
   | _ => .fail
   else .fail
  | none=>match asFn0 v with
   | some f'=>bif Nat.beq f f' then rdCaps caps [] fun x u=>k x u [] []else .fail
   | none => .fail
 | .lit l,v,k=>match l with
  | .slice none 0 0=>bif asNil v then k () [] [] []else .fail
  | _ => .fail
 | .box _ _,_,_ => .fail
 | .same _,_,_ => .fail
 | .vw _,_,_ => .fail
 | .hof _,_,_ => .fail
 | .al _ _,_,_ => .fail
 | .fsel _ _,_,_ => .fail
 | .pp t,v,k=>rdPP t v fun x i j u=>k x (i::j::u) [] []
 | .gob t g,v,k=>match v with
  | .one l g'=>bif g==g' then rdG t l fun x r e=>match r with
   | []=>k x [] e []
   | _ => .fail
   else .fail
  | _ => .fail

def rdArgs:(ps:List BTy)→List AV→(PT ps→List Nat→List Nat→List Nat→Pg α)→Pg α
 | [],[],k=>k () [] [] []
 | b::ps,v::vs,k=>rdArg b v fun x u o i=>rdArgs ps vs fun y u' o' i'=>k (x,y) (u++u') (o++o') (i++i')
 | _,_,_ => .fail

def csplit:(l1 l2:List Ty)→CT (l1++l2)→CT l1×CT l2
 | [],_,x=>((),x)
 | [_],[],x=>(x,())
 | [_],_::_,x=>(x.1,x.2)
 | _::t'::l1,l2,x=>((x.1,(csplit (t'::l1) l2 x.2).1),(csplit (t'::l1) l2 x.2).2)

def chead:(t:Ty)→(l:List Ty)→CT (t::l)→t.T×CT l
 | _,[],x=>(x,())
 | _,_::_,x=>(x.1,x.2)

def ownVer:Blk→Option Nat
 | .row _ _ true ver []=>some ver
 | .win _ _ _ true ver []=>some ver
 | _=>none

def putOuts:(ps:List BTy)→List Nat→CT (outs ps)→Pg α→Pg α
 | [],[],_,k=>k
 | .ptr t true::ps,id::is,y,k=>bif t.flat then .putB id (.cells (unT true [] t (chead t _ y).1 0).1 false) (putOuts ps is (chead t _ y).2 k)else .fail
 | .own t::ps,id::is,y,k => .getB id fun b=>match ownVer b with
  | some ver => .putB id (.row t (chead (.sl t) _ y).1 true (ver+1) []) (putOuts ps is (chead (.sl t) _ y).2 k)
  | none => .fail
 | .ptr _ false::ps,is,y,k=>putOuts ps is y k
 | .val _ _::ps,is,y,k=>putOuts ps is y k
 | .eat _::ps,is,y,k=>putOuts ps is y k
 | .fn _ _::ps,is,y,k=>putOuts ps is y k
 | .lit _::ps,is,y,k=>putOuts ps is y k
 | .box _ _::ps,is,y,k=>putOuts ps is y k
 | .gob _ _::ps,is,y,k=>putOuts ps is y k
 | .pp _::ps,is,y,k=>putOuts ps is y k
 | .same _::ps,is,y,k=>putOuts ps is y k
 | .vw _::ps,is,y,k=>putOuts ps is y k
 | .hof _::ps,is,y,k=>putOuts ps is y k
 | .al _ _::ps,is,y,k=>putOuts ps is y k
 | .fsel _ _::ps,is,y,k=>putOuts ps is y k
 | _,_,_,_ => .fail

def comps:(rs:List (Ty×Bool))→CT (rs.map (·.1))→Nat→List (List Sc×Bool)×List Blk
 | [],_,_=>([],[])
 | r::rs,x,i =>
  let y:=chead r.1 (rs.map (·.1)) x
  let p:=unT true [] r.1 y.1 i
  let q:=comps rs y.2 (i+p.2.length)
  ((p.1,r.2)::q.1,p.2++q.2)

def tupAV:List (List Sc×Bool)→AV
 | [c] => .one c.1 c.2
 | l => .tup l

def putD(C:Cfg)(dst:Option Tmp)(v:AV)(k:Pg α):Pg α :=
 match dst with
 | none=>k
 | some d=>bif Nat.ble C.ntmps d then .fail else .put d v k

def callV(C:Cfg)(v:Variant)(avs:List AV)(dst:Option Tmp)(nid:Nat)(k:Pg α):Pg α :=
 rdArgs v.ps avs fun x u e i=>bif disj u (i++e)&&nodupB (i++e)then
  .bnd (v.fn x) fun r =>
   putOuts v.ps i (csplit _ _ r).2 (newBs nid (comps v.rs (csplit _ _ r).1 nid).2 (putD C dst (tupAV (comps v.rs (csplit _ _ r).1 nid).1) k))
  else .fail

def fnIds:List AV→List FuncId
 | [] => []
 | .one [.fn f _] false::l=>f::fnIds l
 | .one [.v (.func (.func f) _ _)] false::l=>f::fnIds l
 | _::l=>fnIds l

def plainSc:Sc→Option Value
 | .v x=>some x
 | _=>none

def plainScs:List Sc→Option (List Value)
 | []=>some []
 | c::l=>match plainSc c,plainScs l with
  | some x,some xs=>some (x::xs)
  | _,_=>none

def plainAV:AV→Option Value
 | .one [.v x] false=>some x
 | .one l true=>match plainScs l with
  | some xs=>some (.agg xs.toArray)
  | none=>none
 | _=>none

def plainAVs:List AV→Option (List Value)
 | []=>some []
 | c::l=>match plainAV c,plainAVs l with
  | some x,some xs=>some (x::xs)
  | _,_=>none

def ofPlain:Value→AV
 | .agg cs => .one (cs.toList.map .v) true
 | v => .sc (.v v)

def look:List Operand→List Value→Operand→Value
 | .tmp t::xs,v::vs,.tmp u=>bif Nat.beq t u then v else look xs vs (.tmp u)
 | _::xs,_::vs,.tmp u=>look xs vs (.tmp u)
 | _,_,.const v=>v
 | _,_,.global g => .pointer (some ⟨g,0,none⟩)
 | _,_,.func f => .func (.func f) #[] #[]
 | _,_,.tmp _=>undef

def pureNext(P:Program):Nat→Sem Next→Option Value
 | _,.pure (.value v)=>some v
 | n+1,.program k=>pureNext P n (k P)
 | n+1,.mark _ k=>pureNext P n k
 | _,_=>none

def fieldOf(P:Program)(s:TypeId)(f:Nat):Option (Nat×TypeId×Nat) :=
 match P.underlying s with
 | some (.struct fs)=>match fs[f]? with
  | some fd=>match P.info? fd.type with
   | some i=>bif Nat.beq i.size 0 then none else some (fd.offset,fd.type,i.size)
   | none=>none
  | none=>none
 | _=>none

def arrayOf(P:Program)(t:TypeId):Option (Nat×TypeId×Nat) :=
 match P.underlying t with
 | some (.array n e)=>match P.info? e with
  | some i=>bif Nat.beq i.size 0 then none else some (n,e,i.size)
  | none=>none
 | _=>none

def sliceOf(P:Program)(t:TypeId):Option TypeId :=
 match P.underlying t with
 | some (.slice e)=>some e
 | _=>none

def sizeB(P:Program)(t:TypeId):Option Nat :=
 match P.info? t with
 | some i=>some i.size
 | none=>none

def elemSz(P:Program)(t:TypeId)(n:Nat):Bool :=
 match sliceOf P t with
 | some e=>match sizeB P e with
  | some sz=>Nat.beq sz n
  | none=>false
 | none=>false

def szIs(P:Program)(t:TypeId)(n:Nat):Bool :=
 match sizeB P t with
 | some sz=>Nat.beq n sz
 | none=>false

def partS(P:Program)(t:TypeId)(l:List Sc)(off:Nat):Option AV :=
 match sizeB P t with
 | none=>none
 | some sz=>bif (P.underlying t).isNone then none else bif isAggB P t then(bif Nat.ble (off+sz) l.length then some (.one ((l.drop off).take sz) true)else none)
  else match l[off]? with
   | some c=>some (.sc c)
   | none=>none

def setS(l:List Sc)(off:Nat):List Sc→List Sc
 | []=>l
 | c::cs=>setS (l.set off c) (off+1) cs

def notTop:List Sc→Bool
 | [.top]=>false
 | [.und]=>false
 | _=>true

def fillS(place:Nat→Option (Nat×Nat))(l:List Sc):List (Nat×AV)→Option (List Sc)
 | []=>some l
 | (i,.one v agg)::rest=>match place i with
  | none=>none
  | some (off,size)=>bif !Nat.beq v.length size || !Nat.ble (off+v.length) l.length||(!agg && !notTop v)then none
   else fillS place (setS l off v) rest
 | _=>none

def zeroS(P:Program)(t:TypeId):Option (List Sc) :=
 match P.info? t with
 | some i=>match i.zero with
  | some z=>bif z.cells.toList.all (·.oneCell')then some (z.cells.toList.map .v)else none
  | none=>none
 | none=>none

def among(n:Nat)(i:Int)(k:Nat→Pg α):Nat→Pg α
 | 0 => .fail
 | m+1 => .br (i==((n - (m+1):Nat):Int)) (k (n - (m+1))) (among n i k m)

def lim:Nat:=274877906944

def rdPartsS(t:Ty)(agg:Bool):Nat→List (Nat×AV)→(List t.T→List (Nat×Nat)→Pg α)→Pg α
 | _,[],k=>k [] []
 | n,(i,.one l agg')::rest,k=>bif Nat.beq n i&&(agg==agg')then rdS t l fun x r p=>match r with
   | []=>rdPartsS t agg (n+1) rest fun xs p'=>k (x::xs) (p++p')
   | _ => .fail
  else .fail
 | _,_,_ => .fail

def rdParts(t:Ty)(agg:Bool):Nat→List (Nat×AV)→(List t.T→Pg α)→Pg α
 | _,[],k=>k []
 | n,(i,.one l agg')::rest,k=>bif Nat.beq n i&&(agg==agg')then rdO t l fun x r=>match r with
   | []=>rdParts t agg (n+1) rest fun xs=>k (x::xs)
   | _ => .fail
  else .fail
 | _,_,_ => .fail

end
end
end Go.Ev
namespace Go.Ev
open Go
noncomputable section

section
variable {α : Type}

def plainPg(C:Cfg)(o:Oper)(k:AV→Pg α):Pg α :=
 opnds o.op.operands.toList fun vs=>match plainAVs vs with
  | none => .fail
  | some xs=>match pureNext C.P 60 (execOp (look o.op.operands.toList xs) o)with
   | some (.tuple _) => .fail
   | some (.agg cs)=>bif cs.toList.all (·.oneCell')then k (.one (cs.toList.map .v) true)else .fail
   | some v=>k (.sc (.v v))
   | none => .fail

def intOp(op:BinOp)(q:IntKind)(a:Int)(q':IntKind)(b:Int)(put:AV→Pg α):Pg α :=
 match op with
 | .shl => .br (decide (b<0)) .fail (put (.sc (.v (.int q (q.wrap (a*2 ^ min b.toNat q.bits))))))
 | .shr => .br (decide (b<0)) .fail (put (.sc (.v (.int q (a.fdiv (2 ^ min b.toNat q.bits))))))
 | op=>if q=q' then match op with
  | .add=>put (.sc (.v (.int q (q.wrap (a+b)))))
  | .sub=>put (.sc (.v (.int q (q.wrap (a - b)))))
  | .mul=>put (.sc (.v (.int q (q.wrap (a*b)))))
  | .quo => .br (b==0) .fail (put (.sc (.v (.int q (q.wrap (a.tdiv b))))))
  | .rem => .br (b==0) .fail (put (.sc (.v (.int q (a.tmod b)))))
  | .and=>put (.sc (.v (.int q (q.wrap (BitVec.ofInt q.bits a &&& BitVec.ofInt q.bits b).toNat))))
  | .or=>put (.sc (.v (.int q (q.wrap (BitVec.ofInt q.bits a ||| BitVec.ofInt q.bits b).toNat))))
  | .xor=>put (.sc (.v (.int q (q.wrap (BitVec.ofInt q.bits a ^^^ BitVec.ofInt q.bits b).toNat))))
  | .andNot=>put (.sc (.v (.int q (q.wrap (BitVec.ofInt q.bits a &&& ~~~ BitVec.ofInt q.bits b).toNat))))
  | .eql=>put (.sc (.v (.bool (a==b))))
  | .neq=>put (.sc (.v (.bool (a != b))))
  | .lss=>put (.sc (.v (.bool (decide (a<b)))))
  | .leq=>put (.sc (.v (.bool (decide (a≤b)))))
  | .gtr=>put (.sc (.v (.bool (decide (a>b)))))
  | .geq=>put (.sc (.v (.bool (decide (a≥b)))))
  | _ => .fail
  else .fail

def noTops:List Sc→Bool
 | []=>true
 | .top::_=>false
 | .und::_=>false
 | _::l=>noTops l

def placesOf(P:Program)(t:TypeId):Option (Nat→Option (Nat×Nat)) :=
 match P.underlying t with
 | some (.struct fs)=>match fs.toList.mapM (fun f=>(P.info? f.type).map fun i=>(f.offset,i.size))with
  | some pl=>some fun i=>pl.toArray[i]?
  | none=>none
 | some (.array _ e)=>match P.info? e with
  | some inf=>some fun i=>some (i*inf.size,inf.size)
  | none=>none
 | _=>none

def zipParts:List (Nat×Operand)→List AV→List (Nat×AV)
 | (i,_)::ps,v::vs=>(i,v)::zipParts ps vs
 | _,_ => []

def elemT(C:Cfg)(t:TypeId):Option (TypeId×Ty) :=
 match sliceOf C.P t with
 | some e=>match C.ty e with
  | some ty=>some (e,ty)
  | none=>none
 | none=>none

def bytesOk(P:Program)(e:TypeId):Bool :=
 match P.info? e with
 | some i=>Nat.ble i.bytes 128&&Nat.ble 1 i.bytes
 | none=>false

def appendSrc0(ty:Ty)(l:List Sc)(k:List ty.T→List Nat→Pg α):Pg α :=
 rdO (.sl ty) l fun ys r=>match r with
   | []=>k ys []
   | _ => .fail

def retgt{α:Type}(id nid:Nat):List Nat→Pg α→Pg α
 | [],k=>k
 | t::l,k => .get t fun
  | .one [.sl id'] false=>bif Nat.beq id id' then .put t (.sc (.sl nid)) (retgt id nid l k)else retgt id nid l k
  | _=>retgt id nid l k

def appendSrc(ty:Ty)(vx:AV)(k:List ty.T→List Nat→Pg α):Pg α :=
 match vx with
 | .one l false=>bif ty.flat then rdT (.sl ty) l fun ys r u=>match r with
   | []=>k ys u
   | _ => .fail
  else match l with
   | [.sl id] => .getB id fun
    | .pfx oid kk => .getB oid fun
     | .row t' xs true _ []=>match castRow t' ty xs with
      | some xs => .putB oid .dead (newB (oid+6) (.hof ty xs kk) (newB (oid+7) (.lnk oid (oid+6)) (k (xs.take kk) [])))
      | none => .fail
     | _ => .fail
    | .pfs oid kk sz=>bif Nat.beq sz ty.size then .getB (oid+7) fun
     | .lnk oid' j=>bif Nat.beq oid oid' then .getB j fun
       | .hof t' xs k'=>match castRow t' ty xs with
        | some xs => .br (Nat.beq kk k') (.putB j .dead (k (xs.drop kk) [])) .fail
        | none => .fail
       | _ => .fail
      else .fail
     | _ => .fail
     else .fail
    | _=>appendSrc0 ty l k
   | _=>appendSrc0 ty l k
 | _ => .fail

def isIntT(P:Program)(t:TypeId):Bool :=
 match P.underlying t with
 | some (.int _)=>true
 | _=>false

def appendPg(C:Cfg)(ts tx:TypeId)(s x:Operand)(nid:Nat)(put:AV→Pg α):Pg α :=
 match elemT C ts,sliceOf C.P tx with
 | some (e,ty),some _=>bif bytesOk C.P e&&Nat.ble 1 ty.size then
   opnd1 s fun vs=>opnd x fun vx =>
    appendSrc ty vx fun ys u=>match vs with
     | .one [.sf id] false=>bif ty.flat then .getB id fun
      | .row t' xs _ _ par=>match castRow t' ty xs with
       | some xs=>chkPar par (.br (decide (0<ys.length)) (.br (decide (xs.length+ys.length<lim)) (newB nid (.row ty (xs++ys) true 0 []) (put (.sc (.sl nid)))) .fail) .fail)
       | none => .fail
      | _ => .fail
      else .fail
     | .one [.v (.slice none 0 0)] false => .br (decide (ys.length<lim)) (newB nid (.row ty ys true 0 []) (put (.sc (.sl nid)))) .fail
     | .one [.sl id] false => .getB id fun
      | .row t' xs true _ []=>match castRow t' ty xs with
       | some xs => .br (decide (xs.length+ys.length<lim)) (.putB id .dead (newB nid (.row ty (xs++ys) true 0 []) (put (.sc (.sl nid))))) .fail
       | none => .fail
      | .win t' xs _ true _ []=>match castRow t' ty xs with
       | some xs => .br (decide (xs.length+ys.length<lim)) (.putB id .dead (newB nid (.row ty (xs++ys) true 0 []) (put (.sc (.sl nid))))) .fail
       | none => .fail
      | _ => .fail
     | _ => .fail
  else .fail
 | some (e,ty),none=>bif isIntT C.P tx&&bytesOk C.P e&&Nat.ble 1 ty.size then
   opnd s fun vs=>bif asNil vs then opnd x fun
    | .one [.v (.int _ n)] false => .br (decide (0≤n)) (.br (decide (n.toNat<lim)) (newB nid (.row ty (List.replicate n.toNat ty.dflt) true 0 []) (put (.sc (.sl nid)))) .fail) .fail
    | _ => .fail
   else .fail
  else .fail
 | none,_ => .fail

def optInt(x:Option Operand)(d:Int)(k:Int→Pg α):Pg α :=
 match x with
 | none=>k d
 | some o=>opnd o fun
  | .one [.v (.int _ n)] false=>k n
  | _ => .fail

def brIf(c:Bool)(b:Bool)(k:Pg α):Pg α:=bif c then .br b k .fail else k

def sameOp:Operand→Operand→Bool
 | .tmp a,.tmp b=>Nat.beq a b
 | .const (.int _ a),.const (.int _ b)=>a==b
 | _,_=>false

def fullOp:Option Operand→Option Operand→Option Operand→Bool
 | none,some h,some m=>sameOp h m
 | _,_,_=>false

def isSl:List AV→Bool
 | .one [.sl _] false::_=>true
 | _=>false

def allOnes:List AV→Option (List (List Sc×Bool))
 | []=>some []
 | .one l g::vs=>match allOnes vs with
  | some r=>some ((l,g)::r)
  | none=>none
 | _=>none
end

structure Loan where
 t:Ty
 xs:List (List t.T)
 sid:Nat
 i:Nat
 pid:Nat
 ver:Nat

def ownFirst:List BTy→Bool
 | .own _::_=>true
 | _=>false

def slFirst:List AV→Option Nat
 | .one [.sl id] false::_=>some id
 | _=>none

def lend{α:Type}(sid:Nat)(k:Option Loan→Pg α):Pg α :=
 .getB sid fun
  | .row _ _ false sv _ => .getB (sid+4) fun
   | .idx t xs sid' i pid ver=>bif Nat.beq sid sid' && !Nat.beq sid pid then .getB pid fun
     | .row _ _ true ver' []=>bif Nat.beq ver ver' then .putB pid .dead (.putB sid .dead (.putB sid (.row t (xs.getD i []) true (sv+1) []) (k (some ⟨t,xs,sid,i,pid,ver⟩))))else .fail
     | _ => .fail
    else .fail
   | _=>k none
  | _=>k none

def borrow{α:Type}(ps:List BTy)(avs:List AV)(k:Option Loan→Pg α):Pg α :=
 bif ownFirst ps then match slFirst avs with
  | some sid=>lend sid k
  | none=>k none
 else k none

def giveBack{α:Type}(l:Option Loan)(k:Pg α):Pg α :=
 match l with
 | none=>k
 | some l => .getB l.sid fun
  | .row t' y true _ []=>match castRow t' l.t y with
   | some y => .getB l.pid fun
    | .dead => .putB l.sid .dead (.putB l.pid (.row (.sl l.t) (l.xs.set l.i y) true (l.ver+1) []) k)
    | _ => .fail
   | none => .fail
  | _ => .fail

def idxB{α:Type}:(own:Bool)→(ty:Ty)→List ty.T→(nid i id ver:Nat)→(par:List (Nat×Nat))→Pg α→Pg α
 | true,.sl t,xs,nid,i,id,ver,[],k=>newB (nid+4) (.idx t xs nid i id ver) k
 | _,_,_,_,_,_,_,_,k=>k

def isStr(P:Program)(t:TypeId):Bool:=match P.underlying t with
 | some .string=>true
 | _=>false

def takeB{α:Type}(own:Bool)(ty:Ty)(xs:List ty.T)(nid i id:Nat)(par:List (Nat×Nat))(rt:List Nat)(k:Pg α):Pg α :=
 match own,par with
 | true,[] => .putB id .dead (newB nid (.hol ty xs i) (newBs (nid+1) (unT true [] ty (xs.getD i ty.dflt) (nid+1)).2 (retgt id nid rt k)))
 | _,_ => .fail

def takeH{α:Type}(ty:Ty)(xs:List ty.T)(nid i kk id:Nat)(rt:List Nat)(k:Pg α):Pg α :=
 .br (Nat.beq i kk) (.putB id .dead (newB nid (.hof ty xs (kk+1)) (newBs (nid+1) (unT true [] ty (xs.getD i ty.dflt) (nid+1)).2 (retgt id nid rt k)))) .fail

def sufPg{α:Type}(C:Cfg)(nid:Nat)(sh:Bool)(t:TypeId)(id:Nat)(lo:Option Operand)(b:Blk)(put:AV→Pg α):Pg α :=
 match b with
 | .row ty xs true _ []=>bif elemSz C.P t ty.size then optInt lo 0 fun l=>bif sh then .br (decide (0≤l)) (.br (decide (l≤(xs.length:Int))) (.putB id .dead (newB nid (.row ty (xs.drop l.toNat) true 0 []) (put (.sc (.sl nid))))) .fail) .fail else .br (decide (0≤l)) (.br (decide (l<(xs.length:Int))) (put (.sc (.suf id l.toNat ty.size))) .fail) .fail
  else .fail
 | _ => .fail

def winPg{α:Type}(C:Cfg)(nid:Nat)(t:TypeId)(id:Nat)(hi:Option Operand)(b:Blk)(put:AV→Pg α):Pg α :=
 match b with
 | .row ty xs true _ []=>bif elemSz C.P t ty.size then optInt hi xs.length fun h => .br (decide (0≤h)) (.br (decide (h≤(xs.length:Int)))
   (.putB id .dead (newB nid (.win ty (xs.take h.toNat) (xs.drop h.toNat) true 0 []) (put (.sc (.sl nid))))) .fail) .fail
  else .fail
 | .win ty xs ys true _ []=>bif elemSz C.P t ty.size then optInt hi xs.length fun h => .br (decide (0≤h)) (.br (decide (h≤((xs++ys).length:Int)))
   (.putB id .dead (newB nid (.win ty ((xs++ys).take h.toNat) ((xs++ys).drop h.toNat) true 0 []) (put (.sc (.sl nid))))) .fail) .fail
  else .fail
 | _ => .fail

def hofSl{α:Type}(C:Cfg)(nid:Nat)(t:TypeId)(id:Nat)(lo hi mx:Option Operand)(b:Blk)(put:AV→Pg α):Pg α :=
 match b with
 | .row ty xs true _ []=>bif elemSz C.P t ty.size&&(lo.isNone&&mx.isNone)then optInt hi xs.length fun h => .br (decide (0≤h)) (.br (decide (h≤(xs.length:Int)))
   (newB nid (.pfx id h.toNat) (put (.sc (.sl nid)))) .fail) .fail
  else .fail
 | _ => .fail

def hofSuf{α:Type}(C:Cfg)(nid:Nat)(t:TypeId)(id:Nat)(lo hi mx:Option Operand)(put:AV→Pg α):Pg α :=
 .getB (id+5) fun
  | .lenB id' n sz=>bif Nat.beq id id'&&(elemSz C.P t sz&&(hi.isNone&&mx.isNone))then optInt lo 0 fun l => .br (decide (0≤l)) (.br (decide (l≤(n:Int)))
    (newB nid (.pfs id l.toNat sz) (put (.sc (.sl nid)))) .fail) .fail
   else .fail
  | _ => .fail

def flatStore{α:Type}(nid id:Nat)(ty:Ty)(xs:List ty.T)(ver i j:Nat)(v:List Sc)(k:Pg α):Pg α :=
 bif Nat.ble (j+v.length) ty.size then rdT ty (setS (unT false [] ty (xs.getD i ty.dflt) nid).1 j v) fun x' r _=>match r with
  | [] => .putB id (.row ty (xs.set i x') true (ver+1) []) k
  | _ => .fail
 else .fail

def refresh{α:Type}(nid:Nat)(rt:List Nat)(l:Loan)(k:Pg α):Pg α :=
 .getB l.pid fun
  | .row (.sl t) xs true ver []=>newBs nid (unT false [(l.pid,ver)] (.sl t) (xs.getD l.i []) nid).2 (newB (nid+4) (.idx t xs nid l.i l.pid ver) (retgt l.sid nid rt k))
  | _ => .fail

def sfxStore{α:Type}(nid id ver i:Nat)(v:List Sc)(k old:Pg α):Pg α :=
 match v with
 | [.sl s2] => .getB (s2+4) fun
  | .sfx sid s2' l sz => .getB (sid+4) fun
   | .idx t xs sid' i' pid ver'=>bif Nat.beq s2 s2'&&Nat.beq sid sid'&&Nat.beq id pid&&Nat.beq i i'&&Nat.beq ver ver'&&Nat.beq sz t.size then
     .putB id .dead (newB nid (.row (.sl t) (xs.set i ((xs.getD i []).drop l)) true 0 []) k)else .fail
   | _ => .fail
  | _=>old
 | _=>old

def rdN{α:Type}(ty:Ty):Nat→List Sc→(List ty.T→List Sc→Pg α)→Pg α
 | 0,l,k=>k [] l
 | n+1,l,k=>rdT ty l fun x r _=>rdN ty n r fun xs r'=>k (x::xs) r'

def shareB(l:List Nat):Option Tmp→Bool
 | some t=>l.any fun i=>Nat.beq i t
 | none=>false

def hofB(l:List Nat):Option Tmp→Bool
 | some t=>l.any fun i=>Nat.beq i (t+100000)
 | none=>false
def alB(l:List Nat):Option Tmp→Bool
 | some t=>l.any fun i=>Nat.beq i (t+200000)
 | none=>false
def namesOf:Nat→List (Nat×AV)→Option (List Sc)
 | _,[]=>some []
 | j,(i,.one [.sl id] false)::l=>bif Nat.beq i j then(namesOf (j+1) l).map (.sl id :: ·)else none
 | _,_=>none

def eqFs(P:Program)(l l':List Sc):List Field→Option Bool
 | []=>some true
 | f::fs=>bif f.name == "_" then none else match P.underlying f.type with
  | some (.int _)=>match partS P f.type l f.offset,partS P f.type l' f.offset with
   | some (.one [.v (.int q a)] false),some (.one [.v (.int q' b)] false)=>if q=q' then match eqFs P l l' fs with
    | some r=>some ((a==b)&&r)
    | none=>none
    else none
   | _,_=>none
  | some .bool=>match partS P f.type l f.offset,partS P f.type l' f.offset with
   | some (.one [.v (.bool a)] false),some (.one [.v (.bool b)] false)=>match eqFs P l l' fs with
    | some r=>some ((a==b)&&r)
    | none=>none
   | _,_=>none
  | _=>none

def eqGs(P:Program)(l l':List Sc):List Field→Option Bool
 | []=>some true
 | f::fs=>match P.underlying f.type with
  | some (.struct gs)=>bif f.name == "_" || P.stoodInHeld f.type then none else match partS P f.type l f.offset,partS P f.type l' f.offset with
   | some (.one m true),some (.one m' true)=>match eqFs P m m' gs.toList,eqGs P l l' fs with
    | some q,some r=>some (q&&r)
    | _,_=>none
   | _,_=>none
  | some (.int _)=>bif f.name == "_" then none else match partS P f.type l f.offset,partS P f.type l' f.offset with
   | some (.one [.v (.int q a)] false),some (.one [.v (.int q' b)] false)=>if q=q' then match eqGs P l l' fs with
    | some r=>some ((a==b)&&r)
    | none=>none
    else none
   | _,_=>none
  | some .bool=>bif f.name == "_" then none else match partS P f.type l f.offset,partS P f.type l' f.offset with
   | some (.one [.v (.bool a)] false),some (.one [.v (.bool b)] false)=>match eqGs P l l' fs with
    | some r=>some ((a==b)&&r)
    | none=>none
   | _,_=>none
  | _=>none

def eqAs(P:Program)(e:TypeId)(l l':List Sc):List Nat→Option Bool
 | []=>some true
 | i::is=>match partS P e l (i*P.cellsOf e),partS P e l' (i*P.cellsOf e)with
  | some (.one [.v (.int q a)] false),some (.one [.v (.int q' b)] false)=>if q=q' then match eqAs P e l l' is with
   | some r=>some ((a==b)&&r)
   | none=>none
   else none
  | _,_=>none

def eqStruct(P:Program)(t:TypeId)(l l':List Sc):Option Bool :=
 match P.underlying t with
 | some (.struct fs)=>bif P.stoodInHeld t||P.eqGuardType P.depth t then none else match eqFs P l l' fs.toList with
  | some r=>some r
  | none=>eqGs P l l' fs.toList
 | some (.array n e)=>bif P.eqGuardType P.depth t||Nat.ble 17 n then none else match P.underlying e,P.info? e with
  | some (.int _),some _=>eqAs P e l l' (List.range n)
  | _,_=>none
 | _=>none

def byteStr(P:Program)(src dst:TypeId):Bool:=match sliceOf P src with
 | some e=>(match P.underlying e with
  | some (.int .u8)=>true
  | _=>false)&&isStr P dst
 | none=>false

def isNilC:AV→Bool
 | .one [.v (.slice none 0 0)] false=>true
 | _=>false

def opPg[KSl](C:Cfg)(nid:Nat)(o:Oper):Pg Unit :=
 let put (v:AV):Pg Unit:=putD C o.dst v (.ret ())
 match o.op with
 | .move x=>opndR x put
 | .assign x=>opnd1 x put
 | .pick c a b=>match c with
  | .tmp t => .brT t (opnd a put) (opnd b put)
  | _ => .fail
 | .alloc e=>match zeroS C.P e with
  | some l=>newB nid (.cells l false) (put (.sc (.ptr nid 0)))
  | none => .fail
 | .box _ x=>opnd x fun
  | .one l g=>bif g||notTop l then newB nid (.cells l false) (put (.sc (.ptr nid 0)))else .fail
  | _ => .fail
 | .build t ps=>opnds (ps.toList.map (·.2)) fun vs=>match zeroS C.P t with
  | some z=>match placesOf C.P t with
   | some pl=>match fillS pl z (zipParts ps.toList vs)with
    | some l=>put (.one l true)
    | none => .fail
   | none => .fail
  | none => .fail
 | .buildSlice t n ps=>match elemT C t with
  | some (e,ty)=>bif Nat.beq ps.size n&&Nat.ble (n*ty.size) 16777216&&Nat.ble 1 ty.size then
    opnds (ps.toList.map (·.2)) fun vs=>bif alB C.share o.dst then(bif Nat.ble 1 n&&Nat.beq ty.size 1 then(match namesOf 0 (zipParts ps.toList vs)with
     | some l=>newB nid (.cells l true) (put (.sc (.slc nid l.length)))
     | none => .fail)else .fail)else bif shareB C.share o.dst && !ty.flat then rdPartsS ty (isAggB C.P e) 0 (zipParts ps.toList vs) fun xs p=>newB nid (.row ty xs false 0 p) (put (.sc (.sl nid)))
    else rdParts ty (isAggB C.P e) 0 (zipParts ps.toList vs) fun xs=>newB nid (.row ty xs true 0 []) (put (.sc (.sl nid)))
   else .fail
  | none => .fail
 | .load t a=>opnd a fun
  | .one [.ke i] false=>match partS C.P t [.v (.int .u8 (KSl.xs.getD i 0))] 0 with
   | some v=>put v
   | none => .fail
  | .one [.ptr id off] false => .getB id fun
   | .cells l _=>match partS C.P t l off with
    | some v=>put v
    | none => .fail
   | _ => .fail
  | .one [.elt id i j sz] false => .getB id fun
   | .hof ty xs kk=>bif Nat.beq ty.size sz&&hofB C.share o.dst then(match partS C.P t (unT true [] ty (xs.getD i ty.dflt) (nid+1)).1 j with
     | some v=>takeH ty xs nid i kk id C.rt (put v)
     | none => .fail)else .fail
   | .row ty xs own ver par=>bif Nat.beq ty.size sz then chkPar par (bif hofB C.share o.dst then
     (match partS C.P t (unT true [] ty (xs.getD i ty.dflt) (nid+1)).1 j with
     | some v=>(bif own&&par.isEmpty then takeH ty xs nid i 0 id C.rt (put v)else .fail)
     | none => .fail)else bif shareB C.share o.dst then
     (match partS C.P t (unT true [] ty (xs.getD i ty.dflt) (nid+1)).1 j with
     | some v=>takeB own ty xs nid i id par C.rt (put v)
     | none => .fail)else
     let u:=unT false ((bif own then [(id,ver)]else [])++par) ty (xs.getD i ty.dflt) nid
     match partS C.P t u.1 j with
     | some v=>newBs nid u.2 (idxB own ty xs nid i id ver par (put v))
     | none => .fail)else .fail
   | .win ty xs _ false _ par=>bif Nat.beq ty.size sz then chkPar par (
     let u:=unT false par ty (xs.getD i ty.dflt) nid
     match partS C.P t u.1 j with
     | some v=>newBs nid u.2 (put v)
     | none => .fail)else .fail
   | _ => .fail
  | _ => .fail
 | .store t a x=>opnd a fun va=>opnd x fun
  | .one v _=>bif noTops v&&szIs C.P t v.length then match va with
   | .one [.ptr id off] false => .getB id fun
    | .cells l false=>bif Nat.ble (off+v.length) l.length then .putB id (.cells (setS l off v) false) (put (.sc .top))else .fail
    | _ => .fail
   | .one [.elt id i j sz] false => .getB id fun
    | .row ty xs true ver []=>bif Nat.beq ty.size sz then
      (bif ty.flat then flatStore nid id ty xs ver i j v (put (.sc .top))
      else(bif Nat.beq j 0&&Nat.beq v.length ty.size then sfxStore nid id ver i v (retgt id nid C.rt (put (.sc .top))) (.putB id .dead (rdO ty v fun x' r=>match r with
        | []=>newB nid (.row ty (xs.set i x') true 0 []) (retgt id nid C.rt (put (.sc .top)))
        | _ => .fail))
       else .fail))
     else .fail
    | .hol ty xs i0=>bif Nat.beq ty.size sz&&(Nat.beq j 0&&Nat.beq v.length ty.size)then
      .br (Nat.beq i i0) (.putB id .dead (rdO ty v fun x' r=>match r with
        | []=>newB nid (.row ty (xs.set i x') true 0 []) (retgt id nid C.rt (put (.sc .top)))
        | _ => .fail)) .fail
     else .fail
    | .row _ _ false _ _=>lend id fun
     | some l => .getB id fun
      | .row ty xs true ver []=>bif Nat.beq ty.size sz&&ty.flat then flatStore nid id ty xs ver i j v (giveBack (some l) (refresh nid C.rt l (put (.sc .top))))else .fail
      | _ => .fail
     | none => .fail
    | _ => .fail
   | _ => .fail
   else .fail
  | _ => .fail
 | .nilCheck x=>opnd x fun v=>match v with
  | .one [.ptr _ _] false=>put v
  | .one [.elt _ _ _ _] false=>put v
  | .one [.fn _ _] false=>put v
  | .one [.v (.func (.func _) _ _)] false=>put v
  | _ => .fail
 | .fieldAddr s x f=>match fieldOf C.P s f with
  | some (off,_,_)=>opnd x fun
   | .one [.ptr id o] false=>put (.sc (.ptr id (o+off)))
   | .one [.elt id i j sz] false=>put (.sc (.elt id i (j+off) sz))
   | _ => .fail
  | none => .fail
 | .field s x f=>match fieldOf C.P s f with
  | some (off,t,_)=>opnd x fun
   | .one l true=>match partS C.P t l off with
    | some v=>put v
    | none => .fail
   | _ => .fail
  | none => .fail
 | .indexAddr t x i=>opnd x fun
  | .one [.k] false=>opnd i fun
   | .one [.v (.int _ n)] false=>bif elemSz C.P t 1 then .br (decide (0≤n)) (.br (decide (n<(KSl.xs.length:Int))) (put (.sc (.ke n.toNat))) .fail) .fail else .fail
   | _ => .fail
  | .one [.sl id] false=>opnd i fun
   | .one [.v (.int _ n)] false => .getB id fun
    | .row ty xs _ _ par=>bif elemSz C.P t ty.size then
      chkPar par (.br (decide (0≤n)) (.br (decide (n<(xs.length:Int))) (put (.sc (.elt id n.toNat 0 ty.size))) .fail) .fail)
     else .fail
    | .win ty xs _ _ _ par=>bif elemSz C.P t ty.size then
      chkPar par (.br (decide (0≤n)) (.br (decide (n<(xs.length:Int))) (put (.sc (.elt id n.toNat 0 ty.size))) .fail) .fail)
     else .fail
    | .hol ty xs _=>bif elemSz C.P t ty.size then
      .br (decide (0≤n)) (.br (decide (n<(xs.length:Int))) (put (.sc (.elt id n.toNat 0 ty.size))) .fail) .fail
     else .fail
    | .hof ty xs _=>bif elemSz C.P t ty.size then
      .br (decide (0≤n)) (.br (decide (n<(xs.length:Int))) (put (.sc (.elt id n.toNat 0 ty.size))) .fail) .fail
     else .fail
    | _ => .fail
   | _ => .fail
  | .one [.ptr id off] false=>match arrayOf C.P t with
   | some (m,_,sz)=>opnd i fun
    | .one [.v (.int _ n)] false=>among m n (fun j=>put (.sc (.ptr id (off+j*sz)))) m
    | _ => .fail
   | none => .fail
  | .one [.slc id m] false=>bif elemSz C.P t 1 then opnd i fun
    | .one [.v (.int _ n)] false=>among m n (fun j=>put (.sc (.ptr id j))) m
    | _ => .fail
   else .fail
  | _ => .fail
 | .index t x i=>opnd x fun
  | .one [.v (.string s)] false=>bif isStr C.P t then opnd i fun
    | .one [.v (.int _ n)] false => .br (decide (0≤n)) (.br (decide (n<(s.size:Int))) (put (.sc (.v (.int .u8 ((s.data.getD n.toNat 0).toNat:Int))))) .fail) .fail
    | _ => .fail
   else .fail
  | .one l true=>match arrayOf C.P t with
   | some (m,e,sz)=>opnd i fun
    | .one [.v (.int _ n)] false=>among m n (fun j=>match partS C.P e l (j*sz)with
      | some v=>put v
      | none => .fail) m
    | _ => .fail
   | none => .fail
  | _ => .fail
 | .slice t x lo hi mx=>opnd x fun
  | .one [.sl id] false=>bif hofB C.share o.dst&&lo.isSome then hofSuf C nid t id lo hi mx put else .getB id fun b=>bif hofB C.share o.dst then hofSl C nid t id lo hi mx b put else bif C.win&&(ownVer b).isSome&&lo.isNone&&mx.isNone then winPg C nid t id hi b put else bif C.win&&(ownVer b).isSome&&lo.isSome&&hi.isNone&&mx.isNone then sufPg C nid (shareB C.share o.dst) t id lo b put else match b with
   | .row ty xs own ver par=>bif elemSz C.P t ty.size&&(hi.isSome||mx.isNone)then
     chkPar par (optInt lo 0 fun l=>optInt hi xs.length fun h=>optInt mx xs.length fun m =>
      brIf lo.isSome (decide (0≤l)) (brIf (lo.isSome||hi.isSome) (decide (l≤h)) (brIf (hi.isSome||mx.isSome) (decide (h≤m)) (brIf mx.isSome (decide (m≤(xs.length:Int)))
       (newB nid (.row ty ((xs.take h.toNat).drop l.toNat) false 0 ((bif own then [(id,ver)]else [])++par)) (bif shareB C.share o.dst&&lo.isSome&&hi.isNone&&mx.isNone then newB (nid+4) (.sfx id nid l.toNat ty.size) (put (.sc (.sl nid)))else put (.sc (bif C.win&&fullOp lo hi mx then .sf nid else .sl nid))))))))
    else .fail
   | .win ty xs ys false _ par=>bif elemSz C.P t ty.size&&mx.isNone then
     chkPar par (optInt lo 0 fun l=>optInt hi xs.length fun h =>
      brIf lo.isSome (decide (0≤l)) (brIf (lo.isSome||hi.isSome) (decide (l≤h)) (brIf hi.isSome (decide (h≤((xs++ys).length:Int)))
       (newB nid (.row ty (((xs++ys).take h.toNat).drop l.toNat) false 0 par) (put (.sc (.sl nid)))))))
    else .fail
   | _ => .fail
  | .one [.ptr id 0] false=>match arrayOf C.P t with
   | some (m,e,sz)=>match C.ty e with
    | some ty=>bif ty.flat&&Nat.beq ty.size sz&&lo.isNone&&mx.isNone then .getB id fun
      | .cells l _=>rdN ty m l fun xs r=>match r with
       | []=>optInt hi (m:Int) fun h => .br (decide (0≤h)) (.br (decide (h≤(m:Int))) (.putB id (.cells l true) (newB nid (.row ty (xs.take h.toNat) false 0 []) (put (.sc (.sl nid))))) .fail) .fail
       | _ => .fail
      | _ => .fail
     else .fail
    | none => .fail
   | none => .fail
  | .one [.v (.string s)] false=>bif isStr C.P t&&mx.isNone then optInt lo 0 fun l=>optInt hi (s.size:Int) fun h =>
    .br (decide (0≤l)) (.br (decide (l≤h)) (.br (decide (h≤(s.size:Int))) (put (.sc (.v (.string (s.extract l.toNat h.toNat))))) .fail) .fail) .fail
   else .fail
  | _=>plainPg C o put
 | .makeSlice t len cap=>match elemT C t with
  | some (e,ty)=>bif sameOp len cap&&bytesOk C.P e&&Nat.ble 1 ty.size then opnd len fun
    | .one [.v (.int _ n)] false => .br (decide (0≤n)) (.br (decide (n.toNat<lim)) (newB nid (.row ty (List.replicate n.toNat ty.dflt) true 0 []) (put (.sc (.sl nid)))) .fail) .fail
    | _ => .fail
   else .fail
  | none => .fail
 | .extract x i=>opnd x fun
  | .tup l=>match l[i]? with
   | some c=>put (.one c.1 c.2)
   | none => .fail
  | _ => .fail
 | .makeFunc (.func f) first caps=>bif Nat.beq first.size 0 then opnds caps.toList fun vs=>match allOnes vs with
   | some l=>newB nid (.clo l) (put (.sc (.fn f nid)))
   | none => .fail
  else .fail
 | .binOp op t x y _=>opndR x fun vx=>opnd y fun vy=>match vx,vy with
  | .one [.v (.int q a)] false,.one [.v (.int q' b)] false=>intOp op q a q' b put
  | .one [.sn b _] false,.one [.v (.slice none 0 0)] false=>match op,sliceOf C.P t with
   | .eql,some _=>put (.sc (.v (.bool b)))
   | _,_ => .fail
  | .one l true,.one l' true=>match op,eqStruct C.P t l l' with
   | .eql,some b=>put (.sc (.v (.bool b)))
   | .neq,some b=>put (.sc (.v (.bool (!b))))
   | _,_=>plainPg C o put
  | .one [.v (.string a)] false,.one [.v (.string b)] false=>match op with
   | .add => .br (decide (a.size+b.size<lim)) (put (.sc (.v (.string (a++b))))) .fail
   | _=>plainPg C o put
  | _,_=>plainPg C o put
 | .unOp _ _ _=>plainPg C o put
 | .convert src dst x=>opnd x fun
  | .one [.sl id] false=>bif byteStr C.P src dst then .getB id fun
    | .row (.int .u8) xs _ _ par=>chkPar par (put (.sc (.v (.string (strOfNums xs)))))
    | _ => .fail
   else .fail
  | _=>plainPg C o put
 | .call c=>match c.callee with
  | .builtin .len=>opnds c.args.toList fun
   | [.one [.k] false]=>match c.argTypes[0]? with
    | some t=>match sliceOf C.P t with
     | some _=>put (.sc (.v (.int .i64 KSl.xs.length)))
     | none => .fail
    | none => .fail
   | [.one [.sl id] false]=>match c.argTypes[0]? with
    | some t=>match sliceOf C.P t with
     | some _ => .getB id fun
      | .row _ xs _ _ par=>chkPar par (put (.sc (.v (.int .i64 xs.length))))
      | .win _ xs _ _ _ par=>chkPar par (put (.sc (.v (.int .i64 xs.length))))
      | .hof _ xs _=>put (.sc (.v (.int .i64 xs.length)))
      | _ => .fail
     | none => .fail
    | none => .fail
   | [.one [.slc _ m] false]=>match c.argTypes[0]? with
    | some t=>match sliceOf C.P t with
     | some _=>put (.sc (.v (.int .i64 m)))
     | none => .fail
    | none => .fail
   | _=>plainPg C o put
  | .builtin .append=>match c.args.toList,c.argTypes.toList with
   | [s,x],[ts,tx]=>appendPg C ts tx s x nid put
   | _,_ => .fail
  | .builtin .clear=>match c.args.toList,c.argTypes.toList with
   | [x],[ts]=>match elemT C ts with
    | some (_,ty)=>bif ty.flat&&Nat.ble 1 ty.size then opnd x fun
      | .one [.suf id l sz] false=>bif Nat.beq sz ty.size then .getB id fun
        | .row t' xs true ver []=>match castRow t' ty xs with
         | some xs => .putB id (.row ty (xs.take l++List.replicate (xs.length - l) ty.dflt) true (ver+1) []) (put (.sc .top))
         | none => .fail
        | _ => .fail
       else .fail
      | _ => .fail
     else .fail
    | none => .fail
   | _,_ => .fail
  | .builtin _=>plainPg C o put
  | .value f=>opnd f fun fv=>opnds c.args.toList fun avs=>match asFn0 fv with
   | some g=>match C.G g (fnIds avs)with
    | some v=>borrow v.ps avs fun l=>callV C v avs o.dst nid (giveBack l (.ret ()))
    | none => .fail
   | none=>match asFn fv with
    | some (g,id) => .getB id fun
     | .clo l=>match C.G g (fnIds avs)with
      | some v=>callV C v (avs++l.map fun p => .one p.1 p.2) o.dst nid (.ret ())
      | none => .fail
     | _ => .fail
    | none => .fail
  | .invoke _ _ => .fail
 | _ => .fail

def isUnd:AV→Bool
 | .one [.und] false=>true
 | _=>false

def gopPg[KSl](C:Cfg)(ops:Array Oper)(nid:Nat)(o:Oper):Pg Unit :=
 match o.guard with
 | none=>opPg C nid o
 | some (j,want)=>match (ops[j]?).bind (·.dst)with
  | some t=>match want with
   | true => .get t fun v=>bif isUnd v then putD C o.dst (.sc .und) (.ret ())else .brT t (opPg C nid o) (putD C o.dst (.sc .und) (.ret ()))
   | false => .get t fun v=>bif isUnd v then putD C o.dst (.sc .und) (.ret ())else .brT t (putD C o.dst (.sc .und) (.ret ())) (opPg C nid o)
  | none => .fail

section
variable {A : Type}
def evOps[KSl](C:Cfg)(ops:Array Oper):List Oper→Nat→St→(St→Option A)→Option A
 | [],_,s,K=>K s
 | o::l,nid,s,K=>(gopPg C ops nid o).runK s fun _ s=>evOps C ops l (nid+8) s K

abbrev Fp:=List Loc×List Loc
def evOpsF[KSl](C:Cfg)(ops:Array Oper):List Oper→Nat→St→List Fp→(St→List Fp→Option A)→Option A
 | [],_,s,fs,K=>K s fs
 | o::l,nid,s,fs,K=>(gopPg C ops nid o).runF s [] [] fun _ s r w=>evOpsF C ops l (nid+8) s (fs ++ [(r,w)]) K
end

def locBeq(a b:Loc):Bool:=a.1==b.1&&Nat.beq a.2 b.2
def meetL(a b:List Loc):Bool:=a.any fun x=>b.any fun y=>locBeq x y
def conflictF(a b:Fp):Bool:=meetL a.2 b.1||meetL a.2 b.2||meetL b.2 a.1

def directs(o:Oper):List Nat:=(o.after.toList.filter (Region.binds .any)).map (·.on)

def ancs:List Oper→List (List Nat)→List (List Nat)
 | [],acc=>acc
 | o::l,acc=>ancs l (acc ++ [(directs o++(directs o).flatMap fun i=>acc.getD i []).eraseDups])

def forwardB:List Oper→Nat→Bool
 | [],_=>true
 | o::l,n=>((directs o).all fun i=>Nat.blt i n)&&(match o.guard with | some (j,_)=>(directs o).any fun i=>Nat.beq i j | none=>true)&&forwardB l (n+1)

def indepAt(an:List (List Nat))(fj:Fp)(j:Nat):List Fp→Nat→Bool
 | [],_=>true
 | fi::l,i=>(!conflictF fi fj||(an.getD j []).any fun x=>Nat.beq x i)&&indepAt an fj j l (i+1)

def indepF(an:List (List Nat)):List Fp→List Fp→Nat→Bool
 | _,[],_=>true
 | done,f::l,j=>indepAt an f j done 0&&indepF an (done ++ [f]) l (j+1)

def indep(ops:Array Oper)(fs:List Fp):Bool:=forwardB ops.toList 0&&indepF (ancs ops.toList []) [] fs 0

structure PE where
 tmp:Nat
 id:Nat
 b:BTy
 pin:Bool

def mkCaps:(caps:List (Ty×CK))→CapT caps→Nat→List (List Sc×Bool)×List Blk
 | [],_,_=>([],[])
 | (t,.sc)::cs,x,i=>(((unT false [] t x.1 i).1,false)::(mkCaps cs x.2 (i+(unT false [] t x.1 i).2.length)).1,(unT false [] t x.1 i).2++(mkCaps cs x.2 (i+(unT false [] t x.1 i).2.length)).2)
 | (t,.ag)::cs,x,i=>(((unT false [] t x.1 i).1,true)::(mkCaps cs x.2 (i+(unT false [] t x.1 i).2.length)).1,(unT false [] t x.1 i).2++(mkCaps cs x.2 (i+(unT false [] t x.1 i).2.length)).2)
 | (t,.pr)::cs,x,i=>(([.ptr (i+(unT false [] t x.1 i).2.length) 0],false)::(mkCaps cs x.2 (i+(unT false [] t x.1 i).2.length+1)).1,(unT false [] t x.1 i).2 ++ .cells (unT false [] t x.1 i).1 true::(mkCaps cs x.2 (i+(unT false [] t x.1 i).2.length+1)).2)
 | (t,.pp)::cs,x,i=>(([.ptr (i+(unT false [] t x.1 i).2.length+1) 0],false)::(mkCaps cs x.2 (i+(unT false [] t x.1 i).2.length+1+1)).1,(unT false [] t x.1 i).2 ++ .cells (unT false [] t x.1 i).1 true :: .cells [.ptr (i+(unT false [] t x.1 i).2.length) 0] true::(mkCaps cs x.2 (i+(unT false [] t x.1 i).2.length+1+1)).2)

def St.empty:St:=⟨fun _ => .sc .top,fun _ => .unborn⟩

abbrev PTe(l:List PE):Type:=PT (l.map (·.b))

def fselPg{α:Type}(l:List Sc)(x:Nat)(k:Nat→Pg α):List Nat→Nat→Pg α
 | [],_ => .fail
 | o::os,j => .br (Nat.beq x j) (match l.getD o .top with
  | .sl i=>k i
  | _ => .fail) (fselPg l x k os (j+1))

def findO(l:List Sc)(i:Nat):List Nat→Nat→Option Nat
 | [],_=>none
 | o::os,q=>match l.getD o .top with
  | .sl j=>bif Nat.beq i j then some q else findO l i os (q+1)
  | _=>findO l i os (q+1)

def sameSl:List Sc→List Sc→Bool
 | [],[]=>true
 | .sl a::l,.sl b::l'=>Nat.beq a b&&sameSl l l'
 | _,_=>false

def lenIf{α:Type}(C:Cfg)(tmp id n sz:Nat)(k:Pg α):Pg α :=
 bif C.share.any fun i=>Nat.beq i (tmp+300000)then newB (id+5) (.lenB id n sz) k else k

def mkE{α:Type}(C:Cfg)(e:PE)(x:e.b.T)(k:Pg α):Pg α :=
 match e,x with
 | ⟨tmp,id,.val t g,_⟩,x=>newBs id (unT false [] t x id).2 (putD C (some tmp) (.one (unT false [] t x id).1 g) k)
 | ⟨tmp,id,.ptr t mu,_⟩,x=>newBs (id+1) (unT false [] t x (id+1)).2 (newB id (.cells (unT false [] t x (id+1)).1 (!mu)) (putD C (some tmp) (.sc (.ptr id 0)) k))
 | ⟨tmp,id,.own t,_⟩,x=>newB id (.row t x true 0 []) (putD C (some tmp) (.sc (.sl id)) k)
 | ⟨tmp,id,.eat t,_⟩,x=>newB id (.row t x true 0 []) (lenIf C tmp id x.length t.size (putD C (some tmp) (.sc (.sl id)) k))
 | ⟨tmp,id,.fn f caps,_⟩,x=>newBs (id+1) (mkCaps caps x (id+1)).2 (newB id (.clo (mkCaps caps x (id+1)).1) (putD C (some tmp) (.sc (.fn f id)) k))
 | ⟨tmp,_,.lit v,_⟩,_=>putD C (some tmp) (.sc (.v v)) k
 | ⟨tmp,_,.same t,_⟩,_ => .get t fun v=>match asSl v with
  | some id=>putD C (some tmp) (.sc (.sl id)) k
  | none => .fail
 | ⟨tmp,id,.vw p,_⟩,x => .get p fun v=>match asSl v with
  | some pid => .getB pid fun
   | .row (.sl t) xs true ver []=>newBs id (unT false [(pid,ver)] (.sl t) (xs.getD x []) id).2 (newB (id+4) (.idx t xs id x pid ver) (putD C (some tmp) (.sc (.sl id)) k))
   | _ => .fail
  | none => .fail
 | ⟨tmp,id,.hof t,_⟩,x=>newB id (.hof t x.1 x.2) (putD C (some tmp) (.sc (.sl id)) k)
 | ⟨tmp,id,.al t offs,_⟩,_ => .get t fun v=>match asPtr v with
  | some pid => .getB pid fun
   | .cells l false=>bif offs.all (fun o=>Nat.blt o l.length)then newB id (.cells (offs.map fun o=>l.getD o .top) true) (putD C (some tmp) (.sc (.slc id offs.length)) k)else .fail
   | _ => .fail
  | none => .fail
 | ⟨tmp,_,.fsel t offs,_⟩,x => .get t fun v=>match asPtr v with
  | some pid => .getB pid fun
   | .cells l false=>fselPg l x (fun i=>putD C (some tmp) (.sc (.sl i)) k) offs 0
   | _ => .fail
  | none => .fail
 | ⟨tmp,id,.pp t,_⟩,x=>newBs (id+2) (unT false [] t x (id+2)).2 (newB (id+1) (.cells (unT false [] t x (id+2)).1 true) (newB id (.cells [.ptr (id+1) 0] true) (putD C (some tmp) (.sc (.ptr id 0)) k)))
 | ⟨tmp,id,.gob t g,_⟩,x=>newBs id (unT true [] t x id).2 (putD C (some tmp) (.one (unT true [] t x id).1 g) k)
 | ⟨tmp,id,.box t own,_⟩,x=>newBs (id+1) (unT own [] t x (id+1)).2 (newB id (.cells (unT own [] t x (id+1)).1 false) (putD C (some tmp) (.sc (.ptr id 0)) k))

def mkPat{α:Type}(C:Cfg):(l:List PE)→PTe l→Pg α→Pg α
 | [],_,k=>k
 | e::l,x,k=>mkPat C l x.2 (mkE C e x.1 k)

section
variable {α : Type}
def chkLive:List Nat→Pg α→Pg α
 | [],k=>k
 | i::l,k => .getB i fun
  | .row _ _ _ _ par=>chkPar par (chkLive l k)
  | .win _ _ _ _ _ par=>chkPar par (chkLive l k)
  | .cells _ _=>chkLive l k
  | _ => .fail

def rdE(e:PE)(v:AV)(k:e.b.T→List Nat→Pg α):Pg α :=
 match e,k with
 | ⟨_,id,.ptr t true,true⟩,k=>rdP t true v fun x id' u=>bif Nat.beq id' id then .putB id' .dead (k x u)else .fail
 | ⟨_,id,.own t,true⟩,k=>match asSl v with
  | some id'=>bif Nat.beq id' id then rdRow t id' fun x => .putB id' .dead (k x [])else .fail
  | none => .fail
 | ⟨_,_,.box t true,false⟩,k=>match asPtr v with
  | some id' => .getB id' fun
   | .cells l false=>rdO t l fun x r=>match r with
    | [] => .putB id' .dead (k x [])
    | _ => .fail
   | _ => .fail
  | none => .fail
 | ⟨_,_,.box t false,false⟩,k=>rdP t true v fun x id' u => .putB id' .dead (k x u)
 | ⟨_,_,.ptr t false,false⟩,k=>rdP t false v fun x id' u=>k x (id'::u)
 | ⟨_,_,.val t g,false⟩,k=>rdV t g v k
 | ⟨_,_,.eat t,false⟩,k=>bif asNil v then k [] []else match asSl v with
  | some id=>rdRow t id fun x => .putB id .dead (k x [])
  | none => .fail
 | ⟨_,_,.fn f c,false⟩,k=>rdArg (.fn f c) v (fun x u _ _=>k x u)
 | ⟨_,_,.lit w,false⟩,k=>rdArg (.lit w) v (fun x u _ _=>k x u)
 | ⟨_,_,.same t,false⟩,k => .get t fun v'=>match asSl v,asSl v' with
  | some i,some j=>bif Nat.beq i j then k () []else .fail
  | _,_ => .fail
 | ⟨_,_,.vw p,false⟩,k => .get p fun v'=>match asSl v,asSl v' with
  | some sid,some pid => .getB (sid+4) fun
   | .idx _ _ sid' i pid' ver=>bif Nat.beq sid sid'&&Nat.beq pid pid' then .getB pid fun
     | .row _ _ true ver' []=>bif Nat.beq ver ver' then k i []else .fail
     | _ => .fail
    else .fail
   | _ => .fail
  | _,_ => .fail
 | ⟨_,_,.pp t,false⟩,k=>rdPP t v fun x i j u=>k x (i::j::u)
 | ⟨_,_,.hof t,false⟩,k=>bif asNil v then k ([],0) []else match asSl v with
  | some id => .getB id fun
   | .row t' xs true _ []=>match castRow t' t xs with
    | some xs => .putB id .dead (k (xs,0) [])
    | none => .fail
   | .hof t' xs kk=>match castRow t' t xs with
    | some xs => .putB id .dead (k (xs,kk) [])
    | none => .fail
   | _ => .fail
  | none => .fail
 | ⟨_,_,.al t offs,false⟩,k => .get t fun v'=>match asPtr v',v with
  | some pid,.one [.slc sid m] false => .getB pid fun
   | .cells l false => .getB sid fun
    | .cells l' _=>bif Nat.beq m offs.length&&sameSl l' (offs.map fun o=>l.getD o .top)then k () [sid]else .fail
    | _ => .fail
   | _ => .fail
  | _,_ => .fail
 | ⟨_,_,.fsel t offs,false⟩,k => .get t fun v'=>match asPtr v',asSl v with
  | some pid,some i => .getB pid fun
   | .cells l false=>match findO l i offs 0 with
    | some q=>k q []
    | none => .fail
   | _ => .fail
  | _,_ => .fail
 | ⟨_,_,.gob t g,false⟩,k=>rdArg (.gob t g) v (fun x _ _ _=>k x [])
 | _,_ => .fail

def rdPat0:(l:List PE)→(PTe l→List Nat→Pg α)→Pg α
 | [],k=>k () []
 | e::l,k => .get e.tmp fun v=>rdE e v fun x u=>rdPat0 l fun y u'=>k (x,y) (u++u')

def rdPat(l:List PE)(k:PTe l→Pg α):Pg α:=rdPat0 l fun x u=>chkLive u (k x)
end

section
variable {α : Type}
def ccons:(t:Ty)→(l:List Ty)→t.T→CT l→CT (t::l)
 | _,[],x,_=>x
 | _,_::_,x,y=>(x,y)

def rdOuts:(os:List PE)→(CT (outs (os.map (·.b)))→Pg α)→Pg α
 | [],k=>k ()
 | ⟨_,id,.ptr t true,_⟩::os,k => .getB id fun
  | .cells l false=>bif t.flat then rdT t l fun x r _=>match r with
   | []=>rdOuts os fun y=>k (ccons t _ x y)
   | _ => .fail
   else .fail
  | _ => .fail
 | ⟨_,id,.own t,_⟩::os,k => .getB id fun
  | .row t' x true _ []=>match castRow t' t x with
   | some x=>rdOuts os fun y=>k (ccons (.sl t) _ x y)
   | none => .fail
  | _ => .fail
 | ⟨_,_,.ptr _ false,_⟩::os,k=>rdOuts os k
 | ⟨_,_,.val _ _,_⟩::os,k=>rdOuts os k
 | ⟨_,_,.eat _,_⟩::os,k=>rdOuts os k
 | ⟨_,_,.fn _ _,_⟩::os,k=>rdOuts os k
 | ⟨_,_,.pp _,_⟩::os,k=>rdOuts os k
 | ⟨_,_,.same _,_⟩::os,k=>rdOuts os k
 | ⟨_,_,.vw _,_⟩::os,k=>rdOuts os k
 | ⟨_,_,.hof _,_⟩::os,k=>rdOuts os k
 | ⟨_,_,.al _ _,_⟩::os,k=>rdOuts os k
 | ⟨_,_,.fsel _ _,_⟩::os,k=>rdOuts os k
 | ⟨_,_,.lit _,_⟩::os,k=>rdOuts os k
 | ⟨_,_,.box _ _,_⟩::os,k=>rdOuts os k
 | ⟨_,_,.gob _ _,_⟩::os,k=>rdOuts os k

def rdRes(P:Program)(os:List PE):(rs:List (Ty×Bool))→List ResultVar→(CT (rs.map (·.1)++outs (os.map (·.b)))→Pg α)→Pg α
 | [],[],k=>rdOuts os k
 | (t,g)::rs,.tmp i::vs,k => .get i fun
  | .one l g'=>bif g==g' then rdO t l fun x r=>match r with
   | []=>rdRes P os rs vs fun y=>k (ccons t _ x y)
   | _ => .fail
   else .fail
  | _ => .fail
 | (t,g)::rs,.cell i ty::vs,k => .get i fun
  | .one [.ptr id 0] false => .getB id fun
   | .cells l _=>match partS P ty l 0 with
    | some (.one l' g')=>bif g==g' then rdO t l' fun x r=>match r with
     | []=>rdRes P os rs vs fun y=>k (ccons t _ x y)
     | _ => .fail
     else .fail
    | _ => .fail
   | _ => .fail
  | _ => .fail
 | _,_,_ => .fail
end

inductive Ex where
 | normal
 | exit (id:Nat)
 | ret

inductive Ann(R:Type) where
 | loop (pin pout:List PE) (ex:Nat) (nx:Nat) (L:PTe pin→Option (R ⊕ PTe pout))
 | cut (pout:List PE) (nx:Nat)
 | peel (pin pout:List PE) (ex:Nat) (nx:Nat) (L:PTe pin→Option (R ⊕ PTe pout))

structure Fn(R:Type) where
 C:Cfg
 fin:Pg R
 an:Nat→Option (Ann R)
 k:Nat
 pins:List Nat

def pinTy:List PE→Bool
 | []=>true
 | ⟨_,_,.own _,_⟩::l=>pinTy l
 | ⟨_,_,.ptr _ true,_⟩::l=>pinTy l
 | e::l => !e.pin&&pinTy l

def pinsOk(pins:List Nat)(l:List PE):Bool:=(pins.all fun p=>l.any fun e=>e.pin&&Nat.beq e.id p)&&pinTy l

section
variable {R : Type}
def loopN{A:Type}(f:St→Nat→(Ex→St→Nat→Option A)→Option A):Nat→St→Nat→(Ex→St→Nat→Option A)→Option A
 | 0,_,_,_=>none
 | n+1,s,x,K=>f s x fun e s' x'=>match e with
  | .normal=>loopN f n s' x' K
  | e=>K e s' x'

def rdK{A:Type}(F:Fn R)(l:List PE)(s:St)(K:PTe l→Option A):Option A :=
 bif pinsOk F.pins l then(rdPat l fun x => .ret x).runK s fun x _=>K x else none
def mkK{A:Type}(F:Fn R)(l:List PE)(x:PTe l)(K:St→Option A):Option A:=(mkPat F.C l x (.ret ())).runK St.empty fun _ s=>K s

def cutW(F:Fn R)(p:Nat)(f:(A:Type)→St→Nat→(R→Option A)→(Ex→St→Nat→Option A)→Option A)(A:Type)(s:St)(nx:Nat)(Kr:R→Option A)(K:Ex→St→Nat→Option A):Option A :=
 match F.an p with
 | some (.cut pout nx')=>(f (R ⊕ PTe pout) s nx (fun r=>some (.inl r)) fun e s' _=>match e with
   | .normal=>rdK F pout s' fun y=>some (.inr y)
   | _=>none).bind fun o=>match o with
  | .inl r=>Kr r
  | .inr y=>mkK F pout y fun s=>K .normal s nx'
 | _=>f A s nx Kr K

def ev[KSl](F:Fn R):Code→(A:Type)→Nat→St→Nat→(R→Option A)→(Ex→St→Nat→Option A)→Option A
 | .skip,_,_,s,nx,_,K=>K .normal s nx
 | .seq a b,A,p,s,nx,Kr,K=>cutW F (2*p) (fun A s nx Kr K=>ev F a A (2*p) s nx Kr K) A s nx Kr fun e s' nx'=>match e with
  | .normal=>ev F b A (2*p+1) s' nx' Kr K
  | e=>K e s' nx'
 | .cond (.tmp t) x y,A,p,s,nx,Kr,K=>match s.T t with
  | .one [.v (.bool b)] false=>bif b then ev F x A (2*p) (s.setT t (.sc (.v (.bool true)))) nx Kr K else ev F y A (2*p+1) (s.setT t (.sc (.v (.bool false)))) nx Kr K
  | _=>none
 | .block id c,A,p,s,nx,Kr,K=>ev F c A (2*p) s nx Kr fun e s' nx'=>match e with
  | .exit j=>bif Nat.beq j id then K .normal s' nx' else K (.exit j) s' nx'
  | e=>K e s' nx'
 | .loop c,A,p,s,nx,Kr,K=>match F.an p with
  | some (.loop pin pout ex nx' L)=>rdK F pin s fun x=>(L x).bind fun o=>match o with
   | .inl r=>Kr r
   | .inr y=>mkK F pout y fun s=>K (.exit ex) s nx'
  | some (.peel pin pout ex nx' L)=>ev F c A (2*p) s nx (fun _=>none) fun e s _=>match e with
   | .normal=>rdK F pin s fun x=>(L x).bind fun o=>match o with
    | .inl r=>Kr r
    | .inr y=>mkK F pout y fun s=>K (.exit ex) s nx'
   | _=>none
  | _=>loopN (fun s nx K=>ev F c A (2*p) s nx Kr K) F.k s nx K
 | .exit id,_,_,s,nx,_,K=>K (.exit id) s nx
 | .ret,_,_,s,_,Kr,_=>F.fin.runK s fun r _=>Kr r
 | .region _ ops draw,_,_,s,nx,_,K=>bif draw then evOpsF F.C ops ops.toList nx s [] fun s' fs=>bif indep ops fs then K .normal s' (nx+8*ops.size)else none
  else evOps F.C ops ops.toList nx s fun s'=>K .normal s' (nx+8*ops.size)
 | _,_,_,_,_,_,_=>none

def roundOf[KSl](F:Fn R)(c:Code)(p:Nat)(pin pout:List PE)(ex nx:Nat)(L:PTe pin→Option (R ⊕ PTe pout))(x:PTe pin):Option (R ⊕ PTe pout) :=
 mkK F pin x fun s=>ev F c (R ⊕ PTe pout) (2*p) s nx (fun r=>some (.inl r)) fun e s' _=>match e with
  | .normal=>rdK F pin s' L
  | .exit j=>bif Nat.beq j ex then rdK F pout s' fun y=>some (.inr y)else none
  | .ret=>none

def evFn[KSl](F:Fn R)(c:Code)(params:List PE)(nx:Nat)(x:PTe params):Option R :=
 mkK F params x fun s=>ev F c R 1 s nx some fun e s' _=>match e with
  | .normal=>F.fin.runK s' fun r _=>some r
  | _=>none
end
end
end Go.Ev
namespace Go.Ev
open Go

inductive Home where
 | none
 | blk (b o:Nat)
 | row (A:Option Addr) (n c:Nat) (F:List Nat)
 | clo (vs:Array Value)

def Home.foot:Home→List Nat
 | .blk b _ => [b]
 | .row _ _ _ F=>F
 | _ => []

def F2{α β:Type}(R:α→β→Prop):List α→List β→Prop
 | [],[]=>True
 | a::as,b::bs=>R a b∧F2 R as bs
 | _,_=>False

section
variable {α β : Type} {R R' : α → β → Prop}
theorem F2_len:∀ {l:List α} {m:List β},F2 R l m→l.length=m.length
 | [],[],_=>rfl
 | _::_,_::_,h=>by simp [F2_len h.2]
theorem F2_mono(hR:∀a b,R a b→R' a b):∀ {l:List α} {m:List β},F2 R l m→F2 R' l m
 | [],[],_=>trivial
 | _::_,_::_,h=>⟨hR _ _ h.1,F2_mono hR h.2⟩
theorem F2_get:∀ {l:List α} {m:List β} {i:Nat} {a:α},F2 R l m→l[i]? = some a→∃b,m[i]? = some b∧R a b
 | _::_,b::_,0,_,h,e=>by simp at e;exact⟨b,by simp,e ▸ h.1⟩
 | _::_,_::_,i+1,_,h,e=>by simp at e ⊢; exact F2_get h.2 e
theorem F2_append:∀ {l l':List α} {m m':List β},F2 R l m→F2 R l' m'→F2 R (l++l') (m++m')
 | [],_,[],_,_,h'=>h'
 | _::_,_,_::_,_,h,h'=>⟨h.1,F2_append h.2 h'⟩
theorem F2_take:∀ {l:List α} {m:List β} (n:Nat),F2 R l m→F2 R (l.take n) (m.take n)
 | _,_,0,_=>by simp [F2]
 | [],[],_+1,_=>by simp [F2]
 | _::_,_::_,n+1,h=>by simp only [List.take_succ_cons];exact⟨h.1,F2_take n h.2⟩
theorem F2_drop:∀ {l:List α} {m:List β} (n:Nat),F2 R l m→F2 R (l.drop n) (m.drop n)
 | _,_,0,h=>by simpa using h
 | [],[],_+1,_=>by simp [F2]
 | _::_,_::_,n+1,h=>by simp only [List.drop_succ_cons];exact F2_drop n h.2
theorem F2_set:∀ {l:List α} {m:List β} (n:Nat) {a:α} {b:β},F2 R l m→R a b→F2 R (l.set n a) (m.set n b)
 | [],[],_,_,_,_,_=>by simp [F2]
 | _::_,_::_,0,_,_,h,h'=>⟨h',h.2⟩
 | _::_,_::_,n+1,_,_,h,h'=>⟨h.1,F2_set n h.2 h'⟩
theorem F2_split:∀ {l l':List α} {m:List β},F2 R (l++l') m→∃m1 m2,m=m1++m2∧F2 R l m1∧F2 R l' m2
 | [],_,m,h=>⟨[],m,rfl,trivial,h⟩
 | _::_,_,b::_,h=>by
  obtain⟨m1,m2,rfl,h1,h2⟩:=F2_split h.2
  exact⟨b::m1,m2,rfl,⟨h.1,h1⟩,h2⟩
end

variable [KSl]

def RSc(ι:Nat→Home):Sc→Value→Prop
 | .top,_=>True
 | .und,v=>v=undef
 | .v x,v=>v=x∧x.oneCell'=true
 | .ptr id off,v=>∃b o,ι id = .blk b o∧v = .pointer (some ⟨b,o+off,none⟩)
 | .elt id i j sz,v=>∃b o n c F,ι id = .row (some ⟨b,o,none⟩) n c F∧i<n∧v = .pointer (some ⟨b,o+i*sz+j,none⟩)
 | .sl id,v=>∃A n c F,ι id = .row A n c F∧v = .slice A n c
 | .fn f id,v=>∃vs,ι id = .clo vs∧v = .func (.func f) #[] vs
 | .sn b id,v=>∃A n c F,ι id = .row A n c F∧v = .slice A n c∧A.isNone=b
 | .suf id l sz,v=>∃b o n c F,ι id = .row (some ⟨b,o,none⟩) n c F∧l<n∧n≤c∧v = .slice (some ⟨b,o+l*sz,none⟩) (n - l) (c - l)
 | .sf id,v=>∃A n F,ι id = .row A n n F∧v = .slice A n n
 | .k,v=>v=KSl.s
 | .ke i,v=>∃b o,KSl.A=some ⟨b,o,none⟩∧i<KSl.n∧v = .pointer (some ⟨b,o+i,none⟩)
 | .slc id n,v=>∃b,ι id = .blk b 0∧v = .slice (some ⟨b,0,none⟩) n n

def RVs(ι:Nat→Home)(p:List Sc×Bool)(v:Value):Prop :=
 if p.2=true then ∃vs,v = .agg vs∧F2 (RSc ι) p.1 vs.toList else ∃c,p.1 = [c]∧RSc ι c v

def RAV(ι:Nat→Home):AV→Value→Prop
 | .one l g,v=>RVs ι (l,g) v
 | .tup l,v=>∃vs,v = .tuple vs∧F2 (RVs ι) l vs.toList

theorem RAV_sc{ι c v}:RAV ι (.sc c) v↔RSc ι c v:=by
 simp [RAV,RVs]
theorem RAV_top{ι v}:RAV ι (.sc .top) v:=by simp [RAV,RVs,RSc]
theorem RAV_v{ι x v}:RAV ι (.sc (.v x)) v↔v=x∧x.oneCell'=true:=by simp [RAV,RVs,RSc]

def Lift(ι ι':Nat→Home):Prop:=∀id,ι id ≠ .none→ι' id=ι id

theorem Lift.eq{ι ι':Nat→Home}(h:Lift ι ι'){id:Nat}{x:Home}(e:ι id=x)(hx:x ≠ .none):ι' id=x:=by rw [h id (e ▸ hx),e]

theorem RSc_lift{ι ι':Nat→Home}(h:Lift ι ι'){c v}(hc:RSc ι c v):RSc ι' c v:=by
 cases c with
 | top=>trivial
 | und=>exact hc
 | v x=>exact hc
 | ptr id off=>obtain⟨b,o,e,r⟩:=hc;exact⟨b,o,h.eq e (by simp),r⟩
 | elt id i j sz=>obtain⟨b,o,n,c,F,e,r⟩:=hc;exact⟨b,o,n,c,F,h.eq e (by simp),r⟩
 | sl id=>obtain⟨A,n,c,F,e,r⟩:=hc;exact⟨A,n,c,F,h.eq e (by simp),r⟩
 | fn f id=>obtain⟨vs,e,r⟩:=hc;exact⟨vs,h.eq e (by simp),r⟩
 | sn b id=>obtain⟨A,n,c,F,e,r⟩:=hc;exact⟨A,n,c,F,h.eq e (by simp),r⟩
 | suf id l sz=>obtain⟨b,o,n,c,F,e,r⟩:=hc;exact⟨b,o,n,c,F,h.eq e (by simp),r⟩
 | sf id=>obtain⟨A,n,F,e,r⟩:=hc;exact⟨A,n,F,h.eq e (by simp),r⟩
 | k=>exact hc
 | ke i=>exact hc
 | slc id n=>obtain⟨b,e,r⟩:=hc;exact⟨b,h.eq e (by simp),r⟩

theorem RVs_lift{ι ι':Nat→Home}(h:Lift ι ι'){p v}(hc:RVs ι p v):RVs ι' p v:=by
 unfold RVs at *
 split at hc
 ·rename_i hp
  rw [if_pos hp]
  obtain⟨vs,e,r⟩:=hc
  exact⟨vs,e,F2_mono (fun _ _=>RSc_lift h) r⟩
 ·rename_i hp
  rw [if_neg hp]
  obtain⟨c,e,r⟩:=hc
  exact⟨c,e,RSc_lift h r⟩

theorem RAV_lift{ι ι':Nat→Home}(h:Lift ι ι'){p v}(hc:RAV ι p v):RAV ι' p v:=by
 cases p with
 | one l g=>exact RVs_lift h hc
 | tup l=>obtain⟨vs,e,r⟩:=hc;exact⟨vs,e,F2_mono (fun _ _=>RVs_lift h) r⟩

theorem RSc_one{ι c v}(h:RSc ι c v)(hc:notTop [c]=true):v.oneCell'=true:=by
 cases c with
 | top=>simp [notTop]at hc
 | und=>simp [notTop]at hc
 | v x=>obtain⟨rfl,h⟩:=h;exact h
 | ptr id off=>obtain⟨b,o,e,rfl⟩:=h;rfl
 | elt id i j sz=>obtain⟨b,o,n,c,F,e,_,rfl⟩:=h;rfl
 | sl id=>obtain⟨A,n,c,F,e,rfl⟩:=h;rfl
 | fn f id=>obtain⟨vs,e,rfl⟩:=h;rfl
 | sn b id=>obtain⟨A,n,c,F,e,rfl,_⟩:=h;rfl
 | suf id l sz=>obtain⟨b,o,n,c,F,e,_,_,rfl⟩:=h;rfl
 | sf id=>obtain⟨A,n,F,e,rfl⟩:=h;rfl
 | k=>cases h;rfl
 | ke i=>obtain⟨b,o,_,_,rfl⟩:=h;rfl
 | slc id n=>obtain⟨b,e,rfl⟩:=h;rfl

def Blk.par:Blk→List (Nat×Nat)
 | .row _ _ _ _ par=>par
 | .idx _ _ _ _ pid ver => [(pid,ver)]
 | .win _ _ _ _ _ par=>par
 | _ => []
def Blk.ver? : Blk→Option Nat
 | .row _ _ _ ver _=>some ver
 | .win _ _ _ _ ver _=>some ver
 | _=>none
def Blk.excl:Blk→Bool
 | .cells _ ro => !ro
 | .row _ _ own _ _=>own
 | .win _ _ _ own _ _=>own
 | .hol _ _ _=>true
 | .hof _ _ _=>true
 | _=>false
def Blk.live:Blk→Bool
 | .cells _ _=>true
 | .row _ _ _ _ _=>true
 | .idx _ _ _ _ _ _=>true
 | .win _ _ _ _ _ _=>true
 | .hol _ _ _=>true
 | .hof _ _ _=>true
 | _=>false

def ParOk(H:Nat→Blk)(par:List (Nat×Nat)):Prop:=∀q∈par,∃t x par',H q.1 = .row t x true q.2 par'

def RR(own:Bool)(w:World)(t:Ty)(x:List t.T)(A:Option Addr)(n c:Nat)(F:List Nat):Prop:=RowR own w t.size (RE own w t) x A n c F

def Link(w:World)(ι:Nat→Home)(t:Ty)(xs:List (List t.T))(sid i:Nat)(A:Option Addr)(n c:Nat)(F:List Nat):Prop :=
 ∃(b o:Nat) (arr:Array Value) (e:TypeId) (Fs:List (List Nat)) (G:List Nat) (A':Option Addr) (n' c':Nat) (F':List Nat),A=some ⟨b,o,none⟩∧n=xs.length∧n≤c∧w.heap[b]? = some (.cells arr e (0,0))∧o+c*1≤arr.size ∧
  (F=b::(Fs.flatten++G)∧∀k∈G,k<w.heap.size)∧Fs.length=xs.length∧(∀j x Fj,xs[j]? = some x→Fs[j]? = some Fj→RE true w (.sl t) x ((arr.toList.drop (o+j*1)).take 1) Fj) ∧
  (arr.toList.drop (o+i*1)).take 1 = [.slice A' n' c']∧Fs[i]? = some F'∧ι sid = .row A' n' c' F'

def Hol(w:World)(t:Ty)(xs:List t.T)(i:Nat)(A:Option Addr)(n c:Nat)(L:List Nat):Prop :=
 ∃(b o:Nat) (arr:Array Value) (e:TypeId) (Fs:List (List Nat)) (G:List Nat),A=some ⟨b,o,none⟩∧n=xs.length∧n≤c∧w.heap[b]? = some (.cells arr e (0,0))∧o+c*t.size≤arr.size ∧
  L=b::(Fs.flatten++G)∧(∀k∈G,k<w.heap.size)∧Fs.length=xs.length∧Fs[i]? = some []∧∀j x Fj,xs[j]? = some x→Fs[j]? = some Fj→j≠i→RE true w t x ((arr.toList.drop (o+j*t.size)).take t.size) Fj

theorem Hol_frame{w w':World}{t:Ty}{xs:List t.T}{i:Nat}{A:Option Addr}{n c:Nat}{L:List Nat}(hw:∀k∈L,w'.heap[k]? = w.heap[k]?)(h:Hol w t xs i A n c L):Hol w' t xs i A n c L:=by
 obtain⟨b,o,arr,e,Fs,G,h1,h2,h3,h4,h5,h6,h6',h7,h8,h9⟩:=h
 refine⟨b,o,arr,e,Fs,G,h1,h2,h3,by rw [hw b (by rw [h6];simp),h4],h5,h6,fun k hk => ?_,h7,h8,fun j x Fj hx hF hj=>RE_frame (fun k hk=>hw k ?_) (h9 j x Fj hx hF hj)⟩
 ·have h1:=hw k (by rw [h6];simp [hk])
  have h2:=h6' k hk
  rw [Array.getElem?_eq_getElem h2]at h1
  exact(Array.getElem?_eq_some_iff.1 h1).1
 ·rw [h6]
  exact List.mem_cons_of_mem _ (List.mem_append.2 (.inl (List.mem_flatten.2 ⟨Fj,List.mem_of_getElem? hF,hk⟩)))

def Hof(w:World)(t:Ty)(xs:List t.T)(k:Nat)(A:Option Addr)(n c:Nat)(L:List Nat):Prop :=
 n=xs.length∧k≤n∧n≤c∧((xs = []∧L = []∧c=0) ∨
  ∃(b o:Nat) (arr:Array Value) (e:TypeId) (Fs:List (List Nat)) (G:List Nat),A=some ⟨b,o,none⟩∧w.heap[b]? = some (.cells arr e (0,0))∧o+c*t.size≤arr.size ∧
   L=b::(Fs.flatten++G)∧(∀k∈G,k<w.heap.size)∧Fs.length=xs.length - k∧∀j x Fj,xs[k+j]? = some x→Fs[j]? = some Fj→RE true w t x ((arr.toList.drop (o+(k+j)*t.size)).take t.size) Fj)

theorem Hof_frame{w w':World}{t:Ty}{xs:List t.T}{k:Nat}{A:Option Addr}{n c:Nat}{L:List Nat}(hw:∀k∈L,w'.heap[k]? = w.heap[k]?)(h:Hof w t xs k A n c L):Hof w' t xs k A n c L:=by
 obtain⟨h1,h2,h3,h | ⟨b,o,arr,e,Fs,G,h4,h5,h6,h7,h8,h9,h10⟩⟩:=h
 ·exact⟨h1,h2,h3,.inl h⟩
 ·refine⟨h1,h2,h3,.inr ⟨b,o,arr,e,Fs,G,h4,by rw [hw b (by rw [h7];simp),h5],h6,h7,fun k hk => ?_,h9,fun j x Fj hx hF=>RE_frame (fun k hk=>hw k ?_) (h10 j x Fj hx hF)⟩⟩
  ·have h1:=hw k (by rw [h7];simp [hk])
   have h2:=h8 k hk
   rw [Array.getElem?_eq_getElem h2]at h1
   exact(Array.getElem?_eq_some_iff.1 h1).1
  ·rw [h7]
   exact List.mem_cons_of_mem _ (List.mem_append.2 (.inl (List.mem_flatten.2 ⟨Fj,List.mem_of_getElem? hF,hk⟩)))

theorem RR_hof{w:World}{t:Ty}{xs:List t.T}{A:Option Addr}{n c:Nat}{F:List Nat}(h:RR true w t xs A n c F):Hof w t xs 0 A n c F:=by
 obtain⟨hn,hc,h | ⟨b,o,arr,e,fr,Fs,G,hA,hb,hf,hs,hF,hG,hl,hel⟩⟩:=h
 ·exact⟨hn,Nat.zero_le _,hc,.inl ⟨h.1,h.2.1,h.2.2 rfl⟩⟩
 ·have hf:=hf rfl
  subst hf
  refine⟨hn,Nat.zero_le _,hc,.inr ⟨b,o,arr,e,Fs,G,hA,hb,by simpa using hs,hF,hG,by simpa using hl,fun j x Fj hx hFj => ?_⟩⟩
  rw [Nat.zero_add]at hx ⊢
  exact hel j x Fj hx hFj

theorem Hof_suf{w:World}{t:Ty}{xs:List t.T}{k:Nat}{A:Option Addr}{n c:Nat}{L:List Nat}(h:Hof w t xs k A n c L):∃L',(∀b∈L',b∈L)∧(L.Nodup→L'.Nodup)∧RR true w t (xs.drop k) (if c=k then A else A.map (·.add (k*t.size))) (n - k) (c - k) L':=by
 obtain⟨h1,h2,h3,⟨h4,h5,h6⟩ | ⟨b,o,arr,e,Fs,G,h4,h5,h6,h7,h8,h9,h10⟩⟩:=h
 ·subst h4
  exact⟨[],by simp,by simp,by simp [h1],by omega,.inl ⟨by simp,rfl,fun _=>by omega⟩⟩
 ·by_cases hck:c=k
  ·refine⟨[],by simp,by simp,by simp [h1],by omega,.inl ⟨List.drop_eq_nil_of_le (by omega),rfl,fun _=>by omega⟩⟩
  ·subst h4
   rw [if_neg hck]
   refine⟨L,fun _ h=>h,fun h=>h,by simp [h1],by omega,.inr ⟨b,o+k*t.size,arr,e,(0,0),Fs,G,by simp [Addr.add],h5,fun _=>rfl,?_,h7,h8,by simpa using h9,fun j x Fj hx hFj => ?_⟩⟩
   ·simp only [if_true]
    have:k*t.size+(c - k)*t.size=c*t.size:=by rw [←Nat.add_mul];congr 1;omega
    omega
   ·rw [List.getElem?_drop]at hx
    have:=h10 j x Fj hx hFj
    rw [Nat.add_mul,←Nat.add_assoc]at this
    exact this

def RBlk(H:Nat→Blk)(w:World)(ι:Nat→Home):Blk→Home→Prop
 | .unborn,h=>h = .none
 | .dead,_=>True
 | .cells l ro,h=>∃b o arr e fr,h = .blk b o∧w.heap[b]? = some (.cells arr e fr)∧(ro=false→fr=(0,0)∧o=0∧l.length=arr.size)∧o+l.length≤arr.size∧F2 (RSc ι) l ((arr.toList.drop o).take l.length)
 | .row t x own _ par,h=>∃A n c F,h = .row A n c F∧(ParOk H par→RR own w t x A n c F)
 | .clo l,h=>∃vs,h = .clo vs∧F2 (RVs ι) l vs.toList
 | .win t x y own _ par,h=>∃A n c F,h = .row A n c F∧n=x.length∧(ParOk H par→RR own w t (x++y) A (x++y).length c F)
 | .idx t xs sid i pid ver,h=>∃A n c F,h = .row A n c F∧ι pid=h∧(ParOk H [(pid,ver)]→Link w ι t xs sid i A n c F)
 | .sfx sid s2 l sz,h=>(∃vs,h = .clo vs)∧∃A n c F F2,ι sid = .row A n c F∧l≤n∧n≤c∧ι s2 = .row (if c=l then A else A.map (·.add (l*sz))) (n - l) (c - l) F2
 | .hol t xs i,h=>∃A n c L,h = .row A n c L∧Hol w t xs i A n c L
 | .hof t xs k,h=>∃A n c L,h = .row A n c L∧Hof w t xs k A n c L
 | .pfx oid k,h=>∃A n c F,ι oid = .row A n c F∧k≤n∧h = .row A k c []
 | .pfs oid k sz,h=>∃A n c F,ι oid = .row A n c F∧k≤n∧n≤c∧h = .row (if c=k then A else A.map (·.add (k*sz))) (n - k) (c - k) []
 | .lenB oid n _,h=>(∃vs,h = .clo vs)∧∃A c F,ι oid = .row A n c F∧n≤c
 | .lnk oid j,h=>(∃vs,h = .clo vs)∧∃A n c F F',ι oid = .row A n c F∧ι j = .row A n c F'

theorem cells_whole{H:Nat→Blk}{w:World}{ι:Nat→Home}{l:List Sc}{b:Nat}{arr:Array Value}{e:TypeId}{fr:Nat×Nat}{ro:Bool}(hb:w.heap[b]? = some (.cells arr e fr))(hf:ro=false→fr=(0,0))(hl:F2 (RSc ι) l arr.toList):RBlk H w ι (.cells l ro) (.blk b 0):=by
 have h7:arr.toList.length=arr.size:=by simp
 have h1:l.length=arr.size:=(F2_len hl).trans h7
 exact⟨b,0,arr,e,fr,rfl,hb,fun h=>⟨hf h,rfl,h1⟩,by omega,by rw [List.drop_zero,List.take_of_length_le (by omega)];exact hl⟩

theorem take_one_le{arr:Array Value}{o:Nat}{p:Value}(h:(arr.toList.drop o).take 1 = [p]):o+1≤arr.size:=by
 have:=congrArg List.length h
 simp only [List.length_take,List.length_drop,List.length_cons,List.length_nil]at this
 have h7:arr.toList.length=arr.size:=by simp
 omega
theorem cells_seg{H:Nat→Blk}{w:World}{ι:Nat→Home}{l:List Sc}{b o n:Nat}{arr:Array Value}{e:TypeId}{fr:Nat×Nat}(hb:w.heap[b]? = some (.cells arr e fr))(ho:o+n≤arr.size)(hl:F2 (RSc ι) l ((arr.toList.drop o).take n)):RBlk H w ι (.cells l true) (.blk b o):=by
 have h1:=F2_len hl
 simp only [List.length_take,List.length_drop]at h1
 have h7:arr.toList.length=arr.size:=by simp
 have h2:l.length=n:=by omega
 exact⟨b,o,arr,e,fr,rfl,hb,(fun h=>by cases h),by omega,by rw [h2];exact hl⟩

structure WLe(w w':World):Prop where
 le:w.heap.size≤w'.heap.size
 os:w'.os=w.os
 out:w'.output=w.output
 tape:w'.tape=w.tape

theorem WLe.refl(w:World):WLe w w:=⟨Nat.le_refl _,rfl,rfl,rfl⟩
theorem WLe.trans{a b c:World}(h:WLe a b)(k:WLe b c):WLe a c:=⟨Nat.le_trans h.le k.le,k.os.trans h.os,k.out.trans h.out,k.tape.trans h.tape⟩

def KIn(w:World):Prop:=RR false w (.int .u8) KSl.xs KSl.A KSl.n KSl.c KSl.R

structure Ctx where
 C:Cfg
 w0:World
 O:List Nat
 pins:List (Nat×Home)
 ki:KIn w0
 ka:∀b∈KSl.R,b<w0.heap.size∧b ∉ O

structure Rel(X:Ctx)(σ:St)(ι:Nat→Home)(a:Act)(w:World):Prop where
 tm:∀i,RAV ι (σ.T i) (a.tmps.getD i undef)
 sz:a.tmps.size=X.C.ntmps
 df:a.defers = []
 bl:∀id,RBlk σ.H w ι (σ.H id) (ι id)
 lt:∀id,(σ.H id).live=true→∀b∈(ι id).foot,b<w.heap.size
 nd:∀id,(σ.H id).excl=true→(ι id).foot.Nodup
 sep:∀i j,i≠j→(σ.H i).excl=true→(σ.H j).live=true→ParOk σ.H (σ.H j).par→i ∉ (σ.H j).par.map (·.1)→∀b∈(ι i).foot,b ∉ (ι j).foot
 fr:∀b,b<X.w0.heap.size→b ∉ X.O→w.heap[b]? = X.w0.heap[b]?
 le:WLe X.w0 w
 mu:∀id,(σ.H id).excl=true→∀b∈(ι id).foot,X.w0.heap.size≤b∨b∈X.O
 pb:∀j,∀q∈(σ.H j).par,σ.H q.1 ≠ .unborn
 pv:∀j,∀q∈(σ.H j).par,∀v,(σ.H q.1).ver? = some v→q.2≤v
 pn:∀q∈X.pins,ι q.1=q.2∧q.2 ≠ .none
 po:∀id,(σ.H id).excl=true→(σ.H id).par = []

theorem RR_frame{own w w' t x A n c F}(hw:∀b∈F,w'.heap[b]? = w.heap[b]?)(h:RR own w t x A n c F):RR own w' t x A n c F :=
 RowR_mono id hw (fun x cs Fi hF h=>RE_frame (fun b hb=>hw b (hF b hb)) h) h

theorem Rel.kin{X:Ctx}{σ ι a w}(h:Rel X σ ι a w):KIn w:=RR_frame (fun b hb=>h.fr b (X.ka b hb).1 (X.ka b hb).2) X.ki

theorem RR_ro{own w t x A n c F}(h:RR own w t x A n c F):RR false w t x A n c F :=
 RowR_mono (by simp) (fun _ _=>rfl) (fun x cs Fi hF h=>RE_ro h) h

theorem Link_lift{w w':World}{ι ι':Nat→Home}{t:Ty}{xs:List (List t.T)}{sid i:Nat}{A:Option Addr}{n c:Nat}{F:List Nat}(hι:Lift ι ι')(hw:∀k∈F,w'.heap[k]? = w.heap[k]?)(h:Link w ι t xs sid i A n c F):Link w' ι' t xs sid i A n c F:=by
 obtain⟨b,o,arr,e,Fs,G,A',n',c',F',h1,h2,h3,h4,h5,⟨h6,h6'⟩,h7,h8,h9,h10,h11⟩:=h
 refine⟨b,o,arr,e,Fs,G,A',n',c',F',h1,h2,h3,by rw [hw b (by rw [h6];simp),h4],h5,⟨h6,fun k hk => ?_⟩,h7,fun j x Fj hx hF=>RE_frame (fun k hk=>hw k ?_) (h8 j x Fj hx hF),h9,h10,hι.eq h11 (by simp)⟩
 ·have h1:=hw k (by rw [h6];simp [hk])
  have h2:=h6' k hk
  rw [Array.getElem?_eq_getElem h2]at h1
  exact(Array.getElem?_eq_some_iff.1 h1).1
 ·rw [h6]
  exact List.mem_cons_of_mem _ (List.mem_append.2 (.inl (List.mem_flatten.2 ⟨Fj,List.mem_of_getElem? hF,hk⟩)))

theorem RBlk_lift{H H':Nat→Blk}{w w':World}{ι ι':Nat→Home}{b:Blk}{h:Home}(hι:Lift ι ι')(hp:ParOk H' b.par→ParOk H b.par)
  (hw:b.live=true→ParOk H' b.par→∀k∈h.foot,w'.heap[k]? = w.heap[k]?) (hb:RBlk H w ι b h):RBlk H' w' ι' b h:=by
 cases b with
 | unborn=>exact hb
 | dead=>trivial
 | cells l ro =>
  obtain⟨b,o,arr,e,fr,rfl,h1,h2,h3,h4⟩:=hb
  exact⟨b,o,arr,e,fr,rfl,by rw [hw rfl (by intro q hq;simp [Blk.par]at hq) b (by simp [Home.foot]),h1],h2,h3,F2_mono (fun _ _=>RSc_lift hι) h4⟩
 | row t x own ver par =>
  obtain⟨A,n,c,F,rfl,h1⟩:=hb
  exact⟨A,n,c,F,rfl,fun hp'=>RR_frame (hw rfl hp') (h1 (hp hp'))⟩
 | win t x y own ver par =>
  obtain⟨A,n,c,F,rfl,hn,h1⟩:=hb
  exact⟨A,n,c,F,rfl,hn,fun hp'=>RR_frame (hw rfl hp') (h1 (hp hp'))⟩
 | clo l =>
  obtain⟨vs,rfl,h1⟩:=hb
  exact⟨vs,rfl,F2_mono (fun _ _=>RVs_lift hι) h1⟩
 | idx t xs sid i pid ver =>
  obtain⟨A,n,c,F,rfl,h1,h2⟩:=hb
  exact⟨A,n,c,F,rfl,hι.eq h1 (by simp),fun hp'=>Link_lift hι (hw rfl hp') (h2 (hp hp'))⟩
 | sfx sid s2 l sz =>
  obtain⟨⟨vs,rfl⟩,A,n,c,F,F2,h1,h2,h3,h4⟩:=hb
  exact⟨⟨vs,rfl⟩,A,n,c,F,F2,hι.eq h1 (by simp),h2,h3,hι.eq h4 (by simp)⟩
 | hol t xs i =>
  obtain⟨A,n,c,L,rfl,h1⟩:=hb
  exact⟨A,n,c,L,rfl,Hol_frame (hw rfl (by intro q hq;simp [Blk.par]at hq)) h1⟩
 | hof t xs k =>
  obtain⟨A,n,c,L,rfl,h1⟩:=hb
  exact⟨A,n,c,L,rfl,Hof_frame (hw rfl (by intro q hq;simp [Blk.par]at hq)) h1⟩
 | pfx oid k =>
  obtain⟨A,n,c,F,h1,h2,rfl⟩:=hb
  exact⟨A,n,c,F,hι.eq h1 (by simp),h2,rfl⟩
 | pfs oid k sz =>
  obtain⟨A,n,c,F,h1,h2,h3,rfl⟩:=hb
  exact⟨A,n,c,F,hι.eq h1 (by simp),h2,h3,rfl⟩
 | lenB oid n sz =>
  obtain⟨⟨vs,rfl⟩,A,c,F,h1,h2⟩:=hb
  exact⟨⟨vs,rfl⟩,A,c,F,hι.eq h1 (by simp),h2⟩
 | lnk oid j =>
  obtain⟨⟨vs,rfl⟩,A,n,c,F,F',h1,h2⟩:=hb
  exact⟨⟨vs,rfl⟩,A,n,c,F,F',hι.eq h1 (by simp),hι.eq h2 (by simp)⟩

theorem Rel.change{X σ ι a w}(h:Rel X σ ι a w){σ':St}{ι':Nat→Home}{w':World}(D N:Nat→Prop)
  (hT:σ'.T=σ.T) (hι:Lift ι ι') (hsz:WLe w w') (hw:∀b,b<w.heap.size → ¬ D b→w'.heap[b]? = w.heap[b]?)
  (hDX:∀b,D b→b<X.w0.heap.size→b∈X.O)
  (hun:∀id,¬ N id→σ'.H id=σ.H id∧ι' id=ι id)
  (hcl:∀id,¬ N id→(σ.H id).live=true→ParOk σ'.H (σ.H id).par→∀b∈(ι id).foot,¬ D b)
  (hpar:∀id,¬ N id→ParOk σ'.H (σ.H id).par→ParOk σ.H (σ.H id).par)
  (hN:∀id,N id→RBlk σ'.H w' ι' (σ'.H id) (ι' id)∧((σ'.H id).live=true→∀b∈(ι' id).foot,b<w'.heap.size) ∧
   ((σ'.H id).excl=true→(ι' id).foot.Nodup∧(∀b∈(ι' id).foot,X.w0.heap.size≤b∨b∈X.O)∧(σ'.H id).par = []))
  (hs1:∀i j,N i → ¬ N j→(σ'.H i).excl=true→(σ.H j).live=true→ParOk σ'.H (σ.H j).par→i ∉ (σ.H j).par.map (·.1)→∀b∈(ι' i).foot,b ∉ (ι j).foot)
  (hs2:∀i j,¬ N i→N j→(σ.H i).excl=true→(σ'.H j).live=true→ParOk σ'.H (σ'.H j).par→i ∉ (σ'.H j).par.map (·.1)→∀b∈(ι i).foot,b ∉ (ι' j).foot)
  (hs3:∀i j,i≠j→N i→N j→(σ'.H i).excl=true→(σ'.H j).live=true→ParOk σ'.H (σ'.H j).par→i ∉ (σ'.H j).par.map (·.1)→∀b∈(ι' i).foot,b ∉ (ι' j).foot)
  (hpb:∀j,∀q∈(σ'.H j).par,σ'.H q.1 ≠ .unborn)
  (hpv:∀j,∀q∈(σ'.H j).par,∀v,(σ'.H q.1).ver? = some v→q.2≤v):Rel X σ' ι' a w' where
 tm i:=by rw [hT];exact RAV_lift hι (h.tm i)
 sz:=h.sz
 df:=h.df
 bl id:=by
  by_cases hid:N id
  ·exact(hN id hid).1
  ·rw [(hun id hid).1,(hun id hid).2]
   exact RBlk_lift hι (hpar id hid) (fun hl hp k hk=>hw k (h.lt id hl k hk) (hcl id hid hl hp k hk)) (h.bl id)
 lt id hl:=by
  by_cases hid:N id
  ·exact(hN id hid).2.1 hl
  ·rw [(hun id hid).1]at hl
   rw [(hun id hid).2]
   exact fun b hb=>Nat.lt_of_lt_of_le (h.lt id hl b hb) hsz.le
 nd id hl:=by
  by_cases hid:N id
  ·exact((hN id hid).2.2 hl).1
  ·rw [(hun id hid).1]at hl
   rw [(hun id hid).2]
   exact h.nd id hl
 sep i j hij hi hj hp hr:=by
  by_cases hNi:N i <;> by_cases hNj:N j
  ·exact hs3 i j hij hNi hNj hi hj hp hr
  ·rw [(hun j hNj).1]at hj hp hr
   rw [(hun j hNj).2]
   exact hs1 i j hNi hNj hi hj hp hr
  ·rw [(hun i hNi).1]at hi
   rw [(hun i hNi).2]
   exact hs2 i j hNi hNj hi hj hp hr
  ·rw [(hun j hNj).1]at hj hp hr
   rw [(hun i hNi).1]at hi
   rw [(hun i hNi).2,(hun j hNj).2]
   exact h.sep i j hij hi hj (hpar j hNj hp) hr
 fr b hb hO:=by
  rw [hw b (Nat.lt_of_lt_of_le hb h.le.le) (fun hD=>hO (hDX b hD hb))]
  exact h.fr b hb hO
 le:=h.le.trans hsz
 mu id hl:=by
  by_cases hid:N id
  ·exact((hN id hid).2.2 hl).2.1
  ·rw [(hun id hid).1]at hl
   rw [(hun id hid).2]
   exact h.mu id hl
 pb:=hpb
 pv:=hpv
 pn q hq:=⟨by rw [hι q.1 (by rw [(h.pn q hq).1];exact(h.pn q hq).2)];exact(h.pn q hq).1,(h.pn q hq).2⟩
 po id hl:=by
  by_cases hid:N id
  ·exact((hN id hid).2.2 hl).2.2
  ·rw [(hun id hid).1]at hl ⊢
   exact h.po id hl

theorem Rel.heap{X σ ι a w w'}(h:Rel X σ ι a w)(e:w'.heap=w.heap)(e1:w'.os=w.os)(e2:w'.output=w.output)(e3:w'.tape=w.tape):Rel X σ ι a w' where
 tm:=h.tm
 sz:=h.sz
 df:=h.df
 bl id:=RBlk_lift (fun _ _=>rfl) (fun x=>x) (fun _ _ k _=>by rw [e]) (h.bl id)
 lt:=by rw [e];exact h.lt
 nd:=h.nd
 sep:=h.sep
 fr:=by rw [e];exact h.fr
 le:=h.le.trans ⟨by rw [e];exact Nat.le_refl _,e1,e2,e3⟩
 mu:=h.mu
 pb:=h.pb
 pv:=h.pv
 pn:=h.pn
 po:=h.po

theorem Rel.put{X σ ι a w}(h:Rel X σ ι a w){d:Nat}{v:AV}{u:Value}(hd:d<X.C.ntmps)(hv:RAV ι v u) :
  Rel X (σ.setT d v) ι (a.put (some d) u) w where
 tm i:=by
  simp only [St.setT,Act.put]
  by_cases e:i=d
  ·subst e
   have:i<a.tmps.size:=by rw [h.sz];exact hd
   simp [this]
   exact hv
  ·have e1:Nat.beq i d=false:=by rw [Bool.eq_false_iff];intro hb;exact e (Nat.eq_of_beq_eq_true hb)
   have e2:d≠i:=fun e'=>e e'.symm
   rw [e1]
   simp only [cond_false]
   rw [Array.getD_eq_getD_getElem?,Array.getElem?_setIfInBounds_ne e2,←Array.getD_eq_getD_getElem?]
   exact h.tm i
 sz:=by simp [Act.put,h.sz]
 df:=h.df
 bl:=h.bl
 lt:=h.lt
 nd:=h.nd
 sep:=h.sep
 fr:=h.fr
 le:=h.le
 mu:=h.mu
 pb:=h.pb
 pv:=h.pv
 pn:=h.pn
 po:=h.po
end Go.Ev
namespace Go.Ev
open Go
variable [KSl]

section
variable {X : Ctx} {σ : St} {ι : Nat → Home} {a : Act} {w : World} {α : Type}

theorem F2_plain{ι:Nat→Home}:∀ {l:List Value},l.all (·.oneCell')=true→F2 (RSc ι) (l.map .v) l
 | [],_=>trivial
 | x::l,h=>by
  simp at h
  exact⟨⟨rfl,h.1⟩,F2_plain (by simpa using h.2)⟩

theorem opndR_run(hR:Rel X σ ι a w){x:Operand}{k:AV→Pg α}{r:α×St}(h:(opndR x k).run σ=some r) :
  ∃av,RAV ι av (a.eval x)∧(k av).run σ=some r:=by
 unfold opndR at h
 cases x with
 | tmp t=>exact⟨σ.T t,hR.tm t,h⟩
 | const v =>
  cases v with
  | agg cs =>
   simp only at h
   cases hc:cs.toList.all (·.oneCell')with
   | false=>rw [hc]at h;cases h
   | true =>
    rw [hc]at h
    refine⟨_,?_,h⟩
    exact⟨cs,rfl,F2_plain hc⟩
  | tuple vs=>cases h
  | _=>exact⟨_,RAV_v.2 ⟨rfl,rfl⟩,h⟩
 | global g=>exact⟨_,RAV_v.2 ⟨rfl,rfl⟩,h⟩
 | func f=>exact⟨_,RAV_v.2 ⟨rfl,rfl⟩,h⟩

theorem weak_run{av:AV}{v:Value}(h:RAV ι av v):RAV ι (weak av) v:=by
 unfold weak
 split
 ·obtain⟨A,n,c,F,e,r,_⟩:=RAV_sc.1 h
  exact RAV_sc.2 ⟨A,n,c,F,e,r⟩
 ·obtain⟨A,n,F,e,r⟩:=RAV_sc.1 h
  exact RAV_sc.2 ⟨A,n,n,F,e,r⟩
 ·exact h

theorem weak1_run{av:AV}{v:Value}(h:RAV ι av v):RAV ι (weak1 av) v:=by
 unfold weak1
 split
 ·obtain⟨A,n,c,F,e,r,_⟩:=RAV_sc.1 h
  exact RAV_sc.2 ⟨A,n,c,F,e,r⟩
 ·exact h

theorem opnd1_run(hR:Rel X σ ι a w){x:Operand}{k:AV→Pg α}{r:α×St}(h:(opnd1 x k).run σ=some r) :
  ∃av,RAV ι av (a.eval x)∧(k av).run σ=some r:=by
 obtain⟨av,h1,h2⟩:=opndR_run hR h
 exact⟨weak1 av,weak1_run h1,h2⟩

theorem opnd_run(hR:Rel X σ ι a w){x:Operand}{k:AV→Pg α}{r:α×St}(h:(opnd x k).run σ=some r) :
  ∃av,RAV ι av (a.eval x)∧(k av).run σ=some r:=by
 obtain⟨av,h1,h2⟩:=opndR_run hR h
 exact⟨weak av,weak_run h1,h2⟩

theorem opnds_run(hR:Rel X σ ι a w){r:α×St}:∀ {l:List Operand} {k:List AV→Pg α},(opnds l k).run σ=some r →
  ∃avs,F2 (RAV ι) avs (l.map a.eval)∧(k avs).run σ=some r
 | [],k,h=>⟨[],trivial,h⟩
 | x::l,k,h=>by
  obtain⟨av,h1,h⟩:=opnd_run hR h
  obtain⟨avs,h2,h⟩:=opnds_run hR h
  exact⟨av::avs,⟨h1,h2⟩,h⟩

theorem putD_run(hR:Rel X σ ι a w){dst:Option Tmp}{v:AV}{u:Value}{k:Pg α}{r:α×St}(hv:RAV ι v u)
  (h:(putD X.C dst v k).run σ=some r):∃σ1,Rel X σ1 ι (a.put dst u) w∧k.run σ1=some r:=by
 unfold putD at h
 cases dst with
 | none=>exact⟨σ,hR,h⟩
 | some d =>
  simp only at h
  cases hd:Nat.ble X.C.ntmps d with
  | true=>rw [hd]at h;cases h
  | false =>
   rw [hd]at h
   have hlt:d<X.C.ntmps:=by
    have h1 : ¬ X.C.ntmps≤d:=fun hle=>by rw [Nat.ble_eq_true_of_le hle]at hd;cases hd
    exact Nat.lt_of_not_le h1
   exact⟨_,hR.put hlt hv,h⟩

def Done(X:Ctx)(o:Oper)(σ':St)(a:Act)(w:World):Prop :=
 ∀(K:Act→World→Prop) (Q:Exit→Act→World→Prop),(∀ι' a' w',Rel X σ' ι' a' w'→K a' w')→o.upon X.C.P a K Q ((execOp a.eval o).run X.C.P w)

theorem Done.value{o:Oper}{σ':St}{v:Value}{w':World}{ι':Nat→Home}(h:(execOp a.eval o).run X.C.P w = .ok (.value v) w')(hR:Rel X σ' ι' (a.put o.dst v) w'):Done X o σ' a w:=by
 intro K Q hK
 rw [h]
 exact hK _ _ _ hR

theorem Done.skip{o:Oper}{σ':St}{w':World}{ι':Nat→Home}(h:(execOp a.eval o).run X.C.P w = .ok .skip w')(hR:Rel X σ' ι' (a.put o.dst undef) w'):Done X o σ' a w:=by
 intro K Q hK
 rw [h]
 exact hK _ _ _ hR

theorem Done.put{o:Oper}{σ1 σ':St}{v:AV}{u:Value}{w':World}{ι':Nat→Home}(hR:Rel X σ1 ι' a w')(hv:RAV ι' v u)
  (he:(execOp a.eval o).run X.C.P w = .ok (.value u) w') (h:(putD X.C o.dst v (.ret ())).run σ1=some ((),σ')):Done X o σ' a w:=by
 obtain⟨σ2,hR2,h⟩:=putD_run hR hv h
 simp [Pg.run]at h
 subst h
 exact Done.value he hR2

def upd(ι:Nat→Home)(id:Nat)(h:Home):Nat→Home:=fun j=>if j=id then h else ι j

theorem beq_false{i j:Nat}(h:i≠j):Nat.beq i j=false:=by rw [Bool.eq_false_iff];intro hb;exact h (Nat.eq_of_beq_eq_true hb)
theorem setH_same(σ:St)(id:Nat)(b:Blk):(σ.setH id b).H id=b:=by simp [St.setH,Nat.beq_refl]
theorem setH_ne(σ:St){id j:Nat}(b:Blk)(h:j≠id):(σ.setH id b).H j=σ.H j:=by simp [St.setH,beq_false h]
theorem upd_same(ι:Nat→Home)(id:Nat)(h:Home):upd ι id h id=h:=by simp [upd]
theorem upd_ne(ι:Nat→Home){id j:Nat}(h:Home)(e:j≠id):upd ι id h j=ι j:=by simp [upd,e]

theorem Rel.unborn(hR:Rel X σ ι a w){id:Nat}(h:σ.H id = .unborn):ι id = .none:=by
 have:=hR.bl id
 rw [h]at this
 exact this

theorem Rel.newId(hR:Rel X σ ι a w){id:Nat}(hu:σ.H id = .unborn){blk:Blk}{home:Home}{w':World}
  (hsz:WLe w w') (hw:∀b,b<w.heap.size→w'.heap[b]? = w.heap[b]?)
  (hb:ParOk σ.H blk.par→RBlk σ.H w' ι blk home) (hb':blk.par ≠ []→∀H w ι',Lift ι ι'→(ParOk H blk.par→False)→RBlk H w ι' blk home)
  (hlt:blk.live=true→∀b∈home.foot,b<w'.heap.size)
  (hex:blk.excl=true→home.foot.Nodup∧(∀b∈home.foot,w.heap.size≤b)∧blk.par = [])
  (hs2:∀i,(σ.H i).excl=true→blk.live=true→ParOk σ.H blk.par→i ∉ blk.par.map (·.1)→∀b∈(ι i).foot,b ∉ home.foot)
  (hpb:∀q∈blk.par,σ.H q.1 ≠ .unborn)
  (hpv:∀q∈blk.par,∀v,(σ.H q.1).ver? = some v→q.2≤v)
  (hnb:blk ≠ .unborn) :
  Rel X (σ.setH id blk) (upd ι id home) a w':=by
 have hn:ι id = .none:=hR.unborn hu
 have hL:Lift ι (upd ι id home):=fun j hj=>upd_ne ι home (fun e=>hj (e ▸ hn))
 have hne:∀j,∀q∈(σ.H j).par,q.1≠id:=fun j q hq e=>hR.pb j q hq (e ▸ hu)
 have hne':∀q∈blk.par,q.1≠id:=fun q hq e=>hpb q hq (e ▸ hu)
 have hP:∀par:List (Nat×Nat),(∀q∈par,q.1≠id)→(ParOk (σ.setH id blk).H par↔ParOk σ.H par):=by
  intro par hp
  constructor
  ·intro h q hq;have:=h q hq;rwa [setH_ne σ blk (hp q hq)]at this
  ·intro h q hq;rw [setH_ne σ blk (hp q hq)];exact h q hq
 refine hR.change (D:=fun _=>False) (N:=fun j=>j=id) rfl hL hsz (fun b hb _=>hw b hb) (fun b hb=>hb.elim) (fun j hj=>⟨setH_ne σ blk hj,upd_ne ι home hj⟩)
  (fun _ _ _ _ _ _ h=>h) (fun j hj h=>(hP _ (hne j)).1 h) ?_ ?_ ?_ ?_ ?_ ?_
 ·rintro j rfl
  rw [setH_same,upd_same]
  refine⟨?_,hlt,fun he=>⟨(hex he).1,fun b hb => .inl (Nat.le_trans hR.le.le ((hex he).2.1 b hb)),(hex he).2.2⟩⟩
  by_cases hp:ParOk σ.H blk.par
  ·exact RBlk_lift hL (fun _=>hp) (fun _ _ _ _=>rfl) (hb hp)
  ·by_cases hnil:blk.par = []
   ·exact absurd (by rw [hnil];intro q hq;simp at hq) hp
   ·exact hb' hnil _ _ _ hL (fun h=>hp ((hP _ hne').1 h))
 ·rintro i j rfl hj hi hl hp hr b hb hb2
  rw [setH_same]at hi
  rw [upd_same]at hb
  have h1:=(hex hi).2.1 b hb
  have h2:=hR.lt j hl b hb2
  omega
 ·rintro i j hi rfl he hl hp hr
  rw [setH_same]at hl hp hr
  rw [upd_same]
  exact hs2 i he hl ((hP _ hne').1 hp) hr
 ·rintro i j hij rfl rfl
  exact absurd rfl hij
 ·intro j q hq
  by_cases hj:j=id
  ·subst hj
   rw [setH_same]at hq
   rw [setH_ne σ blk (hne' q hq)]
   exact hpb q hq
  ·rw [setH_ne σ blk hj]at hq
   rw [setH_ne σ blk (hne j q hq)]
   exact hR.pb j q hq
 ·intro j q hq
  by_cases hj:j=id
  ·subst hj
   rw [setH_same]at hq
   rw [setH_ne σ blk (hne' q hq)]
   exact hpv q hq
  ·rw [setH_ne σ blk hj]at hq
   rw [setH_ne σ blk (hne j q hq)]
   exact hR.pv j q hq

theorem Rel.newOwn(hR:Rel X σ ι a w){id:Nat}(hu:σ.H id = .unborn){blk:Blk}{home:Home}{w':World}
  (hsz:WLe w w') (hw:∀b,b<w.heap.size→w'.heap[b]? = w.heap[b]?)
  (hb:RBlk σ.H w' ι blk home) (hp:blk.par = []) (hlt:∀b∈home.foot,b<w'.heap.size) (hnd:home.foot.Nodup) (hfr:∀b∈home.foot,w.heap.size≤b) (hnb:blk ≠ .unborn) :
  Rel X (σ.setH id blk) (upd ι id home) a w':=by
 refine hR.newId hu hsz hw (fun _=>hb) (fun h=>absurd hp h) (fun _=>hlt) (fun _=>⟨hnd,hfr,hp⟩) ?_ ?_ ?_ hnb
 ·intro i he _ _ _ b hb1 hb2
  have h1:=hfr b hb2
  have h2:=hR.lt i (by cases hi:σ.H i <;> simp_all [Blk.excl,Blk.live]) b hb1
  omega
 ·rw [hp];simp
 ·rw [hp];simp

theorem push_lt{w:World}{o:Obj}{b:Nat}(h:b<w.heap.size):({ w with heap:=w.heap.push o }:World).heap[b]? = w.heap[b]? := by
 simp [Array.getElem?_push,Nat.ne_of_lt h]

theorem Rel.newCells(hR:Rel X σ ι a w){id:Nat}(hu:σ.H id = .unborn){l:List Sc}{arr:Array Value}{e:TypeId}(hl:F2 (RSc ι) l arr.toList) :
  Rel X (σ.setH id (.cells l false)) (upd ι id (.blk w.heap.size 0)) a { w with heap:=w.heap.push (.cells arr e) }:=by
 refine hR.newOwn hu ⟨by simp,rfl,rfl,rfl⟩ (fun b hb=>push_lt hb) ⟨w.heap.size,0,arr,e,(0,0),rfl,by simp,fun _=>⟨rfl,rfl,by have:=F2_len hl;simpa using this⟩,by have:=F2_len hl;simp at this;omega,by have:=F2_len hl;rw [List.drop_zero,this,List.take_length];exact hl⟩ rfl (by simp [Home.foot]) (by simp [Home.foot]) (by simp [Home.foot]) (by simp)

theorem newB_run{id:Nat}{b:Blk}{k:Pg α}{r:α×St}(h:(newB id b k).run σ=some r):σ.H id = .unborn∧k.run (σ.setH id b)=some r:=by
 simp only [newB,Pg.run]at h
 cases hb:σ.H id <;> rw [hb]at h <;> first | exact⟨rfl,h⟩ | cases h

theorem getB_run{id:Nat}{k:Blk→Pg α}{r:α×St}(h:(Pg.getB id k).run σ=some r):(k (σ.H id)).run σ=some r:=h

theorem F2_all{l:List Value}{ι:Nat→Home}:F2 (RSc ι) (l.map .v) l→l.all (·.oneCell')=true:=by
 induction l with
 | nil=>simp
 | cons x l ih=>intro h;simp;exact⟨h.1.2,by simpa using ih h.2⟩
end
end Go.Ev
namespace Go.Ev
open Go
variable [KSl]

section
variable {X : Ctx} {σ : St} {ι : Nat → Home} {a : Act} {w : World} {α : Type}

theorem chkPar_run:∀ {par:List (Nat×Nat)} {k:Pg α} {r:α×St},(chkPar par k).run σ=some r→ParOk σ.H par∧k.run σ=some r
 | [],k,r,h=>⟨by intro q hq;simp at hq,h⟩
 | (p,v)::l,k,r,h=>by
  simp only [chkPar,Pg.run]at h
  cases hb:σ.H p with
  | row t x own v' par' =>
   rw [hb]at h
   cases own with
   | false=>cases h
   | true =>
    simp only at h
    cases hv:Nat.beq v v' with
    | false=>rw [hv]at h;cases h
    | true =>
     rw [hv]at h
     obtain⟨h1,h2⟩:=chkPar_run h
     refine⟨fun q hq => ?_,h2⟩
     rcases List.mem_cons.1 hq with rfl | hq
     ·exact⟨t,x,par',by rw [hb,Nat.eq_of_beq_eq_true hv]⟩
     ·exact h1 q hq
  | _=>rw [hb]at h;cases h

theorem castRow_some{t t':Ty}{x:List t.T}{y:List t'.T}(h:castRow t t' x=some y):∃e:t=t',y=e ▸ x:=by
 unfold castRow at h
 split at h
 ·rename_i e
  subst e
  exact⟨rfl,by simpa using h.symm⟩
 ·cases h

theorem castL_some{t t':Ty}{x:List t.T}{y:List t'.T}(h:castL t t' x=some y){own:Bool}{w:World}{A:Option Addr}{n c:Nat}{F:List Nat}(hr:RR own w t x A n c F):RR own w t' y A n c F:=by
 unfold castL at h
 split at h
 ·rename_i e
  subst e
  cases h
  exact hr
 ·split at h
  ·rename_i f hf
   cases h
   unfold RR
   rw [←castF_size hf]
   exact RowR_map (R:=RE own w t) (fun x cs Fi=>RE_cast hf) hr
  ·cases h

theorem RR_pre{own:Bool}{w:World}{t:Ty}{x y:List t.T}{A:Option Addr}{n c:Nat}{F:List Nat}(hn:n=x.length)(h:RR own w t (x++y) A (x++y).length c F):RR own w t x A n c F:=by
 rw [hn]
 exact RowR_pre (R:=RE own w t) (fun x cs Fi h=>RE_lt h) h

theorem win_of(hR:Rel X σ ι a w){id:Nat}{ty:Ty}{xs ys:List ty.T}{own:Bool}{ver:Nat}{par:List (Nat×Nat)}(hb:σ.H id = .win ty xs ys own ver par)(hp:ParOk σ.H par)
  {A:Option Addr} {n c:Nat} {F:List Nat} (e:ι id = .row A n c F):n=xs.length∧RR own w ty (xs++ys) A (xs++ys).length c F:=by
 have hbl:=hR.bl id
 rw [hb]at hbl
 obtain⟨A',n',c',F',h1,h2,h3⟩:=hbl
 rw [e]at h1
 cases h1
 exact⟨h2,h3 hp⟩

def UOk(σ:St)(ι:Nat→Home)(u:List Nat)(F:List Nat):Prop :=
 ∀b∈F,∃id∈u,b∈(ι id).foot∧(σ.H id).live=true∧ParOk σ.H (σ.H id).par∧∀p∈(σ.H id).par.map (·.1),p∈u

theorem UOk.mono{u u' F:List Nat}(h:UOk σ ι u F)(hu:∀i∈u,i∈u'):UOk σ ι u' F:=by
 intro b hb
 obtain⟨id,h1,h2,h3,h4,h5⟩:=h b hb
 exact⟨id,hu _ h1,h2,h3,h4,fun p hp=>hu _ (h5 p hp)⟩
theorem UOk.append{u u' F F':List Nat}(h:UOk σ ι u F)(h':UOk σ ι u' F'):UOk σ ι (u++u') (F++F'):=by
 intro b hb
 rcases List.mem_append.1 hb with hb | hb
 ·exact h.mono (fun i hi=>List.mem_append.2 (.inl hi)) b hb
 ·exact h'.mono (fun i hi=>List.mem_append.2 (.inr hi)) b hb
theorem UOk.nil{u:List Nat}:UOk σ ι u []:=fun b hb=>by simp at hb

theorem rdT_run(hR:Rel X σ ι a w):∀ {t:Ty} {l:List Sc} {vs:List Value} {k:t.T→List Sc→List Nat→Pg α} {r:α×St},(rdT t l k).run σ=some r→F2 (RSc ι) l vs →
  ∃x rest u vs1 vs2 F,vs=vs1++vs2∧F2 (RSc ι) rest vs2∧RE false w t x vs1 F∧UOk σ ι u F∧(k x rest u).run σ=some r
 | .unit,l,vs,k,r,h,hl=>⟨(),l,[],[],vs,[],rfl,hl,⟨rfl,rfl⟩,UOk.nil,h⟩
 | .int q,l,vs,k,r,h,hl=>by
  unfold rdT at h
  split at h
  ·rename_i q' n l
   split at h
   ·rename_i e
    subst e
    cases vs with
    | nil=>exact hl.elim
    | cons v vs =>
     obtain⟨⟨rfl,_⟩,hl⟩:=hl
     exact⟨n,l,[],[_],vs,[],rfl,hl,⟨rfl,rfl⟩,UOk.nil,h⟩
   ·cases h
  ·cases h
 | .bool,l,vs,k,r,h,hl=>by
  unfold rdT at h
  split at h
  ·rename_i n l
   cases vs with
   | nil=>exact hl.elim
   | cons v vs =>
    obtain⟨⟨rfl,_⟩,hl⟩:=hl
    exact⟨n,l,[],[_],vs,[],rfl,hl,⟨rfl,rfl⟩,UOk.nil,h⟩
  ·cases h
 | .str,l,vs,k,r,h,hl=>by
  unfold rdT at h
  split at h
  ·rename_i n l
   cases vs with
   | nil=>exact hl.elim
   | cons v vs =>
    obtain⟨⟨rfl,_⟩,hl⟩:=hl
    exact⟨n,l,[],[_],vs,[],rfl,hl,⟨rfl,rfl⟩,UOk.nil,h⟩
  ·cases h
 | .ks,l,vs,k,r,h,hl=>by
  unfold rdT at h
  split at h
  ·rename_i l
   cases vs with
   | nil=>exact hl.elim
   | cons v vs =>
    obtain⟨rfl,hl⟩:=hl
    exact⟨(),l,[],[_],vs,[],rfl,hl,⟨rfl,rfl⟩,UOk.nil,h⟩
  ·cases h
 | .pair ta tb,l,vs,k,r,h,hl=>by
  unfold rdT at h
  obtain⟨x,rest,u,vs1,vs2,F,rfl,hl2,h1,h2,h⟩:=rdT_run hR h hl
  obtain⟨y,rest',u',vs3,vs4,F',rfl,hl3,h3,h4,h⟩:=rdT_run hR h hl2
  exact⟨(x,y),rest',u++u',vs1++vs3,vs4,F++F',by simp,hl3,⟨vs1,vs3,F,F',rfl,rfl,h1,h3⟩,h2.append h4,h⟩
 | .sl t,l,vs,k,r,h,hl=>by
  unfold rdT at h
  split at h
  ·rename_i l
   cases vs with
   | nil=>exact hl.elim
   | cons v vs =>
    obtain⟨⟨rfl,_⟩,hl⟩:=hl
    exact⟨[],l,[],[_],vs,[],rfl,hl,⟨none,0,0,rfl,rfl,Nat.le_refl _,.inl ⟨rfl,rfl,fun h=>by cases h⟩⟩,UOk.nil,h⟩
  ·rename_i id l
   replace h:=getB_run h
   cases vs with
   | nil=>exact hl.elim
   | cons v vs =>
    obtain⟨⟨A,n,c,F,hι,rfl⟩,hl⟩:=hl
    split at h
    ·rename_i t' x own ver par hb
     split at h
     ·rename_i y hy
      obtain⟨hp,h⟩:=chkPar_run h
      have hbl:=hR.bl id
      rw [hb,hι]at hbl
      obtain⟨A',n',c',F',e,hrow⟩:=hbl
      cases e
      refine⟨_,l,_,[_],vs,F,rfl,hl,⟨A,n,c,rfl,castL_some hy (RR_ro (hrow hp))⟩,?_,h⟩
      intro b hbF
      exact⟨id,by simp,by rw [hι];exact hbF,by rw [hb];rfl,by rw [hb];exact hp,fun p hpp=>by rw [hb]at hpp;exact List.mem_cons_of_mem _ hpp⟩
     ·cases h
    ·rename_i t' x x2 own ver par hb
     split at h
     ·rename_i y hy
      obtain⟨hp,h⟩:=chkPar_run h
      obtain⟨hn,hrow⟩:=win_of hR hb hp hι
      refine⟨_,l,_,[_],vs,F,rfl,hl,⟨A,n,c,rfl,castL_some hy (RR_pre hn (RR_ro hrow))⟩,?_,h⟩
      intro b hbF
      exact⟨id,by simp,by rw [hι];exact hbF,by rw [hb];rfl,by rw [hb];exact hp,fun p hpp=>by rw [hb]at hpp;exact List.mem_cons_of_mem _ hpp⟩
     ·cases h
    ·cases h
  ·cases h
 | .rm t,l,vs,k,r,h,hl=>by
  unfold rdT at h
  split at h
  ·rename_i l
   cases vs with
   | nil=>exact hl.elim
   | cons v vs =>
    obtain⟨⟨rfl,_⟩,hl⟩:=hl
    exact⟨([],[]),l,[],[_],vs,[],rfl,hl,⟨none,0,0,rfl,rfl,rfl,Nat.le_refl _,.inl ⟨rfl,rfl,fun h=>by cases h⟩⟩,UOk.nil,h⟩
  ·rename_i id l
   replace h:=getB_run h
   cases vs with
   | nil=>exact hl.elim
   | cons v vs =>
    obtain⟨⟨A,n,c,F,hι,rfl⟩,hl⟩:=hl
    split at h
    ·rename_i t' x own ver par hb
     split at h
     ·rename_i y hy
      obtain⟨rfl,rfl⟩:=castRow_some hy
      obtain⟨hp,h⟩:=chkPar_run h
      have hbl:=hR.bl id
      rw [hb,hι]at hbl
      obtain⟨A',n',c',F',e,hrow⟩:=hbl
      cases e
      have hrow:=RR_ro (hrow hp)
      refine⟨_,l,_,[_],vs,F,rfl,hl,⟨A,n,c,rfl,hrow.1,by simp only [List.append_nil];rw [←hrow.1];exact hrow⟩,?_,h⟩
      intro b hbF
      exact⟨id,by simp,by rw [hι];exact hbF,by rw [hb];rfl,by rw [hb];exact hp,fun p hpp=>by rw [hb]at hpp;exact List.mem_cons_of_mem _ hpp⟩
     ·cases h
    ·rename_i t' x x2 own ver par hb
     split at h
     ·rename_i y y2 hy hy2
      obtain⟨rfl,rfl⟩:=castRow_some hy
      obtain⟨_,rfl⟩:=castRow_some hy2
      obtain⟨hp,h⟩:=chkPar_run h
      obtain⟨hn,hrow⟩:=win_of hR hb hp hι
      refine⟨_,l,_,[_],vs,F,rfl,hl,⟨A,n,c,rfl,hn,RR_ro hrow⟩,?_,h⟩
      intro b hbF
      exact⟨id,by simp,by rw [hι];exact hbF,by rw [hb];rfl,by rw [hb];exact hp,fun p hpp=>by rw [hb]at hpp;exact List.mem_cons_of_mem _ hpp⟩
     ·cases h
    ·cases h
  ·cases h

structure Free(X:Ctx)(σ:St)(ι:Nat→Home)(w:World)(F:List Nat):Prop where
 away:∀id,(σ.H id).live=true→ParOk σ.H (σ.H id).par→∀b∈F,b ∉ (ι id).foot
 lt:∀b∈F,b<w.heap.size
 mu:∀b∈F,X.w0.heap.size≤b∨b∈X.O
 nd:F.Nodup

theorem Free.nil:Free X σ ι w []:=⟨fun _ _ _ b hb=>by simp at hb,fun b hb=>by simp at hb,fun b hb=>by simp at hb,.nil⟩

theorem ParOk_kill{σ:St}{id:Nat}{par:List (Nat×Nat)}(h:ParOk (σ.setH id .dead).H par):ParOk σ.H par∧id ∉ par.map (·.1):=by
 have:∀q∈par,q.1≠id:=by
  intro q hq e
  obtain⟨t,x,p,h⟩:=h q hq
  rw [e,setH_same]at h
  cases h
 refine⟨fun q hq => ?_,fun hm => ?_⟩
 ·have:=h q hq
  rwa [setH_ne σ _ (‹∀q∈par,q.1≠id› q hq)]at this
 ·obtain⟨q,hq,rfl⟩:=List.mem_map.1 hm
  exact this q hq rfl

theorem Rel.kill(hR:Rel X σ ι a w){id:Nat}(hb:σ.H id ≠ .unborn):Rel X (σ.setH id .dead) ι a w:=by
 refine hR.change (D:=fun _=>False) (N:=fun j=>j=id) rfl (fun _ _=>rfl) (WLe.refl _) (fun _ _ _=>rfl) (fun b hb=>hb.elim) (fun j hj=>⟨setH_ne σ _ hj,rfl⟩)
  (fun _ _ _ _ _ _ h=>h) (fun j hj h=>(ParOk_kill h).1) ?_ ?_ ?_ ?_ ?_ ?_
 ·rintro j rfl
  rw [setH_same]
  exact⟨trivial,(fun h=>by cases h),(fun h=>by cases h)⟩
 ·rintro i j rfl hj hi
  rw [setH_same]at hi;cases hi
 ·rintro i j hi rfl he hl
  rw [setH_same]at hl;cases hl
 ·rintro i j hij rfl rfl
  exact absurd rfl hij
 ·intro j q hq
  by_cases hj:j=id
  ·subst hj;rw [setH_same]at hq;simp [Blk.par]at hq
  ·rw [setH_ne σ _ hj]at hq
   by_cases e:q.1=id
   ·rw [e,setH_same];simp
   ·rw [setH_ne σ _ e];exact hR.pb j q hq
 ·intro j q hq ver he
  by_cases hj:j=id
  ·subst hj;rw [setH_same]at hq;simp [Blk.par]at hq
  ·rw [setH_ne σ _ hj]at hq
   by_cases e:q.1=id
   ·rw [e,setH_same]at he;cases he
   ·rw [setH_ne σ _ e]at he;exact hR.pv j q hq ver he

theorem kill_H{σ:St}{id j:Nat}(h:((σ.setH id .dead).H j).live=true):j≠id∧(σ.setH id .dead).H j=σ.H j:=by
 have:j≠id:=fun e=>by rw [e,setH_same]at h;cases h
 exact⟨this,setH_ne σ _ this⟩

theorem Free.kill{F:List Nat}(hF:Free X σ ι w F)(id:Nat):Free X (σ.setH id .dead) ι w F where
 away j hl hp b hb:=by
  obtain⟨hj,e⟩:=kill_H hl
  rw [e]at hl hp
  exact hF.away j hl (ParOk_kill hp).1 b hb
 lt:=hF.lt
 mu:=hF.mu
 nd:=hF.nd

theorem Free.give{F:List Nat}(hR:Rel X σ ι a w)(hF:Free X σ ι w F){id:Nat}(he:(σ.H id).excl=true):Free X (σ.setH id .dead) ι w (F++(ι id).foot) where
 away j hl hp b hb:=by
  obtain⟨hj,e⟩:=kill_H hl
  rw [e]at hl hp
  rcases List.mem_append.1 hb with hb | hb
  ·exact hF.away j hl (ParOk_kill hp).1 b hb
  ·exact hR.sep id j hj.symm he hl (ParOk_kill hp).1 (ParOk_kill hp).2 b hb
 lt b hb:=by
  rcases List.mem_append.1 hb with hb | hb
  ·exact hF.lt b hb
  ·exact hR.lt id (by cases hi:σ.H id <;> simp_all [Blk.excl,Blk.live]) b hb
 mu b hb:=by
  rcases List.mem_append.1 hb with hb | hb
  ·exact hF.mu b hb
  ·exact hR.mu id he b hb
 nd:=by
  rw [List.nodup_append]
  exact⟨hF.nd,hR.nd id he,fun x hx y hy e=>hF.away id (by cases hi:σ.H id <;> simp_all [Blk.excl,Blk.live]) (by rw [hR.po id he];intro q hq;simp at hq) x hx (e ▸ hy)⟩

theorem rdO_run:∀ {t:Ty} {σ:St} {F0:List Nat} {l:List Sc} {vs:List Value} {k:t.T→List Sc→Pg α} {r:α×St},Rel X σ ι a w→Free X σ ι w F0→(rdO t l k).run σ=some r→F2 (RSc ι) l vs →
  ∃x rest σ1 vs1 vs2 F,vs=vs1++vs2∧F2 (RSc ι) rest vs2∧RE true w t x vs1 F∧Rel X σ1 ι a w∧Free X σ1 ι w (F0++F)∧(k x rest).run σ1=some r
 | .unit,σ,F0,l,vs,k,r,hR,hF,h,hl=>⟨(),l,σ,[],vs,[],rfl,hl,⟨rfl,rfl⟩,hR,by simpa using hF,h⟩
 | .int q,σ,F0,l,vs,k,r,hR,hF,h,hl=>by
  unfold rdO at h
  split at h
  ·rename_i q' n l
   split at h
   ·rename_i e
    subst e
    cases vs with
    | nil=>exact hl.elim
    | cons v vs =>
     obtain⟨⟨rfl,_⟩,hl⟩:=hl
     exact⟨n,l,σ,[_],vs,[],rfl,hl,⟨rfl,rfl⟩,hR,by simpa using hF,h⟩
   ·cases h
  ·cases h
 | .bool,σ,F0,l,vs,k,r,hR,hF,h,hl=>by
  unfold rdO at h
  split at h
  ·rename_i n l
   cases vs with
   | nil=>exact hl.elim
   | cons v vs =>
    obtain⟨⟨rfl,_⟩,hl⟩:=hl
    exact⟨n,l,σ,[_],vs,[],rfl,hl,⟨rfl,rfl⟩,hR,by simpa using hF,h⟩
  ·cases h
 | .str,σ,F0,l,vs,k,r,hR,hF,h,hl=>by
  unfold rdO at h
  split at h
  ·rename_i n l
   cases vs with
   | nil=>exact hl.elim
   | cons v vs =>
    obtain⟨⟨rfl,_⟩,hl⟩:=hl
    exact⟨n,l,σ,[_],vs,[],rfl,hl,⟨rfl,rfl⟩,hR,by simpa using hF,h⟩
  ·cases h
 | .ks,σ,F0,l,vs,k,r,hR,hF,h,hl=>by
  unfold rdO at h
  split at h
  ·rename_i l
   cases vs with
   | nil=>exact hl.elim
   | cons v vs =>
    obtain⟨rfl,hl⟩:=hl
    exact⟨(),l,σ,[_],vs,[],rfl,hl,⟨rfl,rfl⟩,hR,by simpa using hF,h⟩
  ·cases h
 | .pair ta tb,σ,F0,l,vs,k,r,hR,hF,h,hl=>by
  unfold rdO at h
  obtain⟨x,rest,σ1,vs1,vs2,F,rfl,hl2,h1,hR1,hF1,h⟩:=rdO_run hR hF h hl
  obtain⟨y,rest',σ2,vs3,vs4,F',rfl,hl3,h3,hR2,hF2,h⟩:=rdO_run hR1 hF1 h hl2
  exact⟨(x,y),rest',σ2,vs1++vs3,vs4,F++F',by simp,hl3,⟨vs1,vs3,F,F',rfl,rfl,h1,h3⟩,hR2,by simpa using hF2,h⟩
 | .sl t,σ,F0,l,vs,k,r,hR,hF,h,hl=>by
  unfold rdO at h
  split at h
  ·rename_i l
   cases vs with
   | nil=>exact hl.elim
   | cons v vs =>
    obtain⟨⟨rfl,_⟩,hl⟩:=hl
    exact⟨[],l,σ,[_],vs,[],rfl,hl,⟨none,0,0,rfl,rfl,Nat.le_refl _,.inl ⟨rfl,rfl,fun _=>rfl⟩⟩,hR,by simpa using hF,h⟩
  ·rename_i id l
   replace h:=getB_run h
   cases vs with
   | nil=>exact hl.elim
   | cons v vs =>
    obtain⟨⟨A,n,c,F,hι,rfl⟩,hl⟩:=hl
    split at h
    ·rename_i t' x ver hb
     split at h
     ·rename_i y hy
      obtain⟨rfl,rfl⟩:=castRow_some hy
      have hbl:=hR.bl id
      rw [hb,hι]at hbl
      obtain⟨A',n',c',F',e,hrow⟩:=hbl
      cases e
      have hg:=hF.give hR (id:=id) (by rw [hb];rfl)
      rw [hι]at hg
      have hrow:=hrow (by intro q hq;simp at hq)
      exact⟨_,l,_,[_],vs,F,rfl,hl,⟨A,n,c,rfl,hrow⟩,hR.kill (by rw [hb];simp),hg,h⟩
     ·cases h
    ·rename_i t' x x2 ver hb
     split at h
     ·rename_i y hy
      obtain⟨rfl,rfl⟩:=castRow_some hy
      obtain⟨hn,hrow⟩:=win_of hR hb (by intro q hq;simp at hq) hι
      have hg:=hF.give hR (id:=id) (by rw [hb];rfl)
      rw [hι]at hg
      exact⟨_,l,_,[_],vs,F,rfl,hl,⟨A,n,c,rfl,RR_pre hn hrow⟩,hR.kill (by rw [hb];simp),hg,h⟩
     ·cases h
    ·cases h
  ·cases h
 | .rm t,σ,F0,l,vs,k,r,hR,hF,h,hl=>by
  unfold rdO at h
  split at h
  ·rename_i l
   cases vs with
   | nil=>exact hl.elim
   | cons v vs =>
    obtain⟨⟨rfl,_⟩,hl⟩:=hl
    exact⟨([],[]),l,σ,[_],vs,[],rfl,hl,⟨none,0,0,rfl,rfl,rfl,Nat.le_refl _,.inl ⟨rfl,rfl,fun _=>rfl⟩⟩,hR,by simpa using hF,h⟩
  ·rename_i id l
   replace h:=getB_run h
   cases vs with
   | nil=>exact hl.elim
   | cons v vs =>
    obtain⟨⟨A,n,c,F,hι,rfl⟩,hl⟩:=hl
    split at h
    ·rename_i t' x ver hb
     split at h
     ·rename_i y hy
      obtain⟨rfl,rfl⟩:=castRow_some hy
      have hbl:=hR.bl id
      rw [hb,hι]at hbl
      obtain⟨A',n',c',F',e,hrow⟩:=hbl
      cases e
      have hg:=hF.give hR (id:=id) (by rw [hb];rfl)
      rw [hι]at hg
      have hrow:=hrow (by intro q hq;simp at hq)
      exact⟨_,l,_,[_],vs,F,rfl,hl,⟨A,n,c,rfl,hrow.1,by simp only [List.append_nil];rw [←hrow.1];exact hrow⟩,hR.kill (by rw [hb];simp),hg,h⟩
     ·cases h
    ·rename_i t' x x2 ver hb
     split at h
     ·rename_i y y2 hy hy2
      obtain⟨rfl,rfl⟩:=castRow_some hy
      obtain⟨_,rfl⟩:=castRow_some hy2
      obtain⟨hn,hrow⟩:=win_of hR hb (by intro q hq;simp at hq) hι
      have hg:=hF.give hR (id:=id) (by rw [hb];rfl)
      rw [hι]at hg
      exact⟨(y,y2),l,_,[_],vs,F,rfl,hl,⟨A,n,c,rfl,hn,hrow⟩,hR.kill (by rw [hb];simp),hg,h⟩
     ·cases h
    ·cases h
  ·cases h

structure Gone(σ:St)(ι:Nat→Home)(e E:List Nat):Prop where
 ex:∀id∈e,(σ.H id).excl=true
 ft:E=e.flatMap fun id=>(ι id).foot

theorem Gone.nil:Gone σ ι [] []:=⟨by simp,rfl⟩

structure Less(σ σ1:St):Prop where
 H:∀j,σ1.H j=σ.H j∨σ1.H j = .dead
 T:σ1.T=σ.T
 un:∀j,σ.H j = .unborn→σ1.H j = .unborn

theorem Less.refl(σ:St):Less σ σ:=⟨fun _ => .inl rfl,rfl,fun _ h=>h⟩
theorem Less.trans{σ σ1 σ2:St}(h:Less σ σ1)(h':Less σ1 σ2):Less σ σ2:=⟨fun j=>by
 rcases h'.H j with e | e
 ·rw [e];exact h.H j
 ·exact .inr e,by rw [h'.T,h.T],fun j hj=>h'.un j (h.un j hj)⟩
theorem Less.kill{σ:St}{id:Nat}(h:σ.H id ≠ .unborn):Less σ (σ.setH id .dead):=⟨fun j=>by
 by_cases e:j=id
 ·right;rw [e,setH_same]
 ·left;exact setH_ne σ _ e,rfl,fun j hj=>by rw [setH_ne σ _ (by intro e;rw [e]at hj;exact h hj)];exact hj⟩
theorem Less.live{σ σ1:St}(h:Less σ σ1){j:Nat}(hl:(σ1.H j).live=true):σ1.H j=σ.H j:=by
 rcases h.H j with e | e
 ·exact e
 ·rw [e]at hl;cases hl
theorem Less.par{σ σ1:St}(h:Less σ σ1){par:List (Nat×Nat)}(hp:ParOk σ1.H par):ParOk σ.H par:=by
 intro q hq
 obtain⟨t,x,p,e⟩:=hp q hq
 have:=h.live (j:=q.1) (by rw [e];rfl)
 exact⟨t,x,p,by rw [←this,e]⟩
theorem Less.gone{σ σ1:St}(h:Less σ σ1){e E:List Nat}(hg:Gone σ1 ι e E):Gone σ ι e E:=by
 refine⟨fun id hi => ?_,hg.ft⟩
 have h1:=hg.ex id hi
 rw [←h.live (by cases hb:σ1.H id <;> rw [hb]at h1 <;> first | rfl | cases h1)]
 exact h1

theorem rdG_run:∀ {t:Ty} {σ:St} {F0:List Nat} {l:List Sc} {vs:List Value} {k:t.T→List Sc→List Nat→Pg α} {r:α×St},Rel X σ ι a w→Free X σ ι w F0→(rdG t l k).run σ=some r→F2 (RSc ι) l vs →
  ∃x rest e σ1 vs1 vs2 F,vs=vs1++vs2∧F2 (RSc ι) rest vs2∧RE true w t x vs1 F∧Rel X σ1 ι a w∧Free X σ1 ι w (F0++F)∧Gone σ ι e F∧Less σ σ1∧(∀id,id ∉ e→σ1.H id=σ.H id)∧(k x rest e).run σ1=some r
 | .unit,σ,F0,l,vs,k,r,hR,hF,h,hl=>⟨(),l,[],σ,[],vs,[],rfl,hl,⟨rfl,rfl⟩,hR,by simpa using hF,.nil,.refl _,fun _ _=>rfl,h⟩
 | .int q,σ,F0,l,vs,k,r,hR,hF,h,hl=>by
  unfold rdG at h
  split at h
  ·rename_i q' n l
   split at h
   ·rename_i e
    subst e
    cases vs with
    | nil=>exact hl.elim
    | cons v vs =>
     obtain⟨⟨rfl,_⟩,hl⟩:=hl
     exact⟨n,l,[],σ,[_],vs,[],rfl,hl,⟨rfl,rfl⟩,hR,by simpa using hF,.nil,.refl _,fun _ _=>rfl,h⟩
   ·cases h
  ·cases h
 | .bool,σ,F0,l,vs,k,r,hR,hF,h,hl=>by
  unfold rdG at h
  split at h
  ·rename_i n l
   cases vs with
   | nil=>exact hl.elim
   | cons v vs =>
    obtain⟨⟨rfl,_⟩,hl⟩:=hl
    exact⟨n,l,[],σ,[_],vs,[],rfl,hl,⟨rfl,rfl⟩,hR,by simpa using hF,.nil,.refl _,fun _ _=>rfl,h⟩
  ·cases h
 | .str,σ,F0,l,vs,k,r,hR,hF,h,hl=>by
  unfold rdG at h
  split at h
  ·rename_i n l
   cases vs with
   | nil=>exact hl.elim
   | cons v vs =>
    obtain⟨⟨rfl,_⟩,hl⟩:=hl
    exact⟨n,l,[],σ,[_],vs,[],rfl,hl,⟨rfl,rfl⟩,hR,by simpa using hF,.nil,.refl _,fun _ _=>rfl,h⟩
  ·cases h
 | .ks,σ,F0,l,vs,k,r,hR,hF,h,hl=>by
  unfold rdG at h
  split at h
  ·rename_i l
   cases vs with
   | nil=>exact hl.elim
   | cons v vs =>
    obtain⟨rfl,hl⟩:=hl
    exact⟨(),l,[],σ,[_],vs,[],rfl,hl,⟨rfl,rfl⟩,hR,by simpa using hF,.nil,.refl _,fun _ _=>rfl,h⟩
  ·cases h
 | .pair ta tb,σ,F0,l,vs,k,r,hR,hF,h,hl=>by
  unfold rdG at h
  obtain⟨x,rest,e,σ1,vs1,vs2,F,rfl,hl2,h1,hR1,hF1,g1,l1,n1,h⟩:=rdG_run hR hF h hl
  obtain⟨y,rest',e',σ2,vs3,vs4,F',rfl,hl3,h3,hR2,hF2,g2,l2,n2,h⟩:=rdG_run hR1 hF1 h hl2
  have g2:=l1.gone g2
  refine⟨(x,y),rest',e++e',σ2,vs1++vs3,vs4,F++F',by simp,hl3,⟨vs1,vs3,F,F',rfl,rfl,h1,h3⟩,hR2,by simpa using hF2,⟨fun id hi => ?_,by rw [List.flatMap_append,←g1.ft,←g2.ft]⟩,l1.trans l2,fun id hi => ?_,h⟩
  ·rcases List.mem_append.1 hi with hi | hi
   ·exact g1.ex id hi
   ·exact g2.ex id hi
  ·rw [n2 id (fun hm=>hi (List.mem_append.2 (.inr hm))),n1 id (fun hm=>hi (List.mem_append.2 (.inl hm)))]
 | .rm t,σ,F0,l,vs,k,r,hR,hF,h,hl=>by
  unfold rdG at h
  cases h
 | .sl t,σ,F0,l,vs,k,r,hR,hF,h,hl=>by
  unfold rdG at h
  split at h
  ·rename_i l
   cases vs with
   | nil=>exact hl.elim
   | cons v vs =>
    obtain⟨⟨rfl,_⟩,hl⟩:=hl
    exact⟨[],l,[],σ,[_],vs,[],rfl,hl,⟨none,0,0,rfl,rfl,Nat.le_refl _,.inl ⟨rfl,rfl,fun _=>rfl⟩⟩,hR,by simpa using hF,.nil,.refl _,fun _ _=>rfl,h⟩
  ·rename_i id l
   replace h:=getB_run h
   cases vs with
   | nil=>exact hl.elim
   | cons v vs =>
    obtain⟨⟨A,n,c,F,hι,rfl⟩,hl⟩:=hl
    split at h
    ·rename_i t' x ver hb
     split at h
     ·rename_i y hy
      have hbl:=hR.bl id
      rw [hb,hι]at hbl
      obtain⟨A',n',c',F',e,hrow⟩:=hbl
      cases e
      have hg:=hF.give hR (id:=id) (by rw [hb];rfl)
      rw [hι]at hg
      have hrow:=hrow (by intro q hq;simp at hq)
      exact⟨_,l,[id],_,[_],vs,F,rfl,hl,⟨A,n,c,rfl,castL_some hy hrow⟩,hR.kill (by rw [hb];simp),hg,⟨by simp [hb,Blk.excl],by simp [hι,Home.foot]⟩,.kill (by rw [hb];simp),(fun j hj=>setH_ne σ _ (by simpa using hj)),h⟩
     ·cases h
    ·rename_i t' x x2 ver hb
     split at h
     ·rename_i y hy
      obtain⟨hn,hrow⟩:=win_of hR hb (by intro q hq;simp at hq) hι
      have hg:=hF.give hR (id:=id) (by rw [hb];rfl)
      rw [hι]at hg
      exact⟨_,l,[id],_,[_],vs,F,rfl,hl,⟨A,n,c,rfl,castL_some hy (RR_pre hn hrow)⟩,hR.kill (by rw [hb];simp),hg,⟨by simp [hb,Blk.excl],by simp [hι,Home.foot]⟩,.kill (by rw [hb];simp),(fun j hj=>setH_ne σ _ (by simpa using hj)),h⟩
     ·cases h
    ·cases h
  ·cases h

structure SOk(σ:St)(ι:Nat→Home)(p:List (Nat×Nat))(F:List Nat):Prop where
 ok:ParOk σ.H p
 ap:∀i,(σ.H i).excl=true→i ∉ p.map (·.1)→∀b∈(ι i).foot,b ∉ F

theorem SOk.nil:SOk σ ι [] []:=⟨by intro q hq;simp at hq,fun _ _ _ _ _ h=>by simp at h⟩
theorem SOk.append{p p':List (Nat×Nat)}{F F':List Nat}(h:SOk σ ι p F)(h':SOk σ ι p' F'):SOk σ ι (p++p') (F++F'):=by
 refine⟨fun q hq => ?_,fun i hi hn b hb hF => ?_⟩
 ·rcases List.mem_append.1 hq with hq | hq
  ·exact h.ok q hq
  ·exact h'.ok q hq
 ·rw [List.map_append]at hn
  rcases List.mem_append.1 hF with hF | hF
  ·exact h.ap i hi (fun hm=>hn (List.mem_append.2 (.inl hm))) b hb hF
  ·exact h'.ap i hi (fun hm=>hn (List.mem_append.2 (.inr hm))) b hb hF

theorem rdS_run(hR:Rel X σ ι a w):∀ {t:Ty} {l:List Sc} {vs:List Value} {k:t.T→List Sc→List (Nat×Nat)→Pg α} {r:α×St},(rdS t l k).run σ=some r→F2 (RSc ι) l vs →
  ∃x rest p vs1 vs2 F,vs=vs1++vs2∧F2 (RSc ι) rest vs2∧RE false w t x vs1 F∧SOk σ ι p F∧(k x rest p).run σ=some r
 | .unit,l,vs,k,r,h,hl=>⟨(),l,[],[],vs,[],rfl,hl,⟨rfl,rfl⟩,SOk.nil,h⟩
 | .int q,l,vs,k,r,h,hl=>by
  unfold rdS at h
  split at h
  ·rename_i q' n l
   split at h
   ·rename_i e
    subst e
    cases vs with
    | nil=>exact hl.elim
    | cons v vs =>
     obtain⟨⟨rfl,_⟩,hl⟩:=hl
     exact⟨n,l,[],[_],vs,[],rfl,hl,⟨rfl,rfl⟩,SOk.nil,h⟩
   ·cases h
  ·cases h
 | .bool,l,vs,k,r,h,hl=>by
  unfold rdS at h
  split at h
  ·rename_i n l
   cases vs with
   | nil=>exact hl.elim
   | cons v vs =>
    obtain⟨⟨rfl,_⟩,hl⟩:=hl
    exact⟨n,l,[],[_],vs,[],rfl,hl,⟨rfl,rfl⟩,SOk.nil,h⟩
  ·cases h
 | .str,l,vs,k,r,h,hl=>by
  unfold rdS at h
  split at h
  ·rename_i n l
   cases vs with
   | nil=>exact hl.elim
   | cons v vs =>
    obtain⟨⟨rfl,_⟩,hl⟩:=hl
    exact⟨n,l,[],[_],vs,[],rfl,hl,⟨rfl,rfl⟩,SOk.nil,h⟩
  ·cases h
 | .ks,l,vs,k,r,h,hl=>by
  unfold rdS at h
  split at h
  ·rename_i l
   cases vs with
   | nil=>exact hl.elim
   | cons v vs =>
    obtain⟨rfl,hl⟩:=hl
    exact⟨(),l,[],[_],vs,[],rfl,hl,⟨rfl,rfl⟩,SOk.nil,h⟩
  ·cases h
 | .pair ta tb,l,vs,k,r,h,hl=>by
  unfold rdS at h
  obtain⟨x,rest,u,vs1,vs2,F,rfl,hl2,h1,h2,h⟩:=rdS_run hR h hl
  obtain⟨y,rest',u',vs3,vs4,F',rfl,hl3,h3,h4,h⟩:=rdS_run hR h hl2
  exact⟨(x,y),rest',u++u',vs1++vs3,vs4,F++F',by simp,hl3,⟨vs1,vs3,F,F',rfl,rfl,h1,h3⟩,h2.append h4,h⟩
 | .rm t,l,vs,k,r,h,hl=>by
  unfold rdS at h
  cases h
 | .sl t,l,vs,k,r,h,hl=>by
  unfold rdS at h
  split at h
  ·rename_i l
   cases vs with
   | nil=>exact hl.elim
   | cons v vs =>
    obtain⟨⟨rfl,_⟩,hl⟩:=hl
    exact⟨[],l,[],[_],vs,[],rfl,hl,⟨none,0,0,rfl,rfl,Nat.le_refl _,.inl ⟨rfl,rfl,fun h=>by cases h⟩⟩,SOk.nil,h⟩
  ·rename_i id l
   replace h:=getB_run h
   cases vs with
   | nil=>exact hl.elim
   | cons v vs =>
    obtain⟨⟨A,n,c,F,hι,rfl⟩,hl⟩:=hl
    split at h
    ·rename_i t' x own ver par hb
     split at h
     ·rename_i y hy
      obtain⟨hp,h⟩:=chkPar_run h
      have hbl:=hR.bl id
      rw [hb,hι]at hbl
      obtain⟨A',n',c',F',e,hrow⟩:=hbl
      cases e
      refine⟨_,l,_,[_],vs,F,rfl,hl,⟨A,n,c,rfl,castL_some hy (RR_ro (hrow hp))⟩,⟨?_,?_⟩,h⟩
      ·cases own with
       | true =>
        intro q hq
        rcases List.mem_append.1 hq with hq | hq
        ·simp at hq;subst hq;exact⟨t',x,par,hb⟩
        ·exact hp q hq
       | false=>simpa using hp
      ·intro i hi hn b hbi hbF
       have hk2:i ∉ par.map (·.1):=fun hm=>hn (by rw [List.map_append];exact List.mem_append.2 (.inr hm))
       have hk3:i≠id:=by
        cases hq:own with
        | true=>rintro rfl;apply hn;simp [hq]
        | false=>rintro rfl;rw [hb,hq]at hi;cases hi
       have:=hR.sep i id hk3 hi (by rw [hb];rfl) (by rw [hb];exact hp) (by rw [hb];exact hk2) b hbi
       rw [hι]at this
       exact this hbF
     ·cases h
    ·rename_i t' x x2 ver par hb
     split at h
     ·rename_i y hy
      obtain⟨hp,h⟩:=chkPar_run h
      obtain⟨hn,hrow⟩:=win_of hR hb hp hι
      refine⟨_,l,_,[_],vs,F,rfl,hl,⟨A,n,c,rfl,castL_some hy (RR_pre hn hrow)⟩,⟨hp,?_⟩,h⟩
      intro i hi hn b hbi hbF
      have hk3:i≠id:=by rintro rfl;rw [hb]at hi;cases hi
      have:=hR.sep i id hk3 hi (by rw [hb];rfl) (by rw [hb];exact hp) (by rw [hb];exact hn) b hbi
      rw [hι]at this
      exact this hbF
     ·cases h
    ·cases h
  ·cases h
end
end Go.Ev
namespace Go.Ev
open Go
variable [KSl]

theorem Addr_add(b o n:Nat):(⟨b,o,none⟩:Addr).add n=⟨b,o+n,none⟩:=by unfold Addr.add;split <;> simp_all

theorem run_isAggB{P:Program}{t:TypeId}(h:(P.underlying t).isNone=false)(w:World):(isAgg t).run P w = .ok (isAggB P t) w:=by
 cases hu:P.underlying t with
 | none=>rw [hu]at h;cases h
 | some d=>cases d <;> simp [isAgg,run_underlying hu,isAggB,hu]

theorem run_sizeB{P:Program}{t:TypeId}{n:Nat}(h:sizeB P t=some n)(w:World):(sizeOf t).run P w = .ok n w:=by
 unfold sizeB at h
 cases hi:P.info? t with
 | none=>rw [hi]at h;cases h
 | some i=>rw [hi]at h;simp at h;simp [sizeOf,typeInfo,hi,h]

section
variable {X : Ctx} {σ : St} {ι : Nat → Home} {a : Act} {w : World} {α : Type}

theorem Rel.grow(hR:Rel X σ ι a w){w':World}(hsz:WLe w w')(hw:∀b,b<w.heap.size→w'.heap[b]? = w.heap[b]?):Rel X σ ι a w' :=
 hR.change (D:=fun _=>False) (N:=fun _=>False) rfl (fun _ _=>rfl) hsz (fun b hb _=>hw b hb) (fun b hb=>hb.elim) (fun j hj=>⟨rfl,rfl⟩)
  (fun _ _ _ _ _ _ h=>h) (fun _ _ h=>h) (fun _ h=>h.elim) (fun _ _ h=>h.elim) (fun _ _ _ h=>h.elim) (fun _ _ _ h=>h.elim) hR.pb hR.pv

theorem live_of_excl{b:Blk}(h:b.excl=true):b.live=true:=by cases b <;> simp_all [Blk.excl,Blk.live]

theorem Free.grow{F G:List Nat}(hR:Rel X σ ι a w)(hF:Free X σ ι w F){w':World}(hsz:w.heap.size≤w'.heap.size)
  (hG:G.Nodup) (hG1:∀b∈G,w.heap.size≤b∧b<w'.heap.size):Free X σ ι w' (F++G) where
 away id hl hp b hb hf:=by
  rcases List.mem_append.1 hb with hb | hb
  ·exact hF.away id hl hp b hb hf
  ·have:=hR.lt id hl b hf
   have:=(hG1 b hb).1
   omega
 lt b hb:=by
  rcases List.mem_append.1 hb with hb | hb
  ·exact Nat.lt_of_lt_of_le (hF.lt b hb) hsz
  ·exact(hG1 b hb).2
 mu b hb:=by
  rcases List.mem_append.1 hb with hb | hb
  ·exact hF.mu b hb
  ·exact .inl (Nat.le_trans hR.le.le (hG1 b hb).1)
 nd:=by
  rw [List.nodup_append]
  refine⟨hF.nd,hG,fun x hx y hy e => ?_⟩
  have h1:=hF.lt x hx
  have h2:=(hG1 y hy).1
  omega

theorem Rel.take(hR:Rel X σ ι a w){F G:List Nat}(hF:Free X σ ι w (F++G)){id:Nat}(hu:σ.H id = .unborn){blk:Blk}{home:Home}(hf:home.foot=F)
  (hb:RBlk σ.H w ι blk home) (hp:blk.par = []) (hnb:blk ≠ .unborn) :
  Rel X (σ.setH id blk) (upd ι id home) a w∧Free X (σ.setH id blk) (upd ι id home) w G∧Lift ι (upd ι id home):=by
 have hn:ι id = .none:=hR.unborn hu
 have hL:Lift ι (upd ι id home):=fun j hj=>upd_ne ι home (fun e=>hj (e ▸ hn))
 have hne:∀j,∀q∈(σ.H j).par,q.1≠id:=fun j q hq e=>hR.pb j q hq (e ▸ hu)
 have hP:∀par:List (Nat×Nat),(∀q∈par,q.1≠id)→ParOk (σ.setH id blk).H par→ParOk σ.H par:=by
  intro par hp h q hq;have:=h q hq;rwa [setH_ne σ blk (hp q hq)]at this
 have hnd:=List.nodup_append.1 hF.nd
 refine⟨hR.change (D:=fun _=>False) (N:=fun j=>j=id) rfl hL (WLe.refl _) (fun b hb _=>rfl) (fun b hb=>hb.elim) (fun j hj=>⟨setH_ne σ blk hj,upd_ne ι home hj⟩)
  (fun _ _ _ _ _ _ h=>h) (fun j hj h=>hP _ (hne j) h) ?_ ?_ ?_ ?_ ?_ ?_,?_,hL⟩
 ·rintro j rfl
  rw [setH_same,upd_same,hf]
  exact⟨RBlk_lift hL (fun _=>by rw [hp];intro q hq;simp at hq) (fun _ _ _ _=>rfl) hb,fun _ b hb=>hF.lt b (List.mem_append.2 (.inl hb)),
   fun _=>⟨hnd.1,fun b hb=>hF.mu b (List.mem_append.2 (.inl hb)),hp⟩⟩
 ·rintro i j rfl hj hi hl hp hr b hb hb2
  rw [upd_same,hf]at hb
  exact hF.away j hl (hP _ (hne j) hp) b (List.mem_append.2 (.inl hb)) hb2
 ·rintro i j hi rfl he hl _ hr b hb hb2
  rw [upd_same,hf]at hb2
  exact hF.away i (live_of_excl he) (by rw [hR.po i he];intro q hq;simp at hq) b (List.mem_append.2 (.inl hb2)) hb
 ·rintro i j hij rfl rfl
  exact absurd rfl hij
 ·intro j q hq
  by_cases hj:j=id
  ·subst hj;rw [setH_same,hp]at hq;simp at hq
  ·rw [setH_ne σ blk hj]at hq
   rw [setH_ne σ blk (hne j q hq)]
   exact hR.pb j q hq
 ·intro j q hq
  by_cases hj:j=id
  ·subst hj;rw [setH_same,hp]at hq;simp at hq
  ·rw [setH_ne σ blk hj]at hq
   rw [setH_ne σ blk (hne j q hq)]
   exact hR.pv j q hq
 ·exact {
   away:=fun j hl hp' b hb hb2=>by
    by_cases hj:j=id
    ·subst hj
     rw [upd_same,hf]at hb2
     exact hnd.2.2 b hb2 b hb rfl
    ·rw [setH_ne σ blk hj]at hl hp'
     rw [upd_ne ι home hj]at hb2
     exact hF.away j hl (hP _ (hne j) hp') b (List.mem_append.2 (.inr hb)) hb2
   lt:=fun b hb=>hF.lt b (List.mem_append.2 (.inr hb))
   mu:=fun b hb=>hF.mu b (List.mem_append.2 (.inr hb))
   nd:=hnd.2.1 }

theorem take_drop_get{β:Type}{l:List β}{off sz j:Nat}{v:β}(h:((l.drop off).take sz)[j]? = some v):l[off+j]? = some v:=by
 rw [List.getElem?_take]at h
 split at h
 ·rwa [List.getElem?_drop]at h
 ·cases h

theorem loadVar_part{P:Program}{t:TypeId}{l:List Sc}{off:Nat}{v:AV}(h:partS P t l off=some v){b base:Nat}{cs:List Value}
  (hc:∀k u,cs[k]? = some u→w.cell? ⟨b,base+k,none⟩=some u) (hl:F2 (RSc ι) l cs) :
  ∃u,(loadVar t ⟨b,base+off,none⟩).run P w = .ok u w∧RAV ι v u:=by
 unfold partS at h
 cases hs:sizeB P t with
 | none=>rw [hs]at h;cases h
 | some sz =>
  rw [hs]at h
  simp only at h
  cases hn:(P.underlying t).isNone with
  | true=>rw [hn]at h;cases h
  | false =>
   rw [hn]at h
   simp only [cond_false]at h
   cases ha:isAggB P t with
   | true =>
    rw [ha]at h
    simp only [cond_true]at h
    cases hle:Nat.ble (off+sz) l.length with
    | false=>rw [hle]at h;cases h
    | true =>
     rw [hle]at h
     simp only [cond_true,Option.some.injEq]at h
     subst h
     have hle':=Nat.le_of_ble_eq_true hle
     have hlen:((cs.drop off).take sz).length=sz:=by rw [List.length_take,List.length_drop,←F2_len hl];omega
     have hld:=run_loadCells_list (P:=P) w ⟨b,base+off,none⟩ ((cs.drop off).take sz) (fun j u hj=>by
      rw [Addr_add,Nat.add_assoc]
      exact hc _ _ (take_drop_get hj))
     rw [hlen]at hld
     refine⟨.agg ((cs.drop off).take sz).toArray,?_,⟨_,rfl,F2_take sz (F2_drop off hl)⟩⟩
     simp [loadVar,run_isAggB hn,ha,run_sizeB hs,hld]
   | false =>
    rw [ha]at h
    simp only [cond_false]at h
    cases hg:l[off]? with
    | none=>rw [hg]at h;cases h
    | some c =>
     rw [hg]at h
     simp only [Option.some.injEq]at h
     subst h
     obtain⟨u,hu,hcu⟩:=F2_get hl hg
     refine⟨u,?_,RAV_sc.2 hcu⟩
     simp [loadVar,run_isAggB hn,ha,hc _ _ hu]

theorem part_part{P:Program}{t:TypeId}{l:List Sc}{off:Nat}{v:AV}(h:partS P t l off=some v){cs:Array Value}(hl:F2 (RSc ι) l cs.toList) :
  ∃u,(part t cs off).run P w = .ok u w∧RAV ι v u:=by
 unfold partS at h
 cases hs:sizeB P t with
 | none=>rw [hs]at h;cases h
 | some sz =>
  rw [hs]at h
  simp only at h
  cases hn:(P.underlying t).isNone with
  | true=>rw [hn]at h;cases h
  | false =>
   rw [hn]at h
   simp only [cond_false]at h
   cases ha:isAggB P t with
   | true =>
    rw [ha]at h
    simp only [cond_true]at h
    cases hle:Nat.ble (off+sz) l.length with
    | false=>rw [hle]at h;cases h
    | true =>
     rw [hle]at h
     simp only [cond_true,Option.some.injEq]at h
     subst h
     refine⟨.agg (cs.extract off (off+sz)),?_,⟨_,rfl,?_⟩⟩
     ·simp [part,run_isAggB hn,ha,run_sizeB hs]
     ·simp only [Array.toList_extract]
      have e:(cs.toList.extract off (off+sz))=(cs.toList.drop off).take sz:=by simp [List.extract_eq_take_drop]
      rw [e]
      exact F2_take sz (F2_drop off hl)
   | false =>
    rw [ha]at h
    simp only [cond_false]at h
    cases hg:l[off]? with
    | none=>rw [hg]at h;cases h
    | some c =>
     rw [hg]at h
     simp only [Option.some.injEq]at h
     subst h
     obtain⟨u,hu,hcu⟩:=F2_get hl hg
     refine⟨u,?_,RAV_sc.2 hcu⟩
     have hu':cs[off]? = some u:=by simpa using hu
     simp [part,run_isAggB hn,ha,hu']

theorem newBs_append:∀(l m:List Blk) (n:Nat) (k:Pg α),newBs n (l++m) k=newBs n l (newBs (n+l.length) m k)
 | [],m,n,k=>by simp [newBs]
 | b::l,m,n,k=>by
  simp only [List.cons_append,newBs,newBs_append l m (n+1) k,List.length_cons]
  rw [show n+1+l.length=n+(l.length+1)by omega]

structure Ext(σ:St)(ι:Nat→Home)(σ':St)(ι':Nat→Home):Prop where
 H:∀j,σ.H j ≠ .unborn→σ'.H j=σ.H j∧ι' j=ι j
 ex:∀j,σ.H j = .unborn→(σ'.H j).excl=false
 T:σ'.T=σ.T

theorem unT_ro{par:List (Nat×Nat)}{own:Bool}{r:α×St}:∀ {t:Ty} {x:t.T} {cs:List Value} {F:List Nat} {nid:Nat} {k:Pg α} {σ:St} {ι:Nat→Home},Rel X σ ι a w→RE own w t x cs F→ParOk σ.H par →
  (∀i,(σ.H i).excl=true→i ∉ par.map (·.1)→∀b∈(ι i).foot,b ∉ F)→(newBs nid (unT false par t x nid).2 k).run σ=some r →
  ∃σ' ι',Rel X σ' ι' a w∧Lift ι ι'∧Ext σ ι σ' ι'∧F2 (RSc ι') (unT false par t x nid).1 cs∧k.run σ'=some r
 | .unit,x,cs,F,nid,k,σ,ι,hR,hx,hp,hs,h=>⟨σ,ι,hR,fun _ _=>rfl,⟨fun _ _=>⟨rfl,rfl⟩,fun j hj=>by rw [hj];rfl,rfl⟩,by rw [hx.1];trivial,h⟩
 | .int q,x,cs,F,nid,k,σ,ι,hR,hx,hp,hs,h=>⟨σ,ι,hR,fun _ _=>rfl,⟨fun _ _=>⟨rfl,rfl⟩,fun j hj=>by rw [hj];rfl,rfl⟩,by rw [hx.1];exact⟨⟨rfl,rfl⟩,trivial⟩,h⟩
 | .bool,x,cs,F,nid,k,σ,ι,hR,hx,hp,hs,h=>⟨σ,ι,hR,fun _ _=>rfl,⟨fun _ _=>⟨rfl,rfl⟩,fun j hj=>by rw [hj];rfl,rfl⟩,by rw [hx.1];exact⟨⟨rfl,rfl⟩,trivial⟩,h⟩
 | .str,x,cs,F,nid,k,σ,ι,hR,hx,hp,hs,h=>⟨σ,ι,hR,fun _ _=>rfl,⟨fun _ _=>⟨rfl,rfl⟩,fun j hj=>by rw [hj];rfl,rfl⟩,by rw [hx.1];exact⟨⟨rfl,rfl⟩,trivial⟩,h⟩
 | .ks,x,cs,F,nid,k,σ,ι,hR,hx,hp,hs,h=>⟨σ,ι,hR,fun _ _=>rfl,⟨fun _ _=>⟨rfl,rfl⟩,fun j hj=>by rw [hj];rfl,rfl⟩,by rw [hx.1];exact⟨rfl,trivial⟩,h⟩
 | .pair ta tb,x,cs,F,nid,k,σ,ι,hR,hx,hp,hs,h=>by
  obtain⟨c1,c2,F1,F2,rfl,rfl,h1,h2⟩:=hx
  simp only [unT]at h ⊢
  rw [newBs_append]at h
  obtain⟨σ1,ι1,hR1,hL1,hE1,hF1,h⟩:=unT_ro hR h1 hp (fun i hi hr b hb hb2=>hs i hi hr b hb (List.mem_append.2 (.inl hb2))) h
  have hp1:ParOk σ1.H par:=fun q hq=>by
   obtain⟨t,x,p,e⟩:=hp q hq
   exact⟨t,x,p,by rw [(hE1.H q.1 (by rw [e];simp)).1,e]⟩
  obtain⟨σ2,ι2,hR2,hL2,hE2,hF2,h⟩:=unT_ro hR1 h2 hp1 (fun i hi hr b hb hb2=>by
   by_cases hu:σ.H i = .unborn
   ·rw [hE1.ex i hu]at hi;cases hi
   ·rw [(hE1.H i hu).1]at hi
    rw [(hE1.H i hu).2]at hb
    exact hs i hi hr b hb (List.mem_append.2 (.inr hb2))) h
  refine⟨σ2,ι2,hR2,fun j hj=>by rw [hL2 j (by rw [hL1 j hj];exact hj),hL1 j hj],⟨fun j hj => ?_,fun j hj => ?_,by rw [hE2.T,hE1.T]⟩,F2_append (F2_mono (fun _ _=>RSc_lift hL2) hF1) hF2,h⟩
  ·have h1:=hE1.H j hj
   have h2:=hE2.H j (by rw [h1.1];exact hj)
   exact⟨by rw [h2.1,h1.1],by rw [h2.2,h1.2]⟩
  ·by_cases hu:σ1.H j = .unborn
   ·exact hE2.ex j hu
   ·rw [(hE2.H j hu).1];exact hE1.ex j hj
 | .sl t,x,cs,F,nid,k,σ,ι,hR,hx,hp,hs,h=>by
  have hlt:=RE_lt hx
  obtain⟨A,n,c,rfl,hrow⟩:=hx
  obtain⟨hu,h⟩:=newB_run h
  have hR':=hR.newId hu (blk := .row t x false 0 par) (home := .row A n c F) (w':=w) (WLe.refl _) (fun _ _=>rfl) (fun _=>⟨A,n,c,F,rfl,fun _=>RR_ro hrow⟩)
   (fun _ H w ι' _ hf=>⟨A,n,c,F,rfl,fun h=>(hf h).elim⟩) (fun _=>hlt) (fun h=>by cases h) (fun i he _ _ hr=>hs i he hr)
   (fun q hq=>by obtain⟨t,x,p,e⟩:=hp q hq;rw [e];simp) (fun q hq ver e'=>by obtain⟨t,x,p,e⟩:=hp q hq;rw [e]at e'; cases e'; exact Nat.le_refl _) (by simp)
  have hn:=hR.unborn hu
  refine⟨_,_,hR',fun j hj=>upd_ne ι _ (fun e=>hj (e ▸ hn)),⟨fun j hj => ?_,fun j hj => ?_,rfl⟩,⟨⟨A,n,c,F,upd_same _ _ _,rfl⟩,trivial⟩,h⟩
  ·have:j≠nid:=fun e=>hj (e ▸ hu)
   exact⟨setH_ne σ _ this,upd_ne ι _ this⟩
  ·by_cases e:j=nid
   ·rw [e,setH_same];rfl
   ·rw [setH_ne σ _ e,hj];rfl
 | .rm t,x,cs,F,nid,k,σ,ι,hR,hx,hp,hs,h=>by
  have hlt:=RE_lt hx
  obtain⟨A,n,c,rfl,hnx,hrow⟩:=hx
  obtain⟨hu,h⟩:=newB_run h
  have hR':=hR.newId hu (blk := .win t x.1 x.2 false 0 par) (home := .row A n c F) (w':=w) (WLe.refl _) (fun _ _=>rfl) (fun _=>⟨A,n,c,F,rfl,hnx,fun _=>RR_ro hrow⟩)
   (fun _ H w ι' _ hf=>⟨A,n,c,F,rfl,hnx,fun h=>(hf h).elim⟩) (fun _=>hlt) (fun h=>by cases h) (fun i he _ _ hr=>hs i he hr)
   (fun q hq=>by obtain⟨t,x,p,e⟩:=hp q hq;rw [e];simp) (fun q hq ver e'=>by obtain⟨t,x,p,e⟩:=hp q hq;rw [e]at e'; cases e'; exact Nat.le_refl _) (by simp)
  have hn:=hR.unborn hu
  refine⟨_,_,hR',fun j hj=>upd_ne ι _ (fun e=>hj (e ▸ hn)),⟨fun j hj => ?_,fun j hj => ?_,rfl⟩,⟨⟨A,n,c,F,upd_same _ _ _,rfl⟩,trivial⟩,h⟩
  ·have:j≠nid:=fun e=>hj (e ▸ hu)
   exact⟨setH_ne σ _ this,upd_ne ι _ this⟩
  ·by_cases e:j=nid
   ·rw [e,setH_same];rfl
   ·rw [setH_ne σ _ e,hj];rfl

theorem unT_own{r:α×St}:∀ {t:Ty} {x:t.T} {cs:List Value} {F G:List Nat} {nid:Nat} {k:Pg α} {σ:St} {ι:Nat→Home},Rel X σ ι a w→RE true w t x cs F→Free X σ ι w (F++G) →
  (newBs nid (unT true [] t x nid).2 k).run σ=some r →
  ∃σ' ι',Rel X σ' ι' a w∧Lift ι ι'∧Free X σ' ι' w G∧F2 (RSc ι') (unT true [] t x nid).1 cs∧(∀j,∀q∈(σ'.H j).par,q∈(σ.H j).par)∧k.run σ'=some r
 | .unit,x,cs,F,G,nid,k,σ,ι,hR,hx,hF,h=>⟨σ,ι,hR,fun _ _=>rfl,by simpa [hx.2] using hF,by rw [hx.1];trivial,fun _ _ h=>h,h⟩
 | .int q,x,cs,F,G,nid,k,σ,ι,hR,hx,hF,h=>⟨σ,ι,hR,fun _ _=>rfl,by simpa [hx.2] using hF,by rw [hx.1];exact⟨⟨rfl,rfl⟩,trivial⟩,fun _ _ h=>h,h⟩
 | .bool,x,cs,F,G,nid,k,σ,ι,hR,hx,hF,h=>⟨σ,ι,hR,fun _ _=>rfl,by simpa [hx.2] using hF,by rw [hx.1];exact⟨⟨rfl,rfl⟩,trivial⟩,fun _ _ h=>h,h⟩
 | .str,x,cs,F,G,nid,k,σ,ι,hR,hx,hF,h=>⟨σ,ι,hR,fun _ _=>rfl,by simpa [hx.2] using hF,by rw [hx.1];exact⟨⟨rfl,rfl⟩,trivial⟩,fun _ _ h=>h,h⟩
 | .ks,x,cs,F,G,nid,k,σ,ι,hR,hx,hF,h=>⟨σ,ι,hR,fun _ _=>rfl,by simpa [hx.2] using hF,by rw [hx.1];exact⟨rfl,trivial⟩,fun _ _ h=>h,h⟩
 | .pair ta tb,x,cs,F,G,nid,k,σ,ι,hR,hx,hF,h=>by
  obtain⟨c1,c2,F1,F2,rfl,rfl,h1,h2⟩:=hx
  simp only [unT]at h ⊢
  rw [newBs_append]at h
  obtain⟨σ1,ι1,hR1,hL1,hE1,hF1,hp1,h⟩:=unT_own (G:=F2++G) hR h1 (by simpa using hF) h
  obtain⟨σ2,ι2,hR2,hL2,hE2,hF2,hp2,h⟩:=unT_own (G:=G) hR1 h2 hE1 h
  exact⟨σ2,ι2,hR2,fun j hj=>by rw [hL2 j (by rw [hL1 j hj];exact hj),hL1 j hj],hE2,F2_append (F2_mono (fun _ _=>RSc_lift hL2) hF1) hF2,fun j q hq=>hp1 j q (hp2 j q hq),h⟩
 | .sl t,x,cs,F,G,nid,k,σ,ι,hR,hx,hF,h=>by
  obtain⟨A,n,c,rfl,hrow⟩:=hx
  obtain⟨hu,h⟩:=newB_run h
  obtain⟨h1,h2,h3⟩:=hR.take hF hu (blk := .row t x true 0 []) (home := .row A n c F) rfl ⟨A,n,c,F,rfl,fun _=>hrow⟩ rfl (by simp)
  exact⟨_,_,h1,h3,h2,⟨⟨A,n,c,F,upd_same _ _ _,rfl⟩,trivial⟩,fun j q hq=>by
   by_cases e:j=nid
   ·rw [e,setH_same]at hq;simp [Blk.par]at hq
   ·rwa [setH_ne σ _ e]at hq,h⟩
 | .rm t,x,cs,F,G,nid,k,σ,ι,hR,hx,hF,h=>by
  obtain⟨A,n,c,rfl,hnx,hrow⟩:=hx
  obtain⟨hu,h⟩:=newB_run h
  obtain⟨h1,h2,h3⟩:=hR.take hF hu (blk := .win t x.1 x.2 true 0 []) (home := .row A n c F) rfl ⟨A,n,c,F,rfl,hnx,fun _=>hrow⟩ rfl (by simp)
  exact⟨_,_,h1,h3,h2,⟨⟨A,n,c,F,upd_same _ _ _,rfl⟩,trivial⟩,fun j q hq=>by
   by_cases e:j=nid
   ·rw [e,setH_same]at hq;simp [Blk.par]at hq
   ·rwa [setH_ne σ _ e]at hq,h⟩

theorem RAV_sl{ι:Nat→Home}{id n c:Nat}{A:Option Addr}{F:List Nat}(e:ι id = .row A n c F):RAV ι (.sc (.sl id)) (.slice A n c):=RAV_sc.2 ⟨A,n,c,F,e,rfl⟩

theorem Rel.setT(hR:Rel X σ ι a w){d:Nat}{v:AV}(hv:RAV ι v (a.tmps.getD d undef)):Rel X (σ.setT d v) ι a w where
 tm i:=by
  simp only [St.setT]
  by_cases e:i=d
  ·subst e
   rw [Nat.beq_refl]
   exact hv
  ·rw [beq_false e]
   exact hR.tm i
 sz:=hR.sz
 df:=hR.df
 bl:=hR.bl
 lt:=hR.lt
 nd:=hR.nd
 sep:=hR.sep
 fr:=hR.fr
 le:=hR.le
 mu:=hR.mu
 pb:=hR.pb
 pv:=hR.pv
 pn:=hR.pn
 po:=hR.po

theorem retgt_run{id nid n c:Nat}{A:Option Addr}{F F':List Nat}{r:α×St}(e:ι id = .row A n c F)(e':ι nid = .row A n c F'):∀ {l:List Nat} {σ:St} {k:Pg α},Rel X σ ι a w→(retgt id nid l k).run σ=some r →
  ∃σ2,Rel X σ2 ι a w∧k.run σ2=some r
 | [],σ,k,hR,h=>⟨σ,hR,h⟩
 | t::l,σ,k,hR,h=>by
  simp only [retgt,Pg.run]at h
  have htm:=hR.tm t
  split at h
  ·rename_i id' hT
   cases hb:Nat.beq id id' with
   | false =>
    rw [hb]at h
    exact retgt_run e e' hR h
   | true =>
    rw [hb]at h
    simp only [cond_true,Pg.run]at h
    have hid:=Nat.eq_of_beq_eq_true hb
    subst hid
    rw [hT]at htm
    obtain⟨A1,n1,c1,F1,h1,h2⟩:=RAV_sc.1 htm
    rw [e]at h1
    cases h1
    exact retgt_run e e' (hR.setT (RAV_sl e'|>fun q=>h2 ▸ q)) h
  ·exact retgt_run e e' hR h

theorem Free.sub{F F':List Nat}(h:Free X σ ι w F)(hs:∀b∈F',b∈F)(hn:F'.Nodup):Free X σ ι w F' where
 away id hl hp b hb:=h.away id hl hp b (hs b hb)
 lt b hb:=h.lt b (hs b hb)
 mu b hb:=h.mu b (hs b hb)
 nd:=hn


theorem RR_suf{t:Ty}{x:List t.T}{A:Option Addr}{n c:Nat}{F:List Nat}(hr:RR true w t x A n c F){l:Nat}(hl:l≤n) :
  ∃F2,F2.Perm F∧RR true w t (x.drop l) (if c=l then A else A.map (·.add (l*t.size))) (n - l) (c - l) F2:=by
 obtain⟨hn,hc,h | ⟨b,o,arr,e,fr,Fs,G,hA,hb,hf,hs,hF,hG,hlF,hel⟩⟩:=hr
 ·obtain⟨h1,h2,h3⟩:=h
  have hc0:=h3 rfl
  subst h1
  simp at hn
  have hl0:l=0:=by omega
  subst hl0
  subst hn
  subst hc0
  exact⟨[],by rw [h2],by simp,Nat.le_refl _,.inl ⟨by simp,rfl,fun _=>rfl⟩⟩
 ·simp only [if_true]at hs
  have hcl:l≤c:=by omega
  have hmul:l*t.size≤c*t.size:=Nat.mul_le_mul_right _ hcl
  have hp:(b::((Fs.drop l).flatten++((Fs.take l).flatten++G))).Perm F:=by
   rw [hF]
   refine List.Perm.cons b ?_
   rw [←List.append_assoc]
   refine List.Perm.append_right G ?_
   refine List.perm_append_comm.trans ?_
   rw [←List.flatten_append,List.take_append_drop]
  refine⟨_,hp,by simp [hn],by omega,.inr ⟨b,if c=l then o else o+l*t.size,arr,e,fr,Fs.drop l,(Fs.take l).flatten++G,?_,hb,hf,?_,rfl,?_,by simp [hlF],?_⟩⟩
  ·rw [hA]
   split
   ·rfl
   ·simp [Addr_add]
  ·simp only [if_true]
   split
   ·rename_i hcl2
    subst hcl2
    rw [Nat.sub_self,Nat.zero_mul]
    omega
   ·rw [Nat.mul_comm (c - l),Nat.mul_sub,Nat.mul_comm t.size c,Nat.mul_comm t.size l]
    omega
  ·have hlt:=RowR_lt (R:=RE true w t) (fun x cs Fi h=>RE_lt h) (⟨hn,hc,.inr ⟨b,o,arr,e,fr,Fs,G,hA,hb,hf,by simpa using hs,hF,hG,hlF,hel⟩⟩:RowR true w t.size (RE true w t) x A n c F)
   intro k hk
   refine hlt k ?_
   rw [hF]
   refine List.mem_cons_of_mem _ ?_
   rcases List.mem_append.1 hk with hk | hk
   ·refine List.mem_append.2 (.inl ?_)
    obtain⟨Fi,h1,h2⟩:=List.mem_flatten.1 hk
    exact List.mem_flatten.2 ⟨Fi,List.mem_of_mem_take h1,h2⟩
   ·exact List.mem_append.2 (.inr hk)
  ·intro j y Fj hy hFj
   have hj:=(List.getElem?_eq_some_iff.1 hy).1
   rw [List.length_drop]at hj
   have hcl2:c≠l:=by omega
   rw [List.getElem?_drop]at hy hFj
   have:=hel (l+j) y Fj hy hFj
   rw [if_neg hcl2]
   rw [Nat.add_mul]at this
   rw [Nat.add_assoc]
   exact this

theorem take_perm{b:Nat}{Fs:List (List Nat)}{G:List Nat}{i:Nat}(hi:i<Fs.length):((b::((Fs.set i []).flatten++G))++Fs[i]).Perm (b::(Fs.flatten++G)):=by
 have e1:Fs.set i []=Fs.take i ++ []::Fs.drop (i+1):=by rw [List.set_eq_take_append_cons_drop,if_pos hi]
 have e2:Fs=Fs.take i++Fs[i]::Fs.drop (i+1):=by rw [List.getElem_cons_drop,List.take_append_drop]
 rw [e1]
 conv=>rhs;rw [e2]
 simp only [List.flatten_append,List.flatten_cons,List.cons_append,List.append_assoc,List.nil_append]
 refine List.Perm.cons b (List.Perm.append_left _ ?_)
 rw [←List.append_assoc]
 exact List.perm_append_comm

theorem takeB_run{nid:Nat}{own:Bool}{ty:Ty}{xs:List ty.T}{i id n c ver:Nat}{A:Option Addr}{F:List Nat}{par:List (Nat×Nat)}{rt:List Nat}{k:Pg α}{r:α×St}(hR:Rel X σ ι a w)(hb:σ.H id = .row ty xs own ver par)(e:ι id = .row A n c F)(hi:i<n)
  (h:(takeB own ty xs nid i id par rt k).run σ=some r) :
  ∃σ1 ι1 b o cs,A=some ⟨b,o,none⟩∧Rel X σ1 ι1 a w∧F2 (RSc ι1) (unT true [] ty (xs.getD i ty.dflt) (nid+1)).1 cs∧(∀k u,cs[k]? = some u→w.cell? ⟨b,o+i*ty.size+k,none⟩=some u)∧k.run σ1=some r:=by
 unfold takeB at h
 split at h
 case h_2=>cases h
 simp only [Pg.run]at h
 have hbl:=hR.bl id
 rw [hb]at hbl
 obtain⟨A',n',c',F',h1,h2⟩:=hbl
 rw [e]at h1
 cases h1
 obtain⟨hn,hc,h3 | ⟨b,o,arr,el,fr,Fs,G,hA,hw,hf,hs,hF,hG,hl,hel⟩⟩:=h2 (by intro q hq;simp at hq)
 ·rw [h3.1]at hn;simp at hn;omega
 have hx:i<xs.length:=by omega
 have hFi:i<Fs.length:=by omega
 have hf:=hf rfl
 subst hf
 simp only [if_true]at hs
 have hre:=hel i xs[i] Fs[i] (List.getElem?_eq_getElem hx) (List.getElem?_eq_getElem hFi)
 have hgx:xs.getD i ty.dflt=xs[i]:=by rw [List.getD_eq_getElem?_getD,List.getElem?_eq_getElem hx];rfl
 have hR1:=hR.kill (id:=id) (by rw [hb];simp)
 have hF1:=Free.nil.give hR (id:=id) (by rw [hb];rfl) (F := [])
 rw [e]at hF1
 simp only [Home.foot,List.nil_append]at hF1
 have hperm:=take_perm (b:=b) (G:=G) hFi
 have hnd:=hF1.nd
 rw [hF]at hF1 hnd
 have hF2:=hF1.sub (F':=(b::((Fs.set i []).flatten++G))++Fs[i]) (fun k hk=>hperm.mem_iff.1 hk) (hperm.nodup_iff.2 hnd)
 obtain⟨hun,h⟩:=newB_run h
 have hne:id≠nid:=by
  rintro rfl
  have:=hR1.unborn hun
  rw [e]at this
  cases this
 obtain⟨hR2,hF3,hL2⟩:=hR1.take hF2 hun (blk := .hol ty xs i) (home := .row A n c (b::((Fs.set i []).flatten++G))) rfl
  ⟨A,n,c,_,rfl,b,o,arr,el,Fs.set i [],G,hA,hn,hc,hw,hs,rfl,hG,by simpa using hl,by simp [hFi],fun j x Fj hxj hFj hji=>by
   rw [List.getElem?_set_ne (by omega)]at hFj
   exact hel j x Fj hxj hFj⟩ rfl (by simp)
 obtain⟨σ3,ι3,hR3,hL3,_,hcs,_,h⟩:=unT_own (G := []) hR2 (t:=ty) (x:=xs.getD i ty.dflt) (by rw [hgx];exact hre) (by rw [List.append_nil];exact hF3) h
 have eid:ι3 id = .row A n c F:=by
  rw [hL3.eq (x := .row A n c F) (by rw [upd_ne _ _ hne,e]) (by simp)]
 have enid:ι3 nid = .row A n c (b::((Fs.set i []).flatten++G)):=hL3.eq (upd_same _ _ _) (by simp)
 obtain⟨σ4,hR4,h⟩:=retgt_run (id:=id) (nid:=nid) eid enid hR3 h
 refine⟨σ4,ι3,b,o,_,hA,hR4,hcs,fun k u hu => ?_,h⟩
 have hu:=take_drop_get hu
 simp only [World.cell?,hw]
 simpa using hu

theorem takeH_run{nid:Nat}{ty:Ty}{xs:List ty.T}{i kk id n c:Nat}{A:Option Addr}{F:List Nat}{rt:List Nat}{k:Pg α}{r:α×St}(hR:Rel X σ ι a w)(hex:(σ.H id).excl=true)(e:ι id = .row A n c F)(hh:Hof w ty xs kk A n c F)(hi:i<n)
  (h:(takeH ty xs nid i kk id rt k).run σ=some r) :
  ∃σ1 ι1 b o cs,A=some ⟨b,o,none⟩∧Rel X σ1 ι1 a w∧F2 (RSc ι1) (unT true [] ty (xs.getD i ty.dflt) (nid+1)).1 cs∧(∀k u,cs[k]? = some u→w.cell? ⟨b,o+i*ty.size+k,none⟩=some u)∧k.run σ1=some r:=by
 unfold takeH at h
 simp only [Pg.run]at h
 cases hik:Nat.beq i kk with
 | false=>rw [hik]at h;cases h
 | true =>
 rw [hik]at h
 simp only [cond_true]at h
 have hik:=Nat.eq_of_beq_eq_true hik
 subst hik
 obtain⟨hn,hk,hc,h3 | ⟨b,o,arr,el,Fs,G,hA,hw,hs,hF,hG,hl,hel⟩⟩:=hh
 ·rw [h3.1]at hn;simp at hn;omega
 have hx:i<xs.length:=by omega
 match Fs,hl,hel,hF with
 | [],hl,_,_=>simp at hl;omega
 | F0::Fs,hl,hel,hF =>
 have hre:=hel 0 xs[i] F0 (by rw [Nat.add_zero];exact List.getElem?_eq_getElem hx) (by simp)
 rw [Nat.add_zero]at hre
 have hgx:xs.getD i ty.dflt=xs[i]:=by rw [List.getD_eq_getElem?_getD,List.getElem?_eq_getElem hx];rfl
 have hR1:=hR.kill (id:=id) (by intro e9;rw [e9]at hex;cases hex)
 have hF1:=Free.nil.give hR (id:=id) hex (F := [])
 rw [e]at hF1
 simp only [Home.foot,List.nil_append]at hF1
 have hperm:((b::(Fs.flatten++G))++F0).Perm (b::((F0::Fs).flatten++G)):=by
  simp only [List.flatten_cons,List.cons_append,List.append_assoc]
  refine List.Perm.cons b ?_
  rw [←List.append_assoc]
  exact List.perm_append_comm
 have hnd:=hF1.nd
 rw [hF]at hF1 hnd
 have hF2:=hF1.sub (F':=(b::(Fs.flatten++G))++F0) (fun k hk=>hperm.mem_iff.1 hk) (hperm.nodup_iff.2 hnd)
 obtain⟨hun,h⟩:=newB_run h
 have hne:id≠nid:=by
  rintro rfl
  have:=hR1.unborn hun
  rw [e]at this
  cases this
 obtain⟨hR2,hF3,hL2⟩:=hR1.take hF2 hun (blk := .hof ty xs (i+1)) (home := .row A n c (b::(Fs.flatten++G))) rfl
  ⟨A,n,c,_,rfl,hn,by omega,hc,.inr ⟨b,o,arr,el,Fs,G,hA,hw,hs,rfl,hG,by simp at hl;omega,fun j x Fj hxj hFj=>by
   have:=hel (j+1) x Fj (by rw [←hxj];congr 1;omega) (by simpa using hFj)
   rw [show i+(j+1)=i+1+j by omega]at this
   exact this⟩⟩ rfl (by simp)
 obtain⟨σ3,ι3,hR3,hL3,_,hcs,_,h⟩:=unT_own (G := []) hR2 (t:=ty) (x:=xs.getD i ty.dflt) (by rw [hgx];exact hre) (by rw [List.append_nil];exact hF3) h
 have eid:ι3 id = .row A n c F:=by
  rw [hL3.eq (x := .row A n c F) (by rw [upd_ne _ _ hne,e]) (by simp)]
 have enid:ι3 nid = .row A n c (b::(Fs.flatten++G)):=hL3.eq (upd_same _ _ _) (by simp)
 obtain⟨σ4,hR4,h⟩:=retgt_run (id:=id) (nid:=nid) eid enid hR3 h
 refine⟨σ4,ι3,b,o,_,hA,hR4,hcs,fun k u hu => ?_,h⟩
 have hu:=take_drop_get hu
 simp only [World.cell?,hw]
 simpa using hu
end
end Go.Ev
namespace Go.Ev
open Go
variable [KSl]

section
variable {X : Ctx} {σ σ' : St} {ι : Nat → Home} {a : Act} {w : World} {α : Type} {o : Oper} {nid : Nat}

theorem RAV_ptr{ι:Nat→Home}{id off b o:Nat}(e:ι id = .blk b o):RAV ι (.sc (.ptr id off)) (.pointer (some ⟨b,o+off,none⟩)):=RAV_sc.2 ⟨b,o,e,rfl⟩
theorem RAV_elt{ι:Nat→Home}{id i j sz b o n c:Nat}{F:List Nat}(e:ι id = .row (some ⟨b,o,none⟩) n c F)(hi:i<n):RAV ι (.sc (.elt id i j sz)) (.pointer (some ⟨b,o+i*sz+j,none⟩)):=RAV_sc.2 ⟨b,o,n,c,F,e,hi,rfl⟩

theorem setT_same{σ:St}{t:Nat}{v:AV}(h:σ.T t=v):σ.setT t v=σ:=by
 cases σ with
 | mk T H =>
  simp only [St.setT]at *
  congr 1
  funext j
  by_cases e:j=t
  ·subst e;simp [Nat.beq_refl,h]
  ·rw [beq_false e];rfl

theorem brT_run{i:Nat}{x y:Pg α}{r:α×St}(h:(Pg.brT i x y).run σ=some r) :
  ∃b,σ.T i = .sc (.v (.bool b))∧(if b then x else y).run σ=some r:=by
 simp only [Pg.run]at h
 split at h
 ·rename_i b hb
  refine⟨b,hb,?_⟩
  cases b
  ·simp only [cond_false]at h
   rw [setT_same hb]at h
   simpa using h
  ·simp only [cond_true]at h
   rw [setT_same hb]at h
   simpa using h
 ·cases h

theorem tmp_bool(hR:Rel X σ ι a w){i:Nat}{b:Bool}(h:σ.T i = .sc (.v (.bool b))):a.tmps.getD i undef = .bool b:=by
 have:=hR.tm i
 rw [h]at this
 exact(RAV_v.1 this).1

theorem op_move{x:Operand}(ho:o.op = .move x)(hR:Rel X σ ι a w)(h:(opPg X.C nid o).run σ=some ((),σ')):Done X o σ' a w:=by
 simp only [opPg,ho]at h
 obtain⟨av,hv,h⟩:=opndR_run hR h
 exact Done.put hR hv (by simp [execOp,ho]) h

theorem op_assign{x:Operand}(ho:o.op = .assign x)(hR:Rel X σ ι a w)(h:(opPg X.C nid o).run σ=some ((),σ')):Done X o σ' a w:=by
 simp only [opPg,ho]at h
 obtain⟨av,hv,h⟩:=opnd1_run hR h
 exact Done.put hR hv (by simp [execOp,ho]) h

theorem op_pick{c x y:Operand}(ho:o.op = .pick c x y)(hR:Rel X σ ι a w)(h:(opPg X.C nid o).run σ=some ((),σ')):Done X o σ' a w:=by
 simp only [opPg,ho]at h
 cases c with
 | tmp t =>
  simp only at h
  obtain⟨b,hb,h⟩:=brT_run h
  have ht:=tmp_bool hR hb
  cases b
  ·simp only [Bool.false_eq_true,if_false]at h
   obtain⟨av,hv,h⟩:=opnd_run hR h
   exact Done.put hR hv (by simp [execOp,ho,Act.eval,asBool];simp at ht;simp [ht]) h
  ·simp only [if_true]at h
   obtain⟨av,hv,h⟩:=opnd_run hR h
   exact Done.put hR hv (by simp [execOp,ho,Act.eval,asBool];simp at ht;simp [ht]) h
 | _=>cases h

theorem zeroS_run{P:Program}{t:TypeId}{l:List Sc}(h:zeroS P t=some l):∃z:Value,l=z.cells.toList.map .v∧z.cells.toList.all (·.oneCell')=true∧∀w,(zeroValue t).run P w = .ok z w:=by
 unfold zeroS at h
 cases hi:P.info? t with
 | none=>rw [hi]at h;cases h
 | some i =>
  rw [hi]at h
  simp only at h
  cases hz:i.zero with
  | none=>rw [hz]at h;cases h
  | some z =>
   rw [hz]at h
   simp only at h
   cases ha:z.cells.toList.all (·.oneCell')with
   | false=>rw [ha]at h;cases h
   | true =>
    rw [ha]at h
    simp only [cond_true,Option.some.injEq]at h
    exact⟨z,h.symm,ha,fun w=>by simp [zeroValue,typeInfo,hi,hz]⟩

theorem RVs_cells{l:List Sc}{g:Bool}{v:Value}(h:RVs ι (l,g) v)(ht:(g||notTop l)=true):F2 (RSc ι) l v.cells.toList∧v.cells.size=l.length:=by
 unfold RVs at h
 cases g with
 | true =>
  simp only [if_true]at h
  obtain⟨vs,rfl,h⟩:=h
  exact⟨h,by simpa [Value.cells] using (F2_len h).symm⟩
 | false =>
  simp only [Bool.false_eq_true,if_false]at h
  obtain⟨c,rfl,h⟩:=h
  have h1:=RSc_one h (by simpa using ht)
  have e:v.cells = #[v]:=by cases v <;> simp_all [Value.cells,Value.oneCell']
  rw [e]
  exact⟨⟨h,trivial⟩,rfl⟩

theorem op_box{e:TypeId}{x:Operand}(ho:o.op = .box e x)(hR:Rel X σ ι a w)(h:(opPg X.C nid o).run σ=some ((),σ')):Done X o σ' a w:=by
 simp only [opPg,ho]at h
 obtain⟨av,hv,h⟩:=opnd_run hR h
 split at h
 ·rename_i l g
  cases hg:(g||notTop l)with
  | false=>rw [hg]at h;cases h
  | true =>
   rw [hg]at h
   obtain⟨hu,h⟩:=newB_run h
   obtain⟨hl,_⟩:=RVs_cells hv hg
   refine Done.put (hR.newCells hu (e:=e) hl) (RAV_ptr (upd_same _ _ _)) ?_ h
   simp [execOp,ho,Instr.box,newVar,newRow]
 ·cases h

theorem op_nilCheck{x:Operand}(ho:o.op = .nilCheck x)(hR:Rel X σ ι a w)(h:(opPg X.C nid o).run σ=some ((),σ')):Done X o σ' a w:=by
 simp only [opPg,ho]at h
 obtain⟨av,hv,h⟩:=opnd_run hR h
 split at h
 ·obtain⟨b,o0,e,hx⟩:=RAV_sc.1 hv
  exact Done.put hR hv (by simp [execOp,ho,hx]) h
 ·obtain⟨b,o',n,c,F,e,_,hx⟩:=RAV_sc.1 hv
  exact Done.put hR hv (by simp [execOp,ho,hx]) h
 ·obtain⟨vs,e,hx⟩:=RAV_sc.1 hv
  exact Done.put hR hv (by simp [execOp,ho,hx]) h
 ·obtain⟨hx,_⟩:=RAV_v.1 hv
  exact Done.put hR hv (by simp [execOp,ho,hx]) h
 ·cases h

theorem fieldOf_run{P:Program}{s:TypeId}{f off:Nat}{t:TypeId}{sz:Nat}(h:fieldOf P s f=some (off,t,sz)) :
  ∃fs fd,P.underlying s=some (.struct fs)∧fs[f]? = some fd∧fd.offset=off∧fd.type=t∧sizeB P t=some sz∧sz≠0:=by
 unfold fieldOf at h
 split at h
 ·rename_i fs hu
  split at h
  ·rename_i fd hf
   split at h
   ·rename_i i hi
    cases hz:Nat.beq i.size 0 with
    | true=>rw [hz]at h;cases h
    | false =>
     rw [hz]at h
     simp only [cond_false,Option.some.injEq,Prod.mk.injEq]at h
     obtain⟨rfl,rfl,rfl⟩:=h
     exact⟨fs,fd,hu,hf,rfl,rfl,by simp [sizeB,hi],fun e=>by rw [e]at hz;cases hz⟩
   ·cases h
  ·cases h
 ·cases h

theorem run_fieldAt{P:Program}{s:TypeId}{f off:Nat}{t:TypeId}{sz:Nat}(h:fieldOf P s f=some (off,t,sz))(b k:Nat)(w:World) :
  (Instr.fieldAt s (.pointer (some ⟨b,k,none⟩)) f).run P w = .ok (.pointer (some ⟨b,k+off,none⟩)) w:=by
 obtain⟨fs,fd,hu,hf,rfl,rfl,hs,hz⟩:=fieldOf_run h
 simp [Instr.fieldAt,run_underlying hu,hf,Instr.sureAddr,fieldPlace,run_sizeB hs,hz,Addr_add]

theorem op_fieldAddr{s:TypeId}{x:Operand}{f:Nat}(ho:o.op = .fieldAddr s x f)(hR:Rel X σ ι a w)(h:(opPg X.C nid o).run σ=some ((),σ')):Done X o σ' a w:=by
 simp only [opPg,ho]at h
 split at h
 ·rename_i off t sz hf
  obtain⟨av,hv,h⟩:=opnd_run hR h
  split at h
  ·obtain⟨b,o0,e,hx⟩:=RAV_sc.1 hv
   exact Done.put hR (RAV_ptr e) (by simp [execOp,ho,hx,run_fieldAt hf,Nat.add_assoc]) h
  ·obtain⟨b,o',n,c,F,e,hi,hx⟩:=RAV_sc.1 hv
   exact Done.put hR (RAV_elt e hi) (by simp [execOp,ho,hx,run_fieldAt hf,Nat.add_assoc]) h
  ·cases h
 ·cases h

theorem op_field{s:TypeId}{x:Operand}{f:Nat}(ho:o.op = .field s x f)(hR:Rel X σ ι a w)(h:(opPg X.C nid o).run σ=some ((),σ')):Done X o σ' a w:=by
 simp only [opPg,ho]at h
 split at h
 ·rename_i off t sz hf
  obtain⟨av,hv,h⟩:=opnd_run hR h
  split at h
  ·rename_i l
   split at h
   ·rename_i v hp
    obtain⟨vs,hx,hl⟩:=hv
    obtain⟨u,hu,hvu⟩:=part_part (w:=w) hp hl
    obtain⟨fs,fd,hu',hf',e1,e2,hs,hz⟩:=fieldOf_run hf
    refine Done.put hR hvu ?_ h
    simp [execOp,ho,hx,Instr.field,run_underlying hu',hf',asAgg,e1,e2,hu]
   ·cases h
  ·cases h
 ·cases h

theorem op_extract{x:Operand}{i:Nat}(ho:o.op = .extract x i)(hR:Rel X σ ι a w)(h:(opPg X.C nid o).run σ=some ((),σ')):Done X o σ' a w:=by
 simp only [opPg,ho]at h
 obtain⟨av,hv,h⟩:=opnd_run hR h
 split at h
 ·rename_i l
  split at h
  ·rename_i c hc
   obtain⟨vs,hx,hl⟩:=hv
   obtain⟨u,hu,hcu⟩:=F2_get hl hc
   have hu':vs[i]? = some u:=by simpa using hu
   exact Done.put hR (v := .one c.1 c.2) hcu (by simp [execOp,ho,hx,Instr.extract,hu']) h
  ·cases h
 ·cases h

theorem cell_at{w:World}{b:Nat}{arr:Array Value}{e:TypeId}{fr:Nat×Nat}(h:w.heap[b]? = some (.cells arr e fr))(k:Nat):w.cell? ⟨b,k,none⟩=arr[k]? := by
 simp [World.cell?,h]

theorem chk_none{par:List (Nat×Nat)}(h:par = []):ParOk σ.H par:=by rw [h];intro q hq;simp at hq

theorem RowR_elem{own:Bool}{t:Ty}{x:List t.T}{A:Option Addr}{n c:Nat}{F:List Nat}(h:RR own w t x A n c F){i:Nat}(hi:i<n) :
  ∃b o Fi cs,A=some ⟨b,o,none⟩∧(∀k∈Fi,k∈F)∧RE own w t (x.getD i t.dflt) cs Fi∧cs.length=t.size∧∀k u,cs[k]? = some u→w.cell? ⟨b,o+i*t.size+k,none⟩=some u:=by
 obtain⟨hn,hc,h | ⟨b,o,arr,e,fr,Fs,G,hA,hb,hf,hs,hF,hG,hl,hel⟩⟩:=h
 ·rw [h.1]at hn;simp at hn;omega
 ·have hx:i<x.length:=by omega
  have hFi:i<Fs.length:=by omega
  have:=hel i x[i] Fs[i] (List.getElem?_eq_getElem hx) (List.getElem?_eq_getElem hFi)
  refine⟨b,o,Fs[i],_,hA,fun k hk => ?_,by rw [List.getD_eq_getElem?_getD,List.getElem?_eq_getElem hx];exact this,RE_len this,fun k u hu => ?_⟩
  ·rw [hF];exact List.mem_cons_of_mem _ (List.mem_append.2 (.inl (List.mem_flatten.2 ⟨Fs[i],List.getElem_mem hFi,hk⟩)))
  ·rw [cell_at hb]
   have:=take_drop_get hu
   simpa using this

theorem idx_run{t:Ty}{xs:List (List t.T)}{id i ver:Nat}{A:Option Addr}{n c:Nat}{F:List Nat}{k:Pg α}{r:α×St}(hR:Rel X σ ι a w)(hb:σ.H id = .row (.sl t) xs true ver [])(e:ι id = .row A n c F)(hi:i<n)
  (h:(newBs nid (unT false [(id,ver)] (.sl t) (xs.getD i []) nid).2 (newB (nid+4) (.idx t xs nid i id ver) k)).run σ=some r) :
  ∃σ1 ι1 b o cs arr el A2 n2 c2 F2',A=some ⟨b,o,none⟩∧Rel X σ1 ι1 a w∧F2 (RSc ι1) (unT false [(id,ver)] (.sl t) (xs.getD i []) nid).1 cs∧(∀k u,cs[k]? = some u→w.cell? ⟨b,o+i*1+k,none⟩=some u) ∧
   (Lift ι ι1∧ι1 nid = .row A2 n2 c2 F2'∧w.heap[b]? = some (.cells arr el (0,0))∧(arr.toList.drop (o+i*1)).take 1 = [.slice A2 n2 c2])∧k.run σ1=some r:=by
 have hbl:=hR.bl id
 rw [hb]at hbl
 obtain⟨A',n',c',F',h1,h2⟩:=hbl
 rw [e]at h1
 cases h1
 have h2:=h2 (chk_none rfl)
 have hlt:=hR.lt id (by rw [hb];rfl)
 rw [e]at hlt
 simp only [Home.foot]at hlt
 obtain⟨hn,hc,h3 | ⟨b,o,arr,el,fr,Fs,G,hA,hw,hf,hs,hF,hG,hl,hel⟩⟩:=h2
 ·rw [h3.1]at hn;simp at hn;omega
 ·have hx:i<xs.length:=by omega
  have hFi:i<Fs.length:=by omega
  have hf:=hf rfl
  subst hf
  have hr:=hel i xs[i] Fs[i] (List.getElem?_eq_getElem hx) (List.getElem?_eq_getElem hFi)
  have hgx:xs.getD i []=xs[i]:=by rw [List.getD_eq_getElem?_getD,List.getElem?_eq_getElem hx];rfl
  have hFsub:∀k∈Fs[i],k∈F:=fun k hk=>by rw [hF];exact List.mem_cons_of_mem _ (List.mem_append.2 (.inl (List.mem_flatten.2 ⟨Fs[i],List.getElem_mem hFi,hk⟩)))
  obtain⟨A2,n2,c2,hcs,hrow⟩:=hr
  simp only [Ty.size]at hcs hs
  simp only [unT,newBs]at h ⊢
  obtain⟨hu,h⟩:=newB_run h
  have hpar:ParOk σ.H [(id,ver)]:=by intro q hq;simp at hq;subst hq;exact⟨_,_,_,hb⟩
  have hne:id≠nid:=by rintro rfl;rw [hb]at hu;cases hu
  have hR1:=hR.newId hu (blk := .row t (xs.getD i []) false 0 [(id,ver)]) (home := .row A2 n2 c2 Fs[i]) (w':=w) (WLe.refl _) (fun _ _=>rfl) (fun _=>⟨A2,n2,c2,Fs[i],rfl,fun _=>by rw [hgx];exact RR_ro hrow⟩)
   (fun _ H w ι' _ hf=>⟨_,_,_,_,rfl,fun h=>(hf h).elim⟩) (fun _ k hk=>hlt k (hFsub k hk)) (fun h=>by cases h)
   (fun j he _ _ hr k hk hk2=>by
    have hj:j≠id:=by intro e2;apply hr;simp [Blk.par,e2]
    have:=hR.sep j id hj he (by rw [hb];rfl) (by rw [hb];exact chk_none rfl) (by rw [hb];simp [Blk.par]) k hk
    rw [e]at this
    exact this (hFsub k hk2))
   (fun q hq=>by simp [Blk.par]at hq;subst hq;rw [hb];simp) (fun q hq ver e'=>by simp [Blk.par]at hq;subst hq;rw [hb]at e'; cases e'; exact Nat.le_refl _) (by simp)
  have hb1:(σ.setH nid (.row t (xs.getD i []) false 0 [(id,ver)])).H id = .row (.sl t) xs true ver []:=by rw [setH_ne _ _ hne,hb]
  have e1:upd ι nid (.row A2 n2 c2 Fs[i]) id = .row A n c F:=by rw [upd_ne _ _ hne,e]
  obtain⟨hu1,h⟩:=newB_run h
  have hR2:=hR1.newId hu1 (blk := .idx t xs nid i id ver) (home := .row A n c F) (w':=w) (WLe.refl _) (fun _ _=>rfl)
   (fun _=>⟨A,n,c,F,rfl,e1,fun _=>⟨b,o,arr,el,Fs,G,A2,n2,c2,Fs[i],hA,hn,hc,hw,by simpa using hs,⟨hF,hG⟩,hl,hel,hcs,List.getElem?_eq_getElem hFi,upd_same _ _ _⟩⟩)
   (fun _ H w ι' hL hf=>⟨A,n,c,F,rfl,hL.eq e1 (by simp),fun h=>(hf h).elim⟩) (fun _ k hk=>hlt k hk) (fun h=>by cases h)
   (fun j he _ _ hr k hk hk2=>by
    have hj:j≠id:=by intro e2;apply hr;simp [Blk.par,e2]
    have:=hR1.sep j id hj he (by rw [hb1];rfl) (by rw [hb1];exact chk_none rfl) (by rw [hb1];simp [Blk.par]) k hk
    rw [e1]at this
    exact this hk2)
   (fun q hq=>by simp [Blk.par]at hq;subst hq;rw [hb1];simp) (fun q hq ver e'=>by simp [Blk.par]at hq;subst hq;rw [hb1]at e'; cases e'; exact Nat.le_refl _) (by simp)
  have hn0:=hR.unborn hu
  have hn1:=hR1.unborn hu1
  refine⟨_,_,b,o,[.slice A2 n2 c2],arr,el,A2,n2,c2,Fs[i],hA,hR2,⟨⟨A2,n2,c2,Fs[i],?_,rfl⟩,trivial⟩,fun k u hu => ?_,⟨?_,?_,hw,hcs⟩,h⟩
  ·rw [upd_ne _ _ (by omega),upd_same]
  ·rw [cell_at hw]
   rw [←hcs]at hu
   have:=take_drop_get hu
   simpa using this
  ·intro j hj
   rw [upd_ne _ _ (fun e2=>by subst e2;exact hj (by rw [upd_ne _ _ (by omega)]at hn1;exact hn1)),upd_ne _ _ (fun e2=>hj (by rw [e2];exact hn0))]
  ·rw [upd_ne _ _ (by omega),upd_same]

theorem op_load{t:TypeId}{x:Operand}(ho:o.op = .load t x)(hR:Rel X σ ι a w)(h:(opPg X.C nid o).run σ=some ((),σ')):Done X o σ' a w:=by
 simp only [opPg,ho]at h
 obtain⟨av,hv,h⟩:=opnd_run hR h
 split at h
 ·rename_i i
  obtain⟨b,o',hA,hi,hx⟩:=RAV_sc.1 hv
  split at h
  ·rename_i v hp
   obtain⟨b',o'',Fi,cs,hA',hFi,hre,hlen,hcell⟩:=RowR_elem hR.kin hi
   rw [hA]at hA'
   cases hA'
   obtain⟨hcs,_⟩:=hre
   obtain⟨u,hu,hvu⟩:=loadVar_part (w:=w) hp (b:=b) (base:=o'+i*1) hcell (ι:=ι) (by rw [hcs];exact⟨⟨rfl,rfl⟩,trivial⟩)
   refine Done.put hR hvu ?_ h
   simp only [Nat.mul_one,Nat.add_zero]at hu
   simp [execOp,ho,hx,Instr.loadAt,Instr.sureAddr,hu]
  ·cases h
 ·rename_i id off
  obtain⟨b,o0,e,hx⟩:=RAV_sc.1 hv
  replace h:=getB_run h
  split at h
  ·rename_i l ro hb
   split at h
   ·rename_i v hp
    have hbl:=hR.bl id
    rw [hb]at hbl
    obtain⟨b',o',arr,e',fr,h1,h2,h3,h4,h5⟩:=hbl
    rw [e]at h1
    cases h1
    obtain⟨u,hu,hvu⟩:=loadVar_part (w:=w) hp (b:=b) (base:=o0) (fun k u hk=>by
     have:=take_drop_get hk
     rw [cell_at h2];simpa using this) h5
    exact Done.put hR hvu (by simp [execOp,ho,hx,Instr.loadAt,Instr.sureAddr,hu]) h
   ·cases h
  ·cases h
 ·rename_i id i j sz
  obtain⟨b,o',n,c,F,e,hi,hx⟩:=RAV_sc.1 hv
  replace h:=getB_run h
  have taken:∀ {ty:Ty} {xs:List ty.T} {kk:Nat} {v:AV},ty.size=sz→(σ.H id).excl=true→Hof w ty xs kk (some ⟨b,o',none⟩) n c F→partS X.C.P t (unT true [] ty (xs.getD i ty.dflt) (nid+1)).1 j=some v →
    (takeH ty xs nid i kk id X.C.rt (putD X.C o.dst v (.ret ()))).run σ=some ((),σ')→Done X o σ' a w:=by
   intro ty xs kk v hsz hex hh hpt h
   obtain⟨σ1,ι1,b2,o2,cs2,hA2,hR1,hF1,hcell2,h⟩:=takeH_run hR hex e hh hi h
   cases hA2
   obtain⟨u,hu,hvu⟩:=loadVar_part (w:=w) hpt (b:=b) (base:=o'+i*ty.size) hcell2 hF1
   refine Done.put hR1 hvu ?_ h
   simp [execOp,ho,hx,Instr.loadAt,Instr.sureAddr,←hsz,hu]
  split at h
  ·rename_i ty xs kk hb
   cases hz:(Nat.beq ty.size sz&&hofB X.C.share o.dst)with
   | false=>rw [hz]at h;cases h
   | true =>
    rw [hz]at h
    simp only [cond_true]at h
    rw [Bool.and_eq_true]at hz
    split at h
    ·rename_i v hpt
     have hbl:=hR.bl id
     rw [hb]at hbl
     obtain⟨A',n',c',F',h1,h2⟩:=hbl
     rw [e]at h1
     cases h1
     exact taken (Nat.eq_of_beq_eq_true hz.1) (by rw [hb];rfl) h2 hpt h
    ·cases h
  ·rename_i ty xs own ver par hb
   cases hz:Nat.beq ty.size sz with
   | false=>rw [hz]at h;cases h
   | true =>
    rw [hz]at h
    simp only [cond_true]at h
    obtain⟨hp,h⟩:=chkPar_run h
    have hsz:=Nat.eq_of_beq_eq_true hz
    have hbl:=hR.bl id
    rw [hb]at hbl
    obtain⟨A',n',c',F',h1,h2⟩:=hbl
    rw [e]at h1
    cases h1
    obtain⟨b',o'',Fi,cs,hA,hFi,hre,hlen,hcell⟩:=RowR_elem (h2 hp) hi
    cases hA
    cases hho:hofB X.C.share o.dst with
    | true =>
     rw [hho]at h
     simp only [cond_true]at h
     split at h
     ·rename_i v hpt
      cases how:(own&&par.isEmpty)with
      | false=>rw [how]at h;cases h
      | true =>
       rw [how]at h
       simp only [cond_true]at h
       have h9:=h
       rw [Bool.and_eq_true,List.isEmpty_iff]at how
       obtain⟨rfl,rfl⟩:=how
       exact taken hsz (by rw [hb];rfl) (RR_hof (h2 hp)) hpt h9
     ·cases h
    | false =>
    rw [hho]at h
    simp only [cond_false]at h
    cases hsh:shareB X.C.share o.dst with
    | true =>
     rw [hsh]at h
     simp only [cond_true]at h
     split at h
     ·rename_i v hpt
      obtain⟨σ1,ι1,b2,o2,cs2,hA2,hR1,hF1,hcell2,h⟩:=takeB_run hR hb e hi h
      cases hA2
      obtain⟨u,hu,hvu⟩:=loadVar_part (w:=w) hpt (b:=b) (base:=o'+i*ty.size) hcell2 hF1
      refine Done.put hR1 hvu ?_ h
      simp [execOp,ho,hx,Instr.loadAt,Instr.sureAddr,←hsz,hu]
     ·cases h
    | false =>
    rw [hsh]at h
    simp only [cond_false]at h
    split at h
    ·rename_i v hpt
     by_cases hq:own=true∧par = []∧∃t2,ty = .sl t2
     ·obtain⟨rfl,rfl,t2,rfl⟩:=hq
      simp only [cond_true,List.append_nil,Ty.dflt,idxB]at h hpt
      obtain⟨σ1,ι1,b2,o2,cs2,_,_,_,_,_,_,hA2,hR1,hF1,hcell2,_,h⟩:=idx_run hR hb e hi h
      cases hA2
      obtain⟨u,hu,hvu⟩:=loadVar_part (w:=w) hpt (b:=b) (base:=o'+i*1) hcell2 hF1
      refine Done.put hR1 hvu ?_ h
      simp only [Ty.size]at hsz
      rw [Nat.mul_one]at hu
      simp [execOp,ho,hx,Instr.loadAt,Instr.sureAddr,←hsz,hu]
     have hid:∀(k:Pg Unit),idxB own ty xs nid i id ver par k=k:=by
      intro k
      unfold idxB
      split
      ·exact(hq ⟨rfl,rfl,_,rfl⟩).elim
      ·rfl
     rw [hid]at h
     obtain⟨σ1,ι1,hR1,hL1,hE1,hF1,h⟩:=unT_ro hR hre (par:=(bif own then [(id,ver)]else [])++par) (by
       cases own with
       | true =>
        intro q hq
        rcases List.mem_append.1 hq with hq | hq
        ·simp at hq;subst hq;exact⟨ty,xs,par,hb⟩
        ·exact hp q hq
       | false=>simpa using hp) (by
       intro k hk hr u hu hu2
       have hk1:k≠id∨own=false:=by
        cases own with
        | true=>left;intro e;apply hr;simp [e]
        | false=>exact .inr rfl
       have hk2:k ∉ par.map (·.1):=fun hm=>hr (by rw [List.map_append];exact List.mem_append.2 (.inr hm))
       have hk3:k≠id:=by
        rcases hk1 with hq1 | hq1
        ·exact hq1
        ·rintro rfl;rw [hb,hq1]at hk;cases hk
       have:=hR.sep k id hk3 hk (by rw [hb];rfl) (by rw [hb];exact hp) (by rw [hb];exact hk2) u hu
       rw [e]at this
       exact this (hFi u hu2)) h
     obtain⟨u,hu,hvu⟩:=loadVar_part (w:=w) hpt (b:=b) (base:=o'+i*ty.size) hcell hF1
     refine Done.put hR1 hvu ?_ h
     simp [execOp,ho,hx,Instr.loadAt,Instr.sureAddr,←hsz,hu]
    ·cases h
  ·rename_i ty xs ys ver par hb
   cases hz:Nat.beq ty.size sz with
   | false=>rw [hz]at h;cases h
   | true =>
    rw [hz]at h
    simp only [cond_true]at h
    obtain⟨hp,h⟩:=chkPar_run h
    have hsz:=Nat.eq_of_beq_eq_true hz
    obtain⟨hn,hrr⟩:=win_of hR hb hp e
    obtain⟨b',o'',Fi,cs,hA,hFi,hre,hlen,hcell⟩:=RowR_elem (RR_pre hn hrr) hi
    cases hA
    split at h
    ·rename_i v hpt
     obtain⟨σ1,ι1,hR1,hL1,hE1,hF1,h⟩:=unT_ro hR hre (par:=par) hp (by
       intro k hk hr u hu hu2
       have hk3:k≠id:=by
        rintro rfl;rw [hb]at hk;cases hk
       have:=hR.sep k id hk3 hk (by rw [hb];rfl) (by rw [hb];exact hp) (by rw [hb];exact hr) u hu
       rw [e]at this
       exact this (hFi u hu2)) h
     obtain⟨u,hu,hvu⟩:=loadVar_part (w:=w) hpt (b:=b) (base:=o'+i*ty.size) hcell hF1
     refine Done.put hR1 hvu ?_ h
     simp [execOp,ho,hx,Instr.loadAt,Instr.sureAddr,←hsz,hu]
    ·cases h
  ·cases h
 ·cases h
end
end Go.Ev
namespace Go.Ev
open Go
variable [KSl]

section
variable {X : Ctx} {σ σ' : St} {ι : Nat → Home} {a : Act} {w : World} {α : Type} {o : Oper} {nid : Nat}

theorem op_alloc{e:TypeId}(ho:o.op = .alloc e)(hR:Rel X σ ι a w)(h:(opPg X.C nid o).run σ=some ((),σ')):Done X o σ' a w:=by
 simp only [opPg,ho]at h
 split at h
 ·rename_i l hz
  obtain⟨z,rfl,ha,hz⟩:=zeroS_run hz
  obtain⟨hu,h⟩:=newB_run h
  refine Done.put (hR.newCells hu (e:=e) (arr:=z.cells) (F2_plain ha)) (RAV_ptr (upd_same _ _ _)) ?_ h
  simp [execOp,ho,Instr.alloc,hz,newVar,newRow]
 ·cases h

theorem among_run{n:Nat}{i:Int}{k:Nat→Pg α}{r:α×St}:∀ {m:Nat},(among n i k m).run σ=some r→m≤n→∃j:Nat,j<n∧i=(j:Int)∧(k j).run σ=some r
 | 0,h,_=>by cases h
 | m+1,h,hm=>by
  simp only [among,Pg.run]at h
  cases he:(i==((n - (m+1):Nat):Int))with
  | true =>
   rw [he]at h
   exact⟨n - (m+1),by omega,by simpa using he,h⟩
  | false =>
   rw [he]at h
   exact among_run (m:=m) h (by omega)

theorem sliceOf_run{P:Program}{t e:TypeId}(h:sliceOf P t=some e):P.underlying t=some (.slice e):=by
 unfold sliceOf at h
 split at h
 ·rename_i e' hu;cases h;exact hu
 ·cases h

theorem arrayOf_run{P:Program}{t e:TypeId}{n sz:Nat}(h:arrayOf P t=some (n,e,sz)):P.underlying t=some (.array n e)∧sizeB P e=some sz∧sz≠0:=by
 unfold arrayOf at h
 split at h
 ·rename_i n' e' hu
  split at h
  ·rename_i i hi
   cases hz:Nat.beq i.size 0 with
   | true=>rw [hz]at h;cases h
   | false =>
    rw [hz]at h
    simp only [cond_false,Option.some.injEq,Prod.mk.injEq]at h
    obtain⟨rfl,rfl,rfl⟩:=h
    exact⟨hu,by simp [sizeB,hi],fun e=>by rw [e]at hz;cases hz⟩
  ·cases h
 ·cases h

theorem elemSize_run{P:Program}{t:TypeId}{n:Nat}(h:elemSz P t n=true) :
  ∃e,P.underlying t=some (.slice e)∧sizeB P e=some n:=by
 unfold elemSz at h
 split at h
 ·rename_i e he
  split at h
  ·rename_i sz hs
   exact⟨e,sliceOf_run he,by rw [hs,Nat.eq_of_beq_eq_true h]⟩
  ·cases h
 ·cases h

theorem row_of(hR:Rel X σ ι a w){id:Nat}{ty:Ty}{xs:List ty.T}{own:Bool}{ver:Nat}{par:List (Nat×Nat)}(hb:σ.H id = .row ty xs own ver par)(hp:ParOk σ.H par)
  {A:Option Addr} {n c:Nat} {F:List Nat} (e:ι id = .row A n c F):RR own w ty xs A n c F:=by
 have hbl:=hR.bl id
 rw [hb]at hbl
 obtain⟨A',n',c',F',h1,h2⟩:=hbl
 rw [e]at h1
 cases h1
 exact h2 hp

theorem op_indexAddr{t:TypeId}{x i:Operand}(ho:o.op = .indexAddr t x i)(hR:Rel X σ ι a w)(h:(opPg X.C nid o).run σ=some ((),σ')):Done X o σ' a w:=by
 simp only [opPg,ho]at h
 obtain⟨av,hv,h⟩:=opnd_run hR h
 split at h
 ·obtain hx:a.eval x=KSl.s:=RAV_sc.1 hv
  unfold KSl.s at hx
  obtain⟨av2,hv2,h⟩:=opnd_run hR h
  split at h
  ·rename_i q m
   obtain⟨hy,_⟩:=RAV_v.1 hv2
   cases hz:elemSz X.C.P t 1 with
   | false=>rw [hz]at h;cases h
   | true =>
    rw [hz]at h
    simp only [cond_true]at h
    obtain⟨el,hu,hs⟩:=elemSize_run hz
    have hr:=hR.kin
    simp only [Pg.run]at h
    cases h0:decide (0≤m)with
    | false=>rw [h0]at h;cases h
    | true =>
     rw [h0]at h
     simp only [cond_true]at h
     cases h1:decide (m<(KSl.xs.length:Int))with
     | false=>rw [h1]at h;cases h
     | true =>
      rw [h1]at h
      simp only [cond_true]at h
      have h0:=of_decide_eq_true h0
      have h1:=of_decide_eq_true h1
      have hn:=hr.1
      have hi:m.toNat<KSl.n:=by omega
      obtain⟨b,o',Fi,cs,hA,_⟩:=RowR_elem hr hi
      rw [hA]at hx
      refine Done.put hR (v := .sc (.ke m.toNat)) (u := .pointer (some ⟨b,o'+m.toNat,none⟩)) (RAV_sc.2 ⟨b,o',hA,hi,rfl⟩) ?_ h
      have hmn:m<(KSl.n:Int):=by omega
      simp [execOp,ho,hx,hy,Instr.indexAt,asIntOf,run_underlying hu,h0,hmn,run_sizeB hs,Addr_add]
  ·cases h
 ·rename_i id
  obtain⟨A,n,c,F,e,hx⟩:=RAV_sc.1 hv
  obtain⟨av2,hv2,h⟩:=opnd_run hR h
  split at h
  ·rename_i q m
   obtain⟨hy,_⟩:=RAV_v.1 hv2
   replace h:=getB_run h
   split at h
   ·rename_i ty xs own ver par hb
    cases hz:elemSz X.C.P t ty.size with
    | false=>rw [hz]at h;cases h
    | true =>
     rw [hz]at h
     simp only [cond_true]at h
     obtain⟨hp,h⟩:=chkPar_run h
     obtain⟨el,hu,hs⟩:=elemSize_run hz
     have hr:=row_of hR hb hp e
     simp only [Pg.run]at h
     cases h0:decide (0≤m)with
     | false=>rw [h0]at h;cases h
     | true =>
      rw [h0]at h
      simp only [cond_true]at h
      cases h1:decide (m<(xs.length:Int))with
      | false=>rw [h1]at h;cases h
      | true =>
       rw [h1]at h
       simp only [cond_true]at h
       have h0:=of_decide_eq_true h0
       have h1:=of_decide_eq_true h1
       have hn:=hr.1
       have hi:m.toNat<n:=by omega
       obtain⟨b,o',Fi,cs,hA,_⟩:=RowR_elem hr hi
       subst hA
       refine Done.put hR (RAV_elt e hi) ?_ h
       have hmn:m<(n:Int):=by omega
       simp [execOp,ho,hx,hy,Instr.indexAt,asIntOf,run_underlying hu,h0,hmn,run_sizeB hs,Addr_add]
   ·rename_i ty xs ys own ver par hb
    cases hz:elemSz X.C.P t ty.size with
    | false=>rw [hz]at h;cases h
    | true =>
     rw [hz]at h
     simp only [cond_true]at h
     obtain⟨hp,h⟩:=chkPar_run h
     obtain⟨el,hu,hs⟩:=elemSize_run hz
     obtain⟨hn,hrr⟩:=win_of hR hb hp e
     have hr:=RR_pre hn hrr
     simp only [Pg.run]at h
     cases h0:decide (0≤m)with
     | false=>rw [h0]at h;cases h
     | true =>
      rw [h0]at h
      simp only [cond_true]at h
      cases h1:decide (m<(xs.length:Int))with
      | false=>rw [h1]at h;cases h
      | true =>
       rw [h1]at h
       simp only [cond_true]at h
       have h0:=of_decide_eq_true h0
       have h1:=of_decide_eq_true h1
       have hi:m.toNat<n:=by omega
       obtain⟨b,o',Fi,cs,hA,_⟩:=RowR_elem hr hi
       subst hA
       refine Done.put hR (RAV_elt e hi) ?_ h
       have hmn:m<(n:Int):=by omega
       simp [execOp,ho,hx,hy,Instr.indexAt,asIntOf,run_underlying hu,h0,hmn,run_sizeB hs,Addr_add]
   ·rename_i ty xs i0 hb
    cases hz:elemSz X.C.P t ty.size with
    | false=>rw [hz]at h;cases h
    | true =>
     rw [hz]at h
     simp only [cond_true]at h
     obtain⟨el,hu,hs⟩:=elemSize_run hz
     have hbl:=hR.bl id
     rw [hb]at hbl
     obtain⟨A',n',c',L',h1,b,o',arr,el2,Fs,G,hA,hn,_⟩:=hbl
     rw [e]at h1
     cases h1
     simp only [Pg.run]at h
     cases h0:decide (0≤m)with
     | false=>rw [h0]at h;cases h
     | true =>
      rw [h0]at h
      simp only [cond_true]at h
      cases h1:decide (m<(xs.length:Int))with
      | false=>rw [h1]at h;cases h
      | true =>
       rw [h1]at h
       simp only [cond_true]at h
       have h0:=of_decide_eq_true h0
       have h1:=of_decide_eq_true h1
       have hi:m.toNat<n:=by omega
       subst hA
       refine Done.put hR (RAV_elt e hi) ?_ h
       have hmn:m<(n:Int):=by omega
       simp [execOp,ho,hx,hy,Instr.indexAt,asIntOf,run_underlying hu,h0,hmn,run_sizeB hs,Addr_add]
   ·rename_i ty xs kk hb
    cases hz:elemSz X.C.P t ty.size with
    | false=>rw [hz]at h;cases h
    | true =>
     rw [hz]at h
     simp only [cond_true]at h
     obtain⟨el,hu,hs⟩:=elemSize_run hz
     have hbl:=hR.bl id
     rw [hb]at hbl
     obtain⟨A',n',c',L',h1,hn,_,_,hh⟩:=hbl
     rw [e]at h1
     cases h1
     simp only [Pg.run]at h
     cases h0:decide (0≤m)with
     | false=>rw [h0]at h;cases h
     | true =>
      rw [h0]at h
      simp only [cond_true]at h
      cases h1:decide (m<(xs.length:Int))with
      | false=>rw [h1]at h;cases h
      | true =>
       rw [h1]at h
       simp only [cond_true]at h
       have h0:=of_decide_eq_true h0
       have h1:=of_decide_eq_true h1
       have hi:m.toNat<n:=by omega
       obtain⟨b,o',hA⟩:∃b o',A=some ⟨b,o',none⟩:=by
        rcases hh with h9 | ⟨b,o',_,_,_,_,hA,_⟩
        ·rw [h9.1]at hn;simp at hn;omega
        ·exact⟨b,o',hA⟩
       subst hA
       refine Done.put hR (RAV_elt e hi) ?_ h
       have hmn:m<(n:Int):=by omega
       simp [execOp,ho,hx,hy,Instr.indexAt,asIntOf,run_underlying hu,h0,hmn,run_sizeB hs,Addr_add]
   ·cases h
  ·cases h
 ·rename_i id off
  obtain⟨b,o0,e,hx⟩:=RAV_sc.1 hv
  split at h
  ·rename_i m el sz ha
   obtain⟨hu,hs,hz⟩:=arrayOf_run ha
   obtain⟨av2,hv2,h⟩:=opnd_run hR h
   split at h
   ·rename_i q i'
    obtain⟨hy,_⟩:=RAV_v.1 hv2
    obtain⟨j,hj,e2,h2⟩:=among_run h (Nat.le_refl _)
    subst e2
    refine Done.put hR (RAV_ptr e) ?_ h2
    have h1:(j:Int)<(m:Int):=by omega
    simp [execOp,ho,hx,hy,Instr.indexAt,asIntOf,run_underlying hu,hj,run_sizeB hs,Addr_add,Instr.sureAddr,Nat.add_assoc]
   ·cases h
  ·cases h
 ·rename_i id m
  obtain⟨b,e,hx⟩:=RAV_sc.1 hv
  cases hz:elemSz X.C.P t 1 with
  | false=>rw [hz]at h;cases h
  | true =>
   rw [hz]at h
   simp only [cond_true]at h
   obtain⟨el,hu,hs⟩:=elemSize_run hz
   obtain⟨av2,hv2,h⟩:=opnd_run hR h
   split at h
   ·rename_i q i'
    obtain⟨hy,_⟩:=RAV_v.1 hv2
    obtain⟨j,hj,e2,h2⟩:=among_run h (Nat.le_refl _)
    subst e2
    refine Done.put hR (RAV_ptr e) ?_ h2
    have h1:(j:Int)<(m:Int):=by omega
    simp [execOp,ho,hx,hy,Instr.indexAt,asIntOf,run_underlying hu,hj,run_sizeB hs,Addr_add]
   ·cases h
 ·cases h

theorem op_index{t:TypeId}{x i:Operand}(ho:o.op = .index t x i)(hR:Rel X σ ι a w)(h:(opPg X.C nid o).run σ=some ((),σ')):Done X o σ' a w:=by
 simp only [opPg,ho]at h
 obtain⟨av,hv,h⟩:=opnd_run hR h
 split at h
 ·rename_i s
  obtain⟨hx,_⟩:=RAV_v.1 hv
  cases hs:isStr X.C.P t with
  | false=>rw [hs]at h;cases h
  | true =>
   rw [hs]at h
   simp only [cond_true]at h
   obtain⟨av2,hv2,h⟩:=opnd_run hR h
   split at h
   ·rename_i q n
    obtain⟨hy,_⟩:=RAV_v.1 hv2
    simp only [Pg.run]at h
    cases h0:decide (0≤n)with
    | false=>rw [h0]at h;cases h
    | true =>
     rw [h0]at h
     simp only [cond_true]at h
     cases h1:decide (n<(s.size:Int))with
     | false=>rw [h1]at h;cases h
     | true =>
      rw [h1]at h
      simp only [cond_true]at h
      have h0:=of_decide_eq_true h0
      have h1:=of_decide_eq_true h1
      have hu:X.C.P.underlying t=some .string:=by
       unfold isStr at hs
       split at hs
       ·assumption
       ·cases hs
      have hlt:n.toNat<s.size:=by omega
      have hg:s[n.toNat]? = some (s.data.getD n.toNat 0):=by
       rw [getElem?_pos s n.toNat hlt]
       congr 1
       simp [Array.getD,ByteArray.getElem_eq_getElem_data]
       intro hh
       omega
      refine Done.put hR (RAV_v.2 ⟨rfl,rfl⟩) ?_ h
      simp [execOp,ho,hx,hy,Instr.index,asIntOf,run_underlying hu,h0,hg]
   ·cases h
 ·rename_i l
  obtain⟨vs,hx,hl⟩:=hv
  split at h
  ·rename_i m el sz ha
   obtain⟨hu,hs,hz⟩:=arrayOf_run ha
   obtain⟨av2,hv2,h⟩:=opnd_run hR h
   split at h
   ·rename_i q i'
    obtain⟨hy,_⟩:=RAV_v.1 hv2
    obtain⟨j,hj,e2,h2⟩:=among_run h (Nat.le_refl _)
    subst e2
    split at h2
    ·rename_i v hp
     obtain⟨u,hu',hvu⟩:=part_part (w:=w) hp hl
     refine Done.put hR hvu ?_ h2
     simp [execOp,ho,hx,hy,Instr.index,asIntOf,run_underlying hu,hj,run_sizeB hs,hu']
    ·cases h2
   ·cases h
  ·cases h
 ·cases h

theorem flatten_sub{l:List (List Nat)}{h k:Nat}:∀b∈((l.take h).drop k).flatten,b∈l.flatten:=by
 intro b hb
 obtain⟨m,hm,hb⟩:=List.mem_flatten.1 hb
 exact List.mem_flatten.2 ⟨m,List.mem_of_mem_take (List.mem_of_mem_drop hm),hb⟩

theorem RR_part{own:Bool}{t:Ty}{xs:List t.T}{A:Option Addr}{n c:Nat}{F:List Nat}(hr:RR own w t xs A n c F){l h m:Nat}(hl:l≤h)(hh:h≤n)(hm:h≤m) :
  ∃F',(∀b∈F',b∈F)∧RR false w t ((xs.take h).drop l) (if m=l then A else A.map (·.add (l*t.size))) (h - l) (m - l) F':=by
 obtain⟨hn,hc,hr⟩:=hr
 have hlen:((xs.take h).drop l).length=h - l:=by rw [List.length_drop,List.length_take];omega
 by_cases he:h=l
 ·refine⟨[],by simp,by rw [hlen],by omega,.inl ⟨?_,rfl,by simp⟩⟩
  apply List.eq_nil_of_length_eq_zero;rw [hlen];omega
 ·rcases hr with hr | ⟨b,o,arr,e,fr,Fs,G,hA,hb,hf,hs,hF,hG,hFs,hel⟩
  ·rw [hr.1]at hn;simp at hn;omega
  ·refine⟨b::((Fs.take h).drop l).flatten,?_,by rw [hlen],by omega,.inr ⟨b,o+l*t.size,arr,e,fr,(Fs.take h).drop l,[],?_,hb,by simp,?_,by simp,by simp,?_,?_⟩⟩
   ·intro k hk
    rw [hF]
    rcases List.mem_cons.1 hk with rfl | hk
    ·simp
    ·exact List.mem_cons_of_mem _ (List.mem_append.2 (.inl (flatten_sub k hk)))
   ·have:m≠l:=by omega
    simp [this,hA,Addr_add]
   ·simp only [Bool.false_eq_true,if_false]
    refine Nat.le_trans ?_ hs
    rw [Nat.add_assoc,←Nat.add_mul]
    refine Nat.add_le_add_left (Nat.mul_le_mul_right _ ?_) _
    cases own <;> simp <;> omega
   ·rw [hlen,List.length_drop,List.length_take];omega
   ·intro i x Fi hx hFi
    have hx':=hx
    rw [List.getElem?_drop,List.getElem?_take]at hx hFi
    split at hx
    ·rename_i hlt
     rw [if_pos hlt]at hFi
     have:=hel (l+i) x Fi hx hFi
     refine RE_mono (own:=own) (by simp) (fun _ _=>rfl) ?_
     rw [show o+l*t.size+i*t.size=o+(l+i)*t.size by rw [Nat.add_mul];omega]
     exact this
    ·cases hx

theorem optInt_run(hR:Rel X σ ι a w){x:Option Operand}{d:Int}{k:Int→Pg α}{r:α×St}(h:(optInt x d k).run σ=some r) :
  ∃n,(k n).run σ=some r∧(x=none∧n=d∨∃o q,x=some o∧a.eval o = .int q n):=by
 unfold optInt at h
 cases x with
 | none=>exact⟨d,h,.inl ⟨rfl,rfl⟩⟩
 | some o =>
  obtain⟨av,hv,h⟩:=opnd_run hR h
  split at h
  ·rename_i q n
   exact⟨n,h,.inr ⟨o,q,rfl,(RAV_v.1 hv).1⟩⟩
  ·cases h

theorem brIf_run{c b:Bool}{k:Pg α}{r:α×St}(h:(brIf c b k).run σ=some r):(c=true→b=true)∧k.run σ=some r:=by
 unfold brIf at h
 cases c with
 | false=>exact⟨by simp,h⟩
 | true =>
  simp only [cond_true,Pg.run]at h
  cases b with
  | false=>cases h
  | true=>exact⟨fun _=>rfl,h⟩

theorem run_sliceBound{P:Program}{q:IntKind}{i:Int}{y:Nat}{code:BoundsCode}{w:World}(h0:0≤i)(h1:i≤(y:Int)):(Instr.sliceBound (.int q i) y code).run P w = .ok i.toNat w:=by
 simp [Instr.sliceBound,asIntOf,h0,h1]

theorem plainScs_run:∀ {l:List Sc} {xs vs:List Value},plainScs l=some xs→F2 (RSc ι) l vs→vs=xs
 | [],xs,[],h,_=>by simpa [plainScs] using h
 | c::l,xs,v::vs,h,hl=>by
  unfold plainScs at h
  split at h
  ·rename_i x ys hx hys
   cases h
   cases c <;> simp [plainSc]at hx
   subst hx
   rw [plainScs_run hys hl.2,hl.1.1]
  ·cases h

theorem plainAV_run{av:AV}{x v:Value}(h:plainAV av=some x)(hv:RAV ι av v):v=x:=by
 unfold plainAV at h
 split at h
 ·cases h;exact(RAV_v.1 hv).1
 ·rename_i l
  split at h
  ·rename_i xs hx
   cases h
   obtain⟨vs,rfl,hl⟩:=hv
   have:=plainScs_run hx hl
   congr 1
   rw [←this]
  ·cases h
 ·cases h

theorem plainAVs_run:∀ {l:List AV} {xs vs:List Value},plainAVs l=some xs→F2 (RAV ι) l vs→vs=xs
 | [],xs,[],h,_=>by simpa [plainAVs] using h
 | c::l,xs,v::vs,h,hl=>by
  unfold plainAVs at h
  split at h
  ·rename_i x ys hx hys
   cases h
   rw [plainAVs_run hys hl.2,plainAV_run hx hl.1]
  ·cases h

theorem look_run{ρ:Operand→Value}(hc:∀v,ρ (.const v)=v)(hg:∀g,ρ (.global g) = .pointer (some ⟨g,0,none⟩))(hf:∀f,ρ (.func f) = .func (.func f) #[] #[]) :
  ∀(l:List Operand) (x:Operand),x∈l→look l (l.map ρ) x=ρ x
 | y::l,.tmp u,h=>by
  cases y with
  | tmp t =>
   simp only [List.map_cons,look]
   cases hb:Nat.beq t u with
   | true=>rw [Nat.eq_of_beq_eq_true hb];rfl
   | false =>
    simp only [cond_false]
    rcases List.mem_cons.1 h with e | h
    ·cases e;rw [Nat.beq_refl]at hb;cases hb
    ·exact look_run hc hg hf l _ h
  | _ =>
   simp only [List.map_cons,look]
   rcases List.mem_cons.1 h with e | h
   ·cases e
   ·exact look_run hc hg hf l _ h
 | y::l,.const v,h=>by cases y <;> simp [look,hc]
 | y::l,.global g,h=>by cases y <;> simp [look,hg]
 | y::l,.func f,h=>by cases y <;> simp [look,hf]

theorem pureNext_run{P:Program}:∀ {n:Nat} {s:Sem Next} {v:Value},pureNext P n s=some v→∀w,s.run P w = .ok (.value v) w
 | n,.pure x,v,h,w=>by
  cases x <;> (cases n <;> simp [pureNext]at h) <;> (subst h;rfl)
 | n+1,.program k,v,h,w=>by
  simp only [pureNext]at h
  exact pureNext_run h w
 | n+1,.mark _ k,v,h,w=>by
  simp only [pureNext]at h
  exact pureNext_run (s:=k) h w
 | 0,.program _,v,h,w=>by simp [pureNext]at h
 | 0,.mark _ _,v,h,w=>by simp [pureNext]at h
 | n,.load _ _ _,v,h,w=>by cases n <;> simp [pureNext]at h
 | n,.store _ _ _ _,v,h,w=>by cases n <;> simp [pureNext]at h
 | n,.new _ _,v,h,w=>by cases n <;> simp [pureNext]at h
 | n,.shape _ _,v,h,w=>by cases n <;> simp [pureNext]at h
 | n,.freeze _ _ _,v,h,w=>by cases n <;> simp [pureNext]at h
 | n,.frozen _ _,v,h,w=>by cases n <;> simp [pureNext]at h
 | n,.getObj _ _,v,h,w=>by cases n <;> simp [pureNext]at h
 | n,.setObj _ _ _,v,h,w=>by cases n <;> simp [pureNext]at h
 | n,.choose _ _,v,h,w=>by cases n <;> simp [pureNext]at h
 | n,.sys _ _,v,h,w=>by cases n <;> simp [pureNext]at h
 | n,.halt _,v,h,w=>by cases n <;> simp [pureNext]at h

theorem plain_run(hR:Rel X σ ι a w)(hs:∀cs b,o.op ≠ .select cs b){k:AV→Pg α}{r:α×St}(h:(plainPg X.C o k).run σ=some r) :
  ∃av u,(execOp a.eval o).run X.C.P w = .ok (.value u) w∧RAV ι av u∧(k av).run σ=some r:=by
 unfold plainPg at h
 obtain⟨avs,hv,h⟩:=opnds_run hR h
 split at h
 ·cases h
 ·rename_i xs hx
  have e:=plainAVs_run hx hv
  subst e
  have hcong:execOp (look o.op.operands.toList (o.op.operands.toList.map a.eval)) o=execOp a.eval o :=
   execOp_congr o hs (fun x hx=>look_run (fun _=>rfl) (fun _=>rfl) (fun _=>rfl) _ _ (by simpa using hx))
  rw [hcong]at h
  split at h
  ·cases h
  ·rename_i cs hp
   cases hc:cs.toList.all (·.oneCell')with
   | false=>rw [hc]at h;cases h
   | true =>
    rw [hc]at h
    exact⟨.one (cs.toList.map .v) true,_,pureNext_run hp w,⟨cs,rfl,F2_plain hc⟩,h⟩
  ·rename_i v hnt hna hp
   refine⟨_,_,pureNext_run hp w,RAV_v.2 ⟨rfl,?_⟩,h⟩
   cases v with
   | tuple vs=>exact(hnt vs rfl).elim
   | agg cs=>exact(hna cs rfl).elim
   | _=>rfl
  ·cases h

theorem win_run{t:TypeId}{x:Operand}{hi:Option Operand}{ty:Ty}{xs:List ty.T}{id n c:Nat}{A:Option Addr}{F:List Nat}(ho:o.op = .slice t x none hi none)(hR:Rel X σ ι a w)(hex:(σ.H id).excl=true)(e:ι id = .row A n c F)
  (hrr:RR true w ty xs A xs.length c F) (hx:a.eval x = .slice A n c) (hz:elemSz X.C.P t ty.size=true)
  (h:(optInt hi (n:Int) fun h => .br (decide (0≤h)) (.br (decide (h≤(xs.length:Int))) (.putB id .dead (newB nid (.win ty (xs.take h.toNat) (xs.drop h.toNat) true 0 []) (putD X.C o.dst (.sc (.sl nid)) (.ret ())))) .fail) .fail:Pg Unit).run σ=some ((),σ')):Done X o σ' a w:=by
 obtain⟨el,hu,hs⟩:=elemSize_run hz
 obtain⟨hh,h,hhi⟩:=optInt_run hR h
 simp only [Pg.run]at h
 cases h0:decide (0≤hh)with
 | false=>rw [h0]at h;cases h
 | true =>
  rw [h0]at h
  simp only [cond_true]at h
  cases h1:decide (hh≤(xs.length:Int))with
  | false=>rw [h1]at h;cases h
  | true =>
   rw [h1]at h
   simp only [cond_true]at h
   have h0:=of_decide_eq_true h0
   have h1:=of_decide_eq_true h1
   have hc:=hrr.2.1
   have hR1:=hR.kill (id:=id) (by intro e;rw [e]at hex;cases hex)
   have hF1:=Free.nil.give hR hex (F := [])
   rw [e]at hF1
   simp only [Home.foot,List.nil_append]at hF1
   obtain⟨hun,h⟩:=newB_run h
   have hR2:=(hR1.take (F:=F) (G := []) (by simpa using hF1) hun (blk := .win ty (xs.take hh.toNat) (xs.drop hh.toNat) true 0 []) (home := .row A hh.toNat c F) rfl
    ⟨_,_,_,_,rfl,by rw [List.length_take];omega,fun _=>by rw [List.take_append_drop];exact hrr⟩ rfl (by simp)).1
   refine Done.put hR2 (RAV_sl (upd_same _ _ _)) ?_ h
   have hA:(if c=0 then A else A.map (·.add 0))=A:=by
    obtain⟨_,_,h | ⟨b,o,arr,el,fr,Fs,G,hA,_⟩⟩:=hrr
    ·rw [if_pos (h.2.2 rfl)]
    ·rw [hA];simp [Addr_add]
   have hB:(Instr.sliceBounds true n c none (hi.map a.eval) none).run X.C.P w = .ok (0,hh.toNat,c) w:=by
    unfold Instr.sliceBounds
    rcases hhi with ⟨rfl,rfl⟩ | ⟨q,k,rfl,hh1⟩
    ·simp
    ·simp [hh1,run_sliceBound (show 0≤hh by omega) (show hh≤((c:Nat):Int)by omega)]
   simp [execOp,ho,hx,Instr.sliceAt,Instr.slice,run_underlying hu,hB,run_sizeB hs]
   intro hc0
   rw [if_neg hc0]at hA
   exact hA

theorem Rel.freeze(hR:Rel X σ ι a w){id:Nat}{l:List Sc}{ro:Bool}(hb:σ.H id = .cells l ro):Rel X (σ.setH id (.cells l true)) ι a w:=by
 have hP:∀par:List (Nat×Nat),ParOk (σ.setH id (.cells l true)).H par→ParOk σ.H par:=by
  intro par h q hq
  obtain⟨t,x,p,e⟩:=h q hq
  by_cases hq1:q.1=id
  ·rw [hq1,setH_same]at e;cases e
  ·rw [setH_ne σ _ hq1]at e;exact⟨t,x,p,e⟩
 refine hR.change (D:=fun _=>False) (N:=fun j=>j=id) rfl (fun _ _=>rfl) (WLe.refl _) (fun _ _ _=>rfl) (fun b hb=>hb.elim) (fun j hj=>⟨setH_ne σ _ hj,rfl⟩)
  (fun _ _ _ _ _ _ h=>h) (fun j hj h=>hP _ h) ?_ ?_ ?_ ?_ ?_ ?_
 ·rintro j rfl
  rw [setH_same]
  have hbl:=hR.bl j
  rw [hb]at hbl
  obtain⟨b',o',arr,e',fr,h2,h3,h4,h5,h6⟩:=hbl
  exact⟨⟨b',o',arr,e',fr,h2,h3,(fun h=>by cases h),h5,h6⟩,fun _=>hR.lt j (by rw [hb];rfl),fun h=>by cases h⟩
 ·rintro i j rfl hj hi
  rw [setH_same]at hi;cases hi
 ·rintro i j hi rfl he hl hp hn
  exact hR.sep i j hi he (by rw [hb];rfl) (by rw [hb];intro q hq;simp [Blk.par]at hq) (by rw [hb];simp [Blk.par])
 ·rintro i j hij rfl rfl
  exact absurd rfl hij
 ·intro j q hq
  by_cases hj:j=id
  ·subst hj;rw [setH_same]at hq;simp [Blk.par]at hq
  ·rw [setH_ne σ _ hj]at hq
   by_cases e:q.1=id
   ·rw [e,setH_same];simp
   ·rw [setH_ne σ _ e];exact hR.pb j q hq
 ·intro j q hq ver he
  by_cases hj:j=id
  ·subst hj;rw [setH_same]at hq;simp [Blk.par]at hq
  ·rw [setH_ne σ _ hj]at hq
   by_cases e:q.1=id
   ·rw [e,setH_same]at he;cases he
   ·rw [setH_ne σ _ e]at he;exact hR.pv j q hq ver he

theorem rdN_run(hR:Rel X σ ι a w){ty:Ty}{r:α×St}(hfl:ty.flat=true):∀ {n:Nat} {l:List Sc} {cs:List Value} {k:List ty.T→List Sc→Pg α},(rdN ty n l k).run σ=some r→F2 (RSc ι) l cs →
  ∃xs rest cs1 cs2,cs=cs1++cs2∧F2 (RSc ι) rest cs2∧xs.length=n∧cs1.length=n*ty.size∧(∀i x,xs[i]? = some x→RE false w ty x ((cs1.drop (i*ty.size)).take ty.size) [])∧(k xs rest).run σ=some r
 | 0,l,cs,k,h,hl=>⟨[],l,[],cs,rfl,hl,rfl,by simp,by simp,h⟩
 | n+1,l,cs,k,h,hl=>by
  simp only [rdN]at h
  obtain⟨x,rest,u,vs1,vs2,F1,hvs,hrest,hre,_,h⟩:=rdT_run hR h hl
  have hF:=RE_flat hfl hre
  rw [hF]at hre
  have hlen:vs1.length=ty.size:=RE_len hre
  obtain⟨xs,rest2,c1,c2,hcs,hr2,hx,hc1,hel,h⟩:=rdN_run hR hfl h hrest
  refine⟨x::xs,rest2,vs1++c1,c2,by rw [hvs,hcs,List.append_assoc],hr2,by simp [hx],by simp [hlen,hc1,Nat.add_mul,Nat.add_comm],?_,h⟩
  intro i y hy
  cases i with
  | zero =>
   simp only [List.getElem?_cons_zero,Option.some.injEq]at hy
   subst hy
   rw [Nat.zero_mul,List.drop_zero,List.take_append_of_le_length (by omega),List.take_of_length_le (by omega)]
   exact hre
  | succ i =>
   simp only [List.getElem?_cons_succ]at hy
   have:=hel i y hy
   have e:(i+1)*ty.size=vs1.length+i*ty.size:=by rw [hlen,Nat.add_mul,Nat.one_mul,Nat.add_comm]
   rw [e,List.drop_append]
   rw [List.drop_eq_nil_of_le (by omega),List.nil_append,Nat.add_sub_cancel_left]
   exact this

theorem sameOp_run{x y:Operand}(h:sameOp x y=true):∀q n,a.eval x = .int q n→∃q',a.eval y = .int q' n:=by
 intro q n hx
 unfold sameOp at h
 split at h
 ·rename_i t u
  rw [Nat.eq_of_beq_eq_true h]at hx
  exact⟨q,hx⟩
 ·rename_i q1 m q2 m'
  simp [Act.eval]at hx
  have:m=m':=by simpa using h
  exact⟨q2,by simp [Act.eval,←this,hx.2]⟩
 ·cases h

theorem sameOp_int{x y:Operand}(h:sameOp x y=true){q q':IntKind}{n n':Int}(hx:a.eval x = .int q n)(hy:a.eval y = .int q' n'):n'=n:=by
 obtain⟨q2,h2⟩:=sameOp_run h q n hx
 rw [hy]at h2
 cases h2
 rfl

theorem hofSl_run{t:TypeId}{x:Operand}{lo hi mx:Option Operand}{id n c:Nat}{A:Option Addr}{F:List Nat}(ho:o.op = .slice t x lo hi mx)(hR:Rel X σ ι a w)(e:ι id = .row A n c F)(hx:a.eval x = .slice A n c)
  (h:(hofSl X.C nid t id lo hi mx (σ.H id) fun v=>putD X.C o.dst v (.ret ())).run σ=some ((),σ')):Done X o σ' a w:=by
 unfold hofSl at h
 split at h
 ·rename_i ty xs ver hb
  cases hz:(elemSz X.C.P t ty.size&&(lo.isNone&&mx.isNone))with
  | false=>rw [hz]at h;cases h
  | true =>
   rw [hz]at h
   simp only [cond_true]at h
   simp only [Bool.and_eq_true]at hz
   have hlo:lo=none:=by simpa using hz.2.1
   have hmx:mx=none:=by simpa using hz.2.2
   subst hlo;subst hmx
   obtain⟨el,hu,hs⟩:=elemSize_run hz.1
   have hr:=row_of hR hb (by intro q hq;simp at hq) e
   have hn:=hr.1
   have hc:=hr.2.1
   obtain⟨hh,h,hhi⟩:=optInt_run hR h
   simp only [Pg.run]at h
   cases h0:decide (0≤hh)with
   | false=>rw [h0]at h;cases h
   | true =>
    rw [h0]at h
    simp only [cond_true]at h
    cases h1:decide (hh≤(xs.length:Int))with
    | false=>rw [h1]at h;cases h
    | true =>
     rw [h1]at h
     simp only [cond_true]at h
     have h0:=of_decide_eq_true h0
     have h1:=of_decide_eq_true h1
     obtain⟨hun,h⟩:=newB_run h
     have hR2:=hR.newId hun (blk := .pfx id hh.toNat) (home := .row A hh.toNat c []) (w':=w) (WLe.refl _) (fun _ _=>rfl)
      (fun _=>⟨A,n,c,F,e,by omega,rfl⟩) (fun h=>absurd rfl h) (fun h=>by cases h) (fun h=>by cases h) (fun _ _ h=>by cases h)
      (fun q hq=>by simp [Blk.par]at hq) (fun q hq=>by simp [Blk.par]at hq) (by simp)
     refine Done.put hR2 (RAV_sl (upd_same _ _ _)) ?_ h
     have hA:(if c=0 then A else A.map (·.add 0))=A:=by
      obtain⟨_,_,h | ⟨b,o,arr,el,fr,Fs,G,hA,_⟩⟩:=hr
      ·rw [if_pos (h.2.2 rfl)]
      ·rw [hA];simp [Addr_add]
     have hB:(Instr.sliceBounds true n c none (hi.map a.eval) none).run X.C.P w = .ok (0,hh.toNat,c) w:=by
      unfold Instr.sliceBounds
      rcases hhi with ⟨rfl,rfl⟩ | ⟨q,k,rfl,hh1⟩
      ·simp [hn]
      ·simp [hh1,run_sliceBound h0 (show hh≤((c:Nat):Int)by omega)]
     simp [execOp,ho,hx,Instr.sliceAt,Instr.slice,run_underlying hu,hB,run_sizeB hs]
     intro hc0
     rw [if_neg hc0]at hA
     exact hA
 ·cases h

theorem hofSuf_run{t:TypeId}{x:Operand}{lo hi mx:Option Operand}{id n c:Nat}{A:Option Addr}{F:List Nat}(ho:o.op = .slice t x lo hi mx)(hR:Rel X σ ι a w)(e:ι id = .row A n c F)(hx:a.eval x = .slice A n c)
  (h:(hofSuf X.C nid t id lo hi mx fun v=>putD X.C o.dst v (.ret ())).run σ=some ((),σ')):Done X o σ' a w:=by
 unfold hofSuf at h
 replace h:=getB_run h
 split at h
 ·rename_i id' m sz hb
  cases hz:(Nat.beq id id'&&(elemSz X.C.P t sz&&(hi.isNone&&mx.isNone)))with
  | false=>rw [hz]at h;cases h
  | true =>
   rw [hz]at h
   simp only [cond_true]at h
   simp only [Bool.and_eq_true]at hz
   have hid:=Nat.eq_of_beq_eq_true hz.1
   subst hid
   have hhi:hi=none:=by simpa using hz.2.2.1
   have hmx:mx=none:=by simpa using hz.2.2.2
   subst hhi;subst hmx
   obtain⟨el,hu,hs⟩:=elemSize_run hz.2.1
   have hbl:=hR.bl (id+5)
   rw [hb]at hbl
   obtain⟨_,A',c',F',h8,hnc⟩:=hbl
   rw [e]at h8
   cases h8
   obtain⟨l,h,hl⟩:=optInt_run hR h
   simp only [Pg.run]at h
   cases h0:decide (0≤l)with
   | false=>rw [h0]at h;cases h
   | true =>
    rw [h0]at h
    simp only [cond_true]at h
    cases h1:decide (l≤(n:Int))with
    | false=>rw [h1]at h;cases h
    | true =>
     rw [h1]at h
     simp only [cond_true]at h
     have h0:=of_decide_eq_true h0
     have h1:=of_decide_eq_true h1
     obtain⟨hun,h⟩:=newB_run h
     have hR2:=hR.newId hun (blk := .pfs id l.toNat sz) (home := .row (if c=l.toNat then A else A.map (·.add (l.toNat*sz))) (n - l.toNat) (c - l.toNat) []) (w':=w) (WLe.refl _) (fun _ _=>rfl)
      (fun _=>⟨A,n,c,F,e,by omega,hnc,rfl⟩) (fun h=>absurd rfl h) (fun h=>by cases h) (fun h=>by cases h) (fun _ _ h=>by cases h)
      (fun q hq=>by simp [Blk.par]at hq) (fun q hq=>by simp [Blk.par]at hq) (by simp)
     refine Done.put hR2 (RAV_sl (upd_same _ _ _)) ?_ h
     have hB:(Instr.sliceBounds true n c (lo.map a.eval) none none).run X.C.P w = .ok (l.toNat,n,c) w:=by
      unfold Instr.sliceBounds
      rcases hl with ⟨rfl,rfl⟩ | ⟨q,k',rfl,hh1⟩
      ·simp
      ·simp [hh1,run_sliceBound (show 0≤l by omega) (show l≤((n:Nat):Int)by omega)]
     simp [execOp,ho,hx,Instr.sliceAt,Instr.slice,run_underlying hu,hB,run_sizeB hs]
 ·cases h

theorem op_slice{t:TypeId}{x:Operand}{lo hi mx:Option Operand}(ho:o.op = .slice t x lo hi mx)(hR:Rel X σ ι a w)(h:(opPg X.C nid o).run σ=some ((),σ')):Done X o σ' a w:=by
 simp only [opPg,ho]at h
 obtain⟨av,hv,h⟩:=opnd_run hR h
 split at h
 ·rename_i id
  obtain⟨A,n,c,F,e,hx⟩:=RAV_sc.1 hv
  cases hsu:(hofB X.C.share o.dst&&lo.isSome)with
  | true =>
   rw [hsu]at h
   simp only [cond_true]at h
   exact hofSuf_run ho hR e hx h
  | false =>
  rw [hsu]at h
  simp only [cond_false]at h
  replace h:=getB_run h
  cases hho:hofB X.C.share o.dst with
  | true =>
   rw [hho]at h
   simp only [cond_true]at h
   exact hofSl_run ho hR e hx h
  | false =>
  rw [hho]at h
  simp only [cond_false]at h
  cases hw:(X.C.win&&(ownVer (σ.H id)).isSome&&lo.isNone&&mx.isNone)with
  | true =>
   rw [hw]at h
   simp only [cond_true]at h
   rw [Bool.and_eq_true,Bool.and_eq_true]at hw
   have hlo:lo=none:=by simpa using hw.1.2
   have hmx:mx=none:=by simpa using hw.2
   have h9:=h
   clear h
   subst hlo;subst hmx
   unfold winPg at h9
   split at h9
   ·rename_i ty xs ver hb
    cases hz:elemSz X.C.P t ty.size with
    | false=>rw [hz]at h9;cases h9
    | true =>
     rw [hz]at h9
     simp only [cond_true]at h9
     have hr:=row_of hR hb (by intro q hq;simp at hq) e
     have hn:=hr.1
     subst hn
     exact win_run ho hR (by rw [hb];rfl) e hr hx hz h9
   ·rename_i ty xs ys ver hb
    cases hz:elemSz X.C.P t ty.size with
    | false=>rw [hz]at h9;cases h9
    | true =>
     rw [hz]at h9
     simp only [cond_true]at h9
     obtain⟨hn,hr⟩:=win_of hR hb (by intro q hq;simp at hq) e
     subst hn
     exact win_run ho hR (by rw [hb];rfl) e hr hx hz h9
   ·cases h9
  | false =>
   rw [hw]at h
   simp only [cond_false]at h
   cases hw2:(X.C.win&&(ownVer (σ.H id)).isSome&&lo.isSome&&hi.isNone&&mx.isNone)with
   | true =>
    rw [hw2]at h
    simp only [cond_true]at h
    simp only [Bool.and_eq_true]at hw2
    have hhi:hi=none:=by simpa using hw2.1.2
    have hmx:mx=none:=by simpa using hw2.2
    have h9:=h
    clear h
    subst hhi;subst hmx
    unfold sufPg at h9
    split at h9
    ·rename_i ty xs ver hb
     cases hz:elemSz X.C.P t ty.size with
     | false=>rw [hz]at h9;cases h9
     | true =>
      rw [hz]at h9
      simp only [cond_true]at h9
      obtain⟨el,hu,hs⟩:=elemSize_run hz
      have hr:=row_of hR hb (by intro q hq;simp at hq) e
      have hn:=hr.1
      have hc:=hr.2.1
      obtain⟨l,h9,hl⟩:=optInt_run hR h9
      cases hsh:shareB X.C.share o.dst with
      | true =>
       rw [hsh]at h9
       simp only [cond_true,Pg.run]at h9
       cases h0:decide (0≤l)with
       | false=>rw [h0]at h9;cases h9
       | true =>
        rw [h0]at h9
        simp only [cond_true]at h9
        cases h1:decide (l≤(xs.length:Int))with
        | false=>rw [h1]at h9;cases h9
        | true =>
         rw [h1]at h9
         simp only [cond_true]at h9
         have h0:=of_decide_eq_true h0
         have h1:=of_decide_eq_true h1
         obtain⟨F2',hperm,hsuf⟩:=RR_suf hr (l:=l.toNat) (by omega)
         have hR1:=hR.kill (id:=id) (by rw [hb];simp)
         have hF1:=Free.nil.give hR (id:=id) (by rw [hb];rfl) (F := [])
         rw [e]at hF1
         simp only [Home.foot,List.nil_append]at hF1
         obtain⟨hun,h9⟩:=newB_run h9
         have hR2:=(hR1.take (F:=F2') (G := []) (by rw [List.append_nil];exact hF1.sub (fun k hk=>hperm.mem_iff.1 hk) (hperm.nodup_iff.2 hF1.nd)) hun (blk := .row ty (xs.drop l.toNat) true 0 []) (home := .row (if c=l.toNat then A else A.map (·.add (l.toNat*ty.size))) (n - l.toNat) (c - l.toNat) F2') rfl ⟨_,_,_,_,rfl,fun _=>hsuf⟩ rfl (by simp)).1
         refine Done.put hR2 (RAV_sl (upd_same _ _ _)) ?_ h9
         have hB:(Instr.sliceBounds true n c (lo.map a.eval) none none).run X.C.P w = .ok (l.toNat,n,c) w:=by
          unfold Instr.sliceBounds
          rcases hl with ⟨rfl,rfl⟩ | ⟨q,k,rfl,hh1⟩
          ·simp
          ·simp [hh1,run_sliceBound (show 0≤l by omega) (show l≤((n:Nat):Int)by omega)]
         simp [execOp,ho,hx,Instr.sliceAt,Instr.slice,run_underlying hu,hB,run_sizeB hs]
      | false =>
      rw [hsh]at h9
      simp only [cond_false,Pg.run]at h9
      cases h0:decide (0≤l)with
      | false=>rw [h0]at h9;cases h9
      | true =>
       rw [h0]at h9
       simp only [cond_true]at h9
       cases h1:decide (l<(xs.length:Int))with
       | false=>rw [h1]at h9;cases h9
       | true =>
        rw [h1]at h9
        simp only [cond_true]at h9
        have h0:=of_decide_eq_true h0
        have h1:=of_decide_eq_true h1
        obtain⟨_,_,h3 | ⟨b,o',arr,el',fr,Fs,G,hA,_⟩⟩:=hr
        ·rw [h3.1]at hn;simp at hn;omega
        ·subst hA
         refine Done.put hR (v := .sc (.suf id l.toNat ty.size)) (u := .slice (some ⟨b,o'+l.toNat*ty.size,none⟩) (n - l.toNat) (c - l.toNat)) (RAV_sc.2 ⟨b,o',n,c,F,e,by omega,hc,rfl⟩) ?_ h9
         have hB:(Instr.sliceBounds true n c (lo.map a.eval) none none).run X.C.P w = .ok (l.toNat,n,c) w:=by
          unfold Instr.sliceBounds
          rcases hl with ⟨rfl,rfl⟩ | ⟨q,k,rfl,hh1⟩
          ·simp
          ·simp [hh1,run_sliceBound (show 0≤l by omega) (show l≤((n:Nat):Int)by omega)]
         have hcl : ¬ c=l.toNat:=by omega
         simp [execOp,ho,hx,Instr.sliceAt,Instr.slice,run_underlying hu,hB,run_sizeB hs,hcl,Addr_add]
    ·cases h9
   | false =>
   rw [hw2]at h
   simp only [cond_false]at h
   split at h
   ·rename_i ty xs own ver par hb
    cases hz:(elemSz X.C.P t ty.size&&(hi.isSome||mx.isNone))with
    | false=>rw [hz]at h;cases h
    | true =>
     rw [hz]at h
     simp only [cond_true]at h
     obtain⟨hp,h⟩:=chkPar_run h
     rw [Bool.and_eq_true]at hz
     obtain⟨el,hu,hs⟩:=elemSize_run hz.1
     have hr:=row_of hR hb hp e
     obtain⟨l,h,hl⟩:=optInt_run hR h
     obtain⟨hh,h,hhi⟩:=optInt_run hR h
     obtain⟨m,h,hm⟩:=optInt_run hR h
     obtain⟨b1,h⟩:=brIf_run h
     obtain⟨b2,h⟩:=brIf_run h
     obtain⟨b3,h⟩:=brIf_run h
     obtain⟨b4,h⟩:=brIf_run h
     obtain⟨hun,h⟩:=newB_run h
     have hn:=hr.1
     have hc:=hr.2.1
     have l0:0≤l:=by
      rcases hl with ⟨rfl,rfl⟩ | ⟨q,k,rfl,_⟩
      ·exact Int.le_refl 0
      ·exact of_decide_eq_true (b1 rfl)
     have hm':m≤(xs.length:Int):=by
      rcases hm with ⟨rfl,rfl⟩ | ⟨q,k,rfl,_⟩
      ·exact Int.le_refl _
      ·exact of_decide_eq_true (b4 rfl)
     have hhm:hh≤m:=by
      rcases hm with ⟨rfl,rfl⟩ | ⟨q,k,rfl,_⟩
      ·rcases hhi with ⟨rfl,rfl⟩ | ⟨q,k,rfl,_⟩
       ·exact Int.le_refl _
       ·exact of_decide_eq_true (b3 (by simp))
      ·exact of_decide_eq_true (b3 (by simp))
     have hlh:l≤hh:=by
      rcases hl with ⟨rfl,rfl⟩ | ⟨q,k,rfl,_⟩
      ·rcases hhi with ⟨rfl,rfl⟩ | ⟨q,k,rfl,_⟩
       ·omega
       ·exact of_decide_eq_true (b2 (by simp))
      ·exact of_decide_eq_true (b2 (by simp))
          -- the capacity's end
     let M:Nat:=match mx with | none=>c | some _=>m.toNat
     have hM:hh.toNat≤M:=by
      rcases hm with ⟨rfl,rfl⟩ | ⟨q,k,rfl,_⟩
      ·simp only [M];omega
      ·simp only [M];omega
     obtain⟨F',hF',hr'⟩:=RR_part hr (l:=l.toNat) (h:=hh.toNat) (m:=M) (by omega) (by omega) hM
     have hpar':ParOk σ.H ((bif own then [(id,ver)]else [])++par):=by
      cases own with
      | true =>
       intro q hq
       rcases List.mem_append.1 hq with hq | hq
       ·simp at hq;subst hq;exact⟨ty,xs,par,hb⟩
       ·exact hp q hq
      | false=>simpa using hp
     have hR':=hR.newId hun (blk := .row ty ((xs.take hh.toNat).drop l.toNat) false 0 ((bif own then [(id,ver)]else [])++par))
      (home := .row (if M=l.toNat then A else A.map (·.add (l.toNat*ty.size))) (hh.toNat - l.toNat) (M - l.toNat) F') (w':=w) (WLe.refl _) (fun _ _=>rfl)
      (fun _=>⟨_,_,_,_,rfl,fun _=>hr'⟩) (fun _ H w ι' _ hf=>⟨_,_,_,_,rfl,fun h=>(hf h).elim⟩)
      (fun _ b hb'=>hR.lt id (by rw [hb];rfl) b (by rw [e];exact hF' b hb')) (fun h=>by cases h)
      (fun k hk _ _ hr u hu hu2=>by
       have hk2:k ∉ par.map (·.1):=fun hm=>hr (by simp only [Blk.par];rw [List.map_append];exact List.mem_append.2 (.inr hm))
       have hk3:k≠id:=by
        cases hq:own with
        | true=>intro e;apply hr;simp [Blk.par,e,hq]
        | false=>rintro rfl;rw [hb,hq]at hk;cases hk
       have:=hR.sep k id hk3 hk (by rw [hb];rfl) (by rw [hb];exact hp) (by rw [hb];exact hk2) u hu
       rw [e]at this
       exact this (hF' u hu2))
      (fun q hq=>by obtain⟨t,x,p,e⟩:=hpar' q hq;rw [e];simp) (fun q hq ver e'=>by obtain⟨t,x,p,e⟩:=hpar' q hq;rw [e]at e'; cases e'; exact Nat.le_refl _) (by simp)
     have hsl:RAV (upd ι nid (.row (if M=l.toNat then A else A.map (·.add (l.toNat*ty.size))) (hh.toNat - l.toNat) (M - l.toNat) F')) (.sc (bif X.C.win&&fullOp lo hi mx then .sf nid else .sl nid)) (.slice (if M=l.toNat then A else A.map (·.add (l.toNat*ty.size))) (hh.toNat - l.toNat) (M - l.toNat)):=by
      cases hw9:(X.C.win&&fullOp lo hi mx)with
      | false=>exact RAV_sl (upd_same _ _ _)
      | true =>
       rw [Bool.and_eq_true]at hw9
       have h9:=hw9.2
       unfold fullOp at h9
       split at h9
       ·rename_i o1 o2
        have hml:m=hh:=by
         rcases hm with ⟨h0,_⟩ | ⟨q,k,h0,hm1⟩
         ·cases h0
         ·rcases hhi with ⟨h0',_⟩ | ⟨q',k',h0',hh1⟩
          ·cases h0'
          ·cases h0;cases h0'
           exact sameOp_int h9 hh1 hm1
        have hMe:M=hh.toNat:=by
         simp only [M]
         rw [hml]
        rw [hMe]
        exact RAV_sc.2 ⟨_,_,_,upd_same _ _ _,rfl⟩
       ·cases h9
     have hB:(Instr.sliceBounds true n c (lo.map a.eval) (hi.map a.eval) (mx.map a.eval)).run X.C.P w = .ok (l.toNat,hh.toNat,M) w:=by
      unfold Instr.sliceBounds
      rcases hm with ⟨rfl,rfl⟩ | ⟨q,k,rfl,hm1⟩
      ·rcases hhi with ⟨rfl,rfl⟩ | ⟨q,k,rfl,hh1⟩
       ·rcases hl with ⟨rfl,rfl⟩ | ⟨q',k',rfl,hl1⟩
        ·simp [M,hn]
        ·simp [M,hl1,hn]
         rw [←hn,run_sliceBound l0 (by omega)];rfl
       ·rcases hl with ⟨rfl,rfl⟩ | ⟨q',k',rfl,hl1⟩
        ·simp [M,hh1,run_sliceBound (show 0≤hh by omega) (show hh≤((c:Nat):Int)by omega)]
        ·simp [M,hh1,hl1,run_sliceBound (show 0≤hh by omega) (show hh≤((c:Nat):Int)by omega),run_sliceBound l0 (show l≤((hh.toNat:Nat):Int)by omega)]
      ·rcases hhi with ⟨rfl,rfl⟩ | ⟨q,k,rfl,hh1⟩
       ·exact absurd hz.2 (by simp)
       ·rcases hl with ⟨rfl,rfl⟩ | ⟨q',k',rfl,hl1⟩
        ·simp [M,hh1,hm1,run_sliceBound (show 0≤m by omega) (show m≤((c:Nat):Int)by omega),run_sliceBound (show 0≤hh by omega) (show hh≤((m.toNat:Nat):Int)by omega)]
        ·simp [M,hh1,hl1,hm1,run_sliceBound (show 0≤m by omega) (show m≤((c:Nat):Int)by omega),run_sliceBound (show 0≤hh by omega) (show hh≤((m.toNat:Nat):Int)by omega),run_sliceBound l0 (show l≤((hh.toNat:Nat):Int)by omega)]
     cases hsf:(shareB X.C.share o.dst&&lo.isSome&&hi.isNone&&mx.isNone)with
     | false =>
      rw [hsf]at h
      simp only [cond_false]at h
      refine Done.put hR' hsl ?_ h
      simp [execOp,ho,hx,Instr.sliceAt,Instr.slice,run_underlying hu,hB,run_sizeB hs]
     | true =>
      rw [hsf]at h
      simp only [cond_true]at h
      simp only [Bool.and_eq_true]at hsf
      have hhi0:hi=none:=by simpa using hsf.1.2
      have hmx0:mx=none:=by simpa using hsf.2
      obtain⟨hun2,h⟩:=newB_run h
      have hMc:M=c:=by subst hmx0;rfl
      have hhn:hh.toNat=n:=by
       rcases hhi with ⟨_,h0⟩ | ⟨q,k,h0,_⟩
       ·rw [h0,hn];simp
       ·rw [hhi0]at h0;cases h0
      have hidn:id≠nid:=by
       rintro rfl
       have:=hR.unborn hun
       rw [e]at this
       cases this
      have hR2:=hR'.newId hun2 (blk := .sfx id nid l.toNat ty.size) (home := .clo #[]) (w':=w) (WLe.refl _) (fun _ _=>rfl)
       (fun _=>⟨⟨_,rfl⟩,A,n,c,F,F',by rw [upd_ne _ _ hidn,e],by omega,hc,by rw [upd_same,hMc,hhn]⟩) (fun h=>absurd rfl h) (fun h=>by cases h) (fun h=>by cases h) (fun _ _ h=>by cases h) (fun q hq=>by cases hq) (fun q hq=>by cases hq) (by simp)
      have hsl2:RAV (upd (upd ι nid (.row (if M=l.toNat then A else A.map (·.add (l.toNat*ty.size))) (hh.toNat - l.toNat) (M - l.toNat) F')) (nid+4) (.clo #[])) (.sc (.sl nid)) (.slice (if M=l.toNat then A else A.map (·.add (l.toNat*ty.size))) (hh.toNat - l.toNat) (M - l.toNat)):=RAV_sl (by rw [upd_ne _ _ (by omega),upd_same])
      refine Done.put hR2 hsl2 ?_ h
      simp [execOp,ho,hx,Instr.sliceAt,Instr.slice,run_underlying hu,hB,run_sizeB hs]
   ·rename_i ty xs ys ver par hb
    cases hz:(elemSz X.C.P t ty.size&&mx.isNone)with
    | false=>rw [hz]at h;cases h
    | true =>
     rw [hz]at h
     simp only [cond_true]at h
     obtain⟨hp,h⟩:=chkPar_run h
     rw [Bool.and_eq_true]at hz
     obtain⟨el,hu,hs⟩:=elemSize_run hz.1
     have hmx:mx=none:=by simpa using hz.2
     obtain⟨hn,hr⟩:=win_of hR hb hp e
     obtain⟨l,h,hl⟩:=optInt_run hR h
     obtain⟨hh,h,hhi⟩:=optInt_run hR h
     obtain⟨b1,h⟩:=brIf_run h
     obtain⟨b2,h⟩:=brIf_run h
     obtain⟨b3,h⟩:=brIf_run h
     obtain⟨hun,h9⟩:=newB_run h
     clear h
     subst hmx
     have hc:=hr.2.1
     have hln:(xs++ys).length=xs.length+ys.length:=List.length_append
     have l0:0≤l:=by
      rcases hl with ⟨rfl,rfl⟩ | ⟨q,k,rfl,_⟩
      ·exact Int.le_refl 0
      ·exact of_decide_eq_true (b1 rfl)
     have hhm:hh≤((xs++ys).length:Int):=by
      rcases hhi with ⟨rfl,rfl⟩ | ⟨q,k,rfl,_⟩
      ·omega
      ·exact of_decide_eq_true (b3 (by simp))
     have hlh:l≤hh:=by
      rcases hl with ⟨rfl,rfl⟩ | ⟨q,k,rfl,_⟩
      ·rcases hhi with ⟨rfl,rfl⟩ | ⟨q,k,rfl,_⟩
       ·omega
       ·exact of_decide_eq_true (b2 (by simp))
      ·exact of_decide_eq_true (b2 (by simp))
     obtain⟨F',hF',hr'⟩:=RR_part hr (l:=l.toNat) (h:=hh.toNat) (m:=c) (by omega) (by omega) (by omega)
     have hR':=hR.newId hun (blk := .row ty (((xs++ys).take hh.toNat).drop l.toNat) false 0 par)
      (home := .row (if c=l.toNat then A else A.map (·.add (l.toNat*ty.size))) (hh.toNat - l.toNat) (c - l.toNat) F') (w':=w) (WLe.refl _) (fun _ _=>rfl)
      (fun _=>⟨_,_,_,_,rfl,fun _=>hr'⟩) (fun _ H w ι' _ hf=>⟨_,_,_,_,rfl,fun h=>(hf h).elim⟩)
      (fun _ b hb'=>hR.lt id (by rw [hb];rfl) b (by rw [e];exact hF' b hb')) (fun h=>by cases h)
      (fun k hk _ _ hr u hu hu2=>by
       have hk3:k≠id:=by
        rintro rfl;rw [hb]at hk;cases hk
       have:=hR.sep k id hk3 hk (by rw [hb];rfl) (by rw [hb];exact hp) (by rw [hb];exact hr) u hu
       rw [e]at this
       exact this (hF' u hu2))
      (fun q hq=>by obtain⟨t,x,p,e⟩:=hp q hq;rw [e];simp) (fun q hq ver e'=>by obtain⟨t,x,p,e⟩:=hp q hq;rw [e]at e'; cases e'; exact Nat.le_refl _) (by simp)
     refine Done.put hR' (RAV_sl (upd_same _ _ _)) ?_ h9
     have hB:(Instr.sliceBounds true n c (lo.map a.eval) (hi.map a.eval) none).run X.C.P w = .ok (l.toNat,hh.toNat,c) w:=by
      unfold Instr.sliceBounds
      rcases hhi with ⟨rfl,rfl⟩ | ⟨q,k,rfl,hh1⟩
      ·rcases hl with ⟨rfl,rfl⟩ | ⟨q',k',rfl,hl1⟩
       ·simp [hn]
       ·simp [hl1,hn]
        rw [←hn,run_sliceBound l0 (by omega)];rfl
      ·rcases hl with ⟨rfl,rfl⟩ | ⟨q',k',rfl,hl1⟩
       ·simp [hh1,run_sliceBound (show 0≤hh by omega) (show hh≤((c:Nat):Int)by omega)]
       ·simp [hh1,hl1,run_sliceBound (show 0≤hh by omega) (show hh≤((c:Nat):Int)by omega),run_sliceBound l0 (show l≤((hh.toNat:Nat):Int)by omega)]
     simp [execOp,ho,hx,Instr.sliceAt,Instr.slice,run_underlying hu,hB,run_sizeB hs]
   ·cases h
 ·rename_i id
  split at h
  ·rename_i m e sz harr
   split at h
   ·rename_i ty hty
    cases hc:(ty.flat&&Nat.beq ty.size sz&&lo.isNone&&mx.isNone)with
    | false=>rw [hc]at h;cases h
    | true =>
     rw [hc]at h
     simp only [cond_true]at h
     rw [Bool.and_eq_true,Bool.and_eq_true,Bool.and_eq_true]at hc
     have hlo:lo=none:=by simpa using hc.1.2
     have hmx:mx=none:=by simpa using hc.2
     have hfl:=hc.1.1.1
     have hsz:=Nat.eq_of_beq_eq_true hc.1.1.2
     obtain⟨hu,hsb,hs0⟩:=arrayOf_run harr
     obtain⟨b,o0,eb,hx⟩:=RAV_sc.1 hv
     have h9:=getB_run h
     clear h
     subst hlo;subst hmx
     split at h9
     ·rename_i l ro hb
      have hbl:=hR.bl id
      rw [hb,eb]at hbl
      obtain⟨b',o0',arr,e',fr,h2,h3,_,h4,h5⟩:=hbl
      cases h2
      obtain⟨xs,rest,c1,c2,hcs,hrest,hxl,hc1,hel,h9⟩:=rdN_run hR hfl h9 h5
      split at h9
      ·have hc2:c2 = []:=by cases c2 with
        | nil=>rfl
        | cons _ _=>exact hrest.elim
       subst hc2
       rw [List.append_nil]at hcs
       obtain⟨hh,h9,hhi⟩:=optInt_run hR h9
       simp only [Pg.run]at h9
       cases b1:decide (0≤hh)with
       | false=>rw [b1]at h9;cases h9
       | true =>
       rw [b1]at h9
       simp only [cond_true]at h9
       cases b2:decide (hh≤(m:Int))with
       | false=>rw [b2]at h9;cases h9
       | true =>
       rw [b2]at h9
       simp only [cond_true]at h9
       have b1:=of_decide_eq_true b1
       have b2:=of_decide_eq_true b2
       have hR1:=hR.freeze hb
       obtain⟨hun,h9⟩:=newB_run h9
       have hll:l.length=m*ty.size:=by
        have:=congrArg List.length hcs
        simp only [List.length_take,List.length_drop]at this
        have h7:arr.toList.length=arr.size:=by simp
        omega
       have hrr:RR false w ty (xs.take hh.toNat) (some ⟨b,o0,none⟩) hh.toNat m (b::((List.replicate hh.toNat ([]:List Nat)).flatten ++ [])):=by
        refine⟨by simp;omega,by omega,.inr ⟨b,o0,arr,e',fr,List.replicate hh.toNat [],[],rfl,h3,(fun h=>by cases h),by simp only [Bool.false_eq_true,if_false];have:hh.toNat*ty.size≤m*ty.size:=Nat.mul_le_mul_right _ (by omega);omega,rfl,by simp,by simp;omega,fun i x Fi hxi hFi => ?_⟩⟩
        have hFi0:Fi = []:=by
         have:=List.mem_of_getElem? hFi
         exact(List.mem_replicate.1 this).2
        subst hFi0
        rw [List.getElem?_take]at hxi
        split at hxi
        ·have hq:=hel i x hxi
         have hin:i<m:=by omega
         have hmul:(i+1)*ty.size≤m*ty.size:=Nat.mul_le_mul_right _ hin
         rw [Nat.add_mul,Nat.one_mul]at hmul
         rw [←hcs,List.drop_take,List.take_take,List.drop_drop,Nat.min_eq_left (by omega)]at hq
         exact hq
        ·cases hxi
       have hfoot:(List.replicate hh.toNat ([]:List Nat)).flatten = []:=by simp
       rw [hfoot]at hrr
       have hR4:=hR1.newId hun (blk := .row ty (xs.take hh.toNat) false 0 []) (home := .row (some ⟨b,o0,none⟩) hh.toNat m [b]) (w':=w) (WLe.refl _) (fun _ _=>rfl)
        (fun _=>⟨_,_,_,_,rfl,fun _=>hrr⟩) (fun h=>absurd rfl h)
        (fun _ b2 hb2=>by
         simp only [Home.foot,List.mem_singleton]at hb2
         subst hb2
         exact hR.lt id (by rw [hb];rfl) b2 (by rw [eb];simp [Home.foot])) (fun h=>by cases h)
        (fun k hk _ _ _ u hu hu2=>by
         have hk3:k≠id:=by
          rintro rfl;rw [setH_same]at hk;cases hk
         rw [setH_ne _ _ hk3]at hk
         have:=hR.sep k id hk3 hk (by rw [hb];rfl) (by rw [hb];intro q hq;simp [Blk.par]at hq) (by rw [hb];simp [Blk.par]) u hu
         rw [eb]at this
         exact this hu2)
        (fun q hq=>by simp [Blk.par]at hq) (fun q hq=>by simp [Blk.par]at hq) (by simp)
       refine Done.put hR4 (RAV_sl (upd_same _ _ _)) ?_ h9
       have hB:(Instr.sliceBounds false m m none (hi.map a.eval) none).run X.C.P w = .ok (0,hh.toNat,m) w:=by
        unfold Instr.sliceBounds
        rcases hhi with ⟨rfl,rfl⟩ | ⟨q,k,rfl,hh1⟩
        ·simp
        ·simp [hh1,run_sliceBound b1 b2]
       simp [execOp,ho,hx,Instr.sliceAt,Instr.sureAddr,run_underlying hu,hB,run_sizeB hsb,Addr.add]
      ·cases h9
     ·cases h9
   ·cases h
  ·cases h
 ·rename_i sb
  obtain⟨hx,_⟩:=RAV_v.1 hv
  cases hc:(isStr X.C.P t&&mx.isNone)with
  | false=>rw [hc]at h;cases h
  | true =>
   rw [hc]at h
   simp only [cond_true]at h
   rw [Bool.and_eq_true]at hc
   have hmx:mx=none:=by simpa using hc.2
   have h9:=h
   clear h
   subst hmx
   have hu:X.C.P.underlying t=some .string:=by
    have h1:=hc.1
    unfold isStr at h1
    split at h1
    ·rename_i hu;exact hu
    ·cases h1
   obtain⟨l,h9,hl⟩:=optInt_run hR h9
   obtain⟨hh,h9,hhi⟩:=optInt_run hR h9
   simp only [Pg.run]at h9
   cases h0:decide (0≤l)with
   | false=>rw [h0]at h9;cases h9
   | true =>
    rw [h0]at h9
    simp only [cond_true]at h9
    cases h1:decide (l≤hh)with
    | false=>rw [h1]at h9;cases h9
    | true =>
     rw [h1]at h9
     simp only [cond_true]at h9
     cases h2:decide (hh≤(sb.size:Int))with
     | false=>rw [h2]at h9;cases h9
     | true =>
      rw [h2]at h9
      simp only [cond_true]at h9
      have h0:=of_decide_eq_true h0
      have h1:=of_decide_eq_true h1
      have h2:=of_decide_eq_true h2
      refine Done.put hR (RAV_v.2 ⟨rfl,rfl⟩) ?_ h9
      have hB:(Instr.sliceBounds false sb.size sb.size (lo.map a.eval) (hi.map a.eval) none).run X.C.P w = .ok (l.toNat,hh.toNat,sb.size) w:=by
       unfold Instr.sliceBounds
       rcases hhi with ⟨rfl,rfl⟩ | ⟨q,k,rfl,hh1⟩
       ·rcases hl with ⟨rfl,rfl⟩ | ⟨q',k',rfl,hl1⟩
        ·simp
        ·simp [hl1,run_sliceBound h0 (show l≤((sb.size:Nat):Int)by omega)]
       ·rcases hl with ⟨rfl,rfl⟩ | ⟨q',k',rfl,hl1⟩
        ·simp [hh1,run_sliceBound (show 0≤hh by omega) h2]
        ·simp [hh1,hl1,run_sliceBound (show 0≤hh by omega) h2,run_sliceBound h0 (show l≤((hh.toNat:Nat):Int)by omega)]
      simp [execOp,ho,hx,Instr.sliceAt,Instr.slice,run_underlying hu,hB]
 ·obtain⟨av',u,he,hv',h⟩:=plain_run hR (by rw [ho];simp) h
  exact Done.put hR hv' he h
end
end Go.Ev
