/-
  Joined by program out of B1, B2, B3, B4, B5, B6, B7, B8, B9, B10.
-/
import Derived.WalkKit
import Derived.RangeFuncRecord
import Derived.Lib.AppendZeros
namespace Go.Proofs.YtmocfnfnhgognaaGreat
namespace B
section
open Go
mutual
def Zab:Value→Bool
 | .bool _ | .int _ _ | .float _ _ | .complex _ _ _ | .string _ | .pointer none | .map none | .chan none | .nilFunc | .nilIface=>true
 | .slice none n c=>n == 0&&c == 0
 | .iface _ v=>Zab v
 | .agg cs=>ZcJ cs
 | .tuple cs=>ZcJ cs
 | .func (.func _) f c=>ZcJ f&&ZcJ c
 | _=>false
def ZcJ:Array Value→Bool
 | ⟨l⟩=>Zc8 l
def Zc8:List Value→Bool
 | []=>true
 | v::vs=>Zab v&&Zc8 vs
end
def Zba:Value→Bool
 | .agg _ | .tuple _=>false
 | _=>true
structure Emb where
 row:Nat→Nat→Option (Nat×Nat)
 map:Nat→Option Nat
 loop:Nat→Option Nat
 bsz:Nat→Nat
 bes:Nat→Nat
 live:Nat→Bool
 nx:Nat
structure Emb.le (β γ:Emb):Prop where
 row:∀ i k p,β.row i k=some p→γ.row i k=some p
 map:∀ i b,β.map i=some b→γ.map i=some b
 loop:∀ i b,β.loop i=some b→γ.loop i=some b
 bsz:∀ i k b o,β.row i k=some (b,o)→γ.bsz b=β.bsz b
 bes:∀ i k b o,β.row i k=some (b,o)→γ.bes b=β.bes b
 live:∀ i,β.live i=true→γ.live i=true
 new:∀ i,γ.live i=true→β.live i=true∨β.nx≤i
 nx:β.nx≤γ.nx
theorem Emb.le.refl (β:Emb):Emb.le β β:=⟨fun _ _ _ h=>h,fun _ _ h=>h,fun _ _ h=>h,fun _ _ _ _ _=>rfl,fun _ _ _ _ _=>rfl,fun _ h=>h,fun _ h=>.inl h,Nat.le_refl _⟩
theorem Emb.le.trans {α β γ:Emb} (h:Emb.le α β) (g:Emb.le β γ):Emb.le α γ :=
 ⟨fun i k p e=>g.row _ _ _ (h.row _ _ _ e),fun i b e=>g.map _ _ (h.map _ _ e),fun i b e=>g.loop _ _ (h.loop _ _ e),
  fun i k b o e=>(g.bsz _ _ _ _ (h.row _ _ _ e)).trans (h.bsz _ _ _ _ e),fun i k b o e=>(g.bes _ _ _ _ (h.row _ _ _ e)).trans (h.bes _ _ _ _ e),fun i e=>g.live i (h.live i e),
  fun i e=>(g.new i e).elim (fun e'=>h.new i e') (fun e'=>.inr (Nat.le_trans h.nx e')),Nat.le_trans h.nx g.nx⟩
structure Emb.leU (β γ:Emb):Prop where
 row:∀ i k p,β.row i k=some p→γ.row i k=some p
 map:∀ i b,β.map i=some b→γ.map i=some b
 loop:∀ i b,β.loop i=some b→γ.loop i=some b
 bsz:∀ i k b o,β.row i k=some (b,o)→γ.bsz b=β.bsz b
 bes:∀ i k b o,β.row i k=some (b,o)→γ.bes b=β.bes b
 live:∀ i,β.live i=true→γ.live i=true
theorem Emb.le.u {β γ:Emb} (h:Emb.le β γ):Emb.leU β γ:=⟨h.row,h.map,h.loop,h.bsz,h.bes,h.live⟩
theorem Emb.leU.refl (β:Emb):Emb.leU β β:=(Emb.le.refl β).u
def ZnV (a:Addr):Nat:=a.spot.getD 0
def Zck (a:Addr) (n:Nat):Addr:=⟨a.block,a.off+n,a.spot⟩
def ARel (β:Emb) (a c:Addr):Prop:=∃ b o,β.row a.block (ZnV a)=some (b,o)∧c=⟨b,o+a.off,none⟩
theorem ARel.monoU {β γ:Emb} {a c:Addr} (h:ARel β a c) (g:Emb.leU β γ):ARel γ a c:=by
 obtain ⟨b,o,hr,hc⟩:=h
 exact ⟨b,o,g.row _ _ _ hr,hc⟩
theorem ARel.add {β:Emb} {a c:Addr} (h:ARel β a c) (n:Nat):ARel β (Zck a n) (c.add n):=by
 obtain ⟨b,o,hr,rfl⟩:=h
 refine ⟨b,o,hr,?_⟩
 unfold Addr.add Zck
 by_cases hn:n=0
 · simp [hn]
 · simp [hn,Nat.add_assoc]
mutual
inductive VRel (β:Emb):Value→Value→Prop
 | closed {v:Value} (h:Zab v=true):VRel β v v
 | pointer {a c:Addr} (h:ARel β a c):VRel β (.pointer (some a)) (.pointer (some c))
 | slice {a c:Addr} {len cap cap':Nat} (h:ARel β a c) (hl:len≤cap) (hc:cap≤cap') (hs:0<β.bes c.block→c.off+cap'*β.bes c.block≤β.bsz c.block) :
     VRel β (.slice (some a) len cap) (.slice (some c) len cap')
 | sliceZ {a c:Addr} (h:β.live a.block=true):VRel β (.slice (some a) 0 0) (.slice (some c) 0 0)
 | map {r b:Nat} (h:β.map r=some b):VRel β (.map (some r)) (.map (some b))
 | func {f:FuncId} {x x' y y':Array Value} (h:VRels β x.toList x'.toList) (g:VRels β y.toList y'.toList):VRel β (.func (.func f) x y) (.func (.func f) x' y')
 | yield {l l':Nat} (h:β.loop l=some l'):VRel β (.func (.yield l) #[] #[]) (.func (.yield l') #[] #[])
 | dead {n:Nat} {c:Option Addr}:VRel β (.chan (some n)) (.pointer c)
 | iface {t:TypeId} {v v':Value} (h:VRel β v v'):VRel β (.iface t v) (.iface t v')
 | agg {x x':Array Value} (h:VRels β x.toList x'.toList):VRel β (.agg x) (.agg x')
 | tuple {x x':Array Value} (h:VRels β x.toList x'.toList):VRel β (.tuple x) (.tuple x')
inductive VRels (β:Emb):List Value→List Value→Prop
 | nil:VRels β [] []
 | cons {v v':Value} {l l':List Value} (h:VRel β v v') (g:VRels β l l'):VRels β (v::l) (v'::l')
end
mutual
theorem VRel.monoU {β γ:Emb} (le:Emb.leU β γ):∀ {v w:Value},VRel β v w→VRel γ v w
 | _,_,.closed h=>.closed h
 | _,_,.pointer h=>.pointer (h.monoU le)
 | _,_,.slice (c:=c) h hl hc hs=>by
     have h':=h
     obtain ⟨b,o,hr,rfl⟩:=h'
     exact .slice (h.monoU le) hl hc (by rw [le.bes _ _ _ _ hr,le.bsz _ _ _ _ hr];exact hs)
 | _,_,.sliceZ h=>.sliceZ (le.live _ h)
 | _,_,.map h=>.map (le.map _ _ h)
 | _,_,.func h g=>.func (VRels.monoU le h) (VRels.monoU le g)
 | _,_,.yield h=>.yield (le.loop _ _ h)
 | _,_,.dead=>.dead
 | _,_,.iface h=>.iface (VRel.monoU le h)
 | _,_,.agg h=>.agg (VRels.monoU le h)
 | _,_,.tuple h=>.tuple (VRels.monoU le h)
theorem VRels.monoU {β γ:Emb} (le:Emb.leU β γ):∀ {v w:List Value},VRels β v w→VRels γ v w
 | _,_,.nil=>.nil
 | _,_,.cons h g=>.cons (VRel.monoU le h) (VRels.monoU le g)
end
theorem VRel.mono {β γ:Emb} (le:Emb.le β γ) {v w:Value} (h:VRel β v w):VRel γ v w:=VRel.monoU le.u h
theorem VRels.mono {β γ:Emb} (le:Emb.le β γ) {v w:List Value} (h:VRels β v w):VRels γ v w:=VRels.monoU le.u h
theorem VRels.closed {β:Emb}:∀ {l:List Value},Zc8 l=true→VRels β l l
 | [],_=>.nil
 | v::l,h=>by
  rw [Zc8,Bool.and_eq_true] at h
  exact .cons (.closed h.1) (VRels.closed h.2)
theorem ZaP (x:Array Value):ZcJ x=Zc8 x.toList:=by cases x;rw [ZcJ]
mutual
theorem VRel.eq_of_closed {β:Emb}:∀ {v w:Value},VRel β v w→Zab v=true→w=v
 | _,_,.closed _,_=>rfl
 | _,_,.pointer _,hc=>by simp [Zab] at hc
 | _,_,.slice ..,hc=>by simp [Zab] at hc
 | _,_,.sliceZ _,hc=>by simp [Zab] at hc
 | _,_,.map _,hc=>by simp [Zab] at hc
 | _,_,.func (x:=x) (x':=x') (y:=y) (y':=y') h g,hc=>by
     rw [Zab,Bool.and_eq_true,ZaP,ZaP] at hc
     have h1:=VRels.eq_of_closed h hc.1
     have h2:=VRels.eq_of_closed g hc.2
     rw [Array.toList_inj.1 h1,Array.toList_inj.1 h2]
 | _,_,.yield _,hc=>by simp [Zab] at hc
 | _,_,.dead,hc=>by simp [Zab] at hc
 | _,_,.iface h,hc=>by rw [Zab] at hc;rw [VRel.eq_of_closed h hc]
 | _,_,.agg h,hc=>by rw [Zab,ZaP] at hc;rw [Array.toList_inj.1 (VRels.eq_of_closed h hc)]
 | _,_,.tuple h,hc=>by rw [Zab,ZaP] at hc;rw [Array.toList_inj.1 (VRels.eq_of_closed h hc)]
theorem VRels.eq_of_closed {β:Emb}:∀ {v w:List Value},VRels β v w→Zc8 v=true→w=v
 | _,_,.nil,_=>rfl
 | _,_,.cons h g,hc=>by
     rw [Zc8,Bool.and_eq_true] at hc
     rw [VRel.eq_of_closed h hc.1,VRels.eq_of_closed g hc.2]
end
theorem VRels.length {β:Emb}:∀ {l l':List Value},VRels β l l'→l'.length=l.length
 | _,_,.nil=>rfl
 | _,_,.cons _ g=>by simp [VRels.length g]
theorem VRels.get {β:Emb}:∀ {l l':List Value},VRels β l l'→∀ {j:Nat} {v:Value},l[j]?=some v→∃ v',l'[j]?=some v'∧VRel β v v'
 | _,_,.nil,j,v,h=>by simp at h
 | _,_,.cons (v':=v') h g,j,v,hj=>by
  cases j with
  | zero=>simp at hj;subst hj;exact ⟨v',by simp,h⟩
  | succ j=>simp only [List.getElem?_cons_succ] at hj ⊢;exact VRels.get g hj
theorem VRels.append {β:Emb}:∀ {l l':List Value} {m m':List Value},VRels β l l'→VRels β m m'→VRels β (l++m) (l'++m')
 | _,_,_,_,.nil,h=>h
 | _,_,_,_,.cons h g,k=>.cons h (VRels.append g k)
theorem VRels.take {β:Emb} (n:Nat):∀ {l l':List Value},VRels β l l'→VRels β (l.take n) (l'.take n):=by
 induction n with
 | zero=>intros;simp;exact .nil
 | succ n ih=>intro l l' h;cases h with
  | nil=>simp;exact .nil
  | cons h g=>simp;exact .cons h (ih g)
theorem VRels.drop {β:Emb} (n:Nat):∀ {l l':List Value},VRels β l l'→VRels β (l.drop n) (l'.drop n):=by
 induction n with
 | zero=>intro l l' h;simpa using h
 | succ n ih=>intro l l' h;cases h with
  | nil=>simp;exact .nil
  | cons h g=>simp;exact ih g
theorem VRels.set {β:Emb}:∀ {l l':List Value},VRels β l l'→∀ (j:Nat) {v v':Value},VRel β v v'→VRels β (l.set j v) (l'.set j v')
 | _,_,.nil,_,_,_,_=>.nil
 | _,_,.cons h g,0,_,_,k=>.cons k g
 | _,_,.cons h g,j+1,_,_,k=>.cons h (VRels.set g j k)
theorem VRels.of_get {β:Emb}:∀ {l l':List Value},l'.length=l.length→(∀ (j:Nat) (v:Value),l[j]?=some v→∃ v',l'[j]?=some v'∧VRel β v v')→VRels β l l'
 | [],[],_,_=>.nil
 | v::l,v'::l',hl,h=>by
  obtain ⟨u,hu,hv⟩:=h 0 v (by simp)
  simp at hu;subst hu
  exact .cons hv (VRels.of_get (by simpa using hl) fun j x hx=>h (j+1) x (by simpa using hx))
 | [],_::_,hl,_=>by simp at hl
 | _::_,[],hl,_=>by simp at hl
theorem VRels.replicate {β:Emb} {v v':Value} (h:VRel β v v'):∀ n,VRels β (List.replicate n v) (List.replicate n v')
 | 0=>.nil
 | n+1=>.cons h (VRels.replicate h n)
theorem VRel.flat {β:Emb} {v w:Value} (h:VRel β v w):Zba w=Zba v:=by cases h<;>rfl
theorem VRel.cells {β:Emb} {v w:Value} (h:VRel β v w):VRels β v.cells.toList w.cells.toList:=by
 cases h with
 | closed hc =>
  cases v with
  | agg cs=>simp only [Value.cells];rw [Zab,ZaP] at hc;exact VRels.closed hc
  | _=>simp only [Value.cells];exact .cons (.closed hc) .nil
 | agg h=>exact h
 | tuple h=>exact .cons (.tuple h) .nil
 | pointer h=>exact .cons (.pointer h) .nil
 | slice h a b c=>exact .cons (.slice h a b c) .nil
 | sliceZ h=>exact .cons (.sliceZ h) .nil
 | map h=>exact .cons (.map h) .nil
 | func h g=>exact .cons (.func h g) .nil
 | yield h=>exact .cons (.yield h) .nil
 | dead=>exact .cons .dead .nil
 | iface h=>exact .cons (.iface h) .nil
section inv
variable {β:Emb} {w:Value}
theorem VRel.inv_int {k:IntKind} {n:Int} (h:VRel β (.int k n) w):w=.int k n:=VRel.eq_of_closed h rfl
theorem VRel.inv_bool {b:Bool} (h:VRel β (.bool b) w):w=.bool b:=VRel.eq_of_closed h rfl
theorem VRel.inv_nil {a:Option Addr} (h:VRel β (.pointer a) w):∃ c,w=.pointer c∧c.isNone=a.isNone∧∀ a',a=some a'→∃ c',c=some c'∧ARel β a' c':=by
 cases h with
 | closed hc=>cases a with
  | none=>exact ⟨none,rfl,rfl,by simp⟩
  | some a=>simp [Zab] at hc
 | pointer h=>exact ⟨_,rfl,rfl,fun a' e=>by cases e;exact ⟨_,rfl,h⟩⟩
theorem VRel.inv_pointer {a:Addr} (h:VRel β (.pointer (some a)) w):∃ c,w=.pointer (some c)∧ARel β a c:=by
 cases h with
 | closed hc=>simp [Zab] at hc
 | pointer h=>exact ⟨_,rfl,h⟩
theorem VRel.inv_agg {x:Array Value} (h:VRel β (.agg x) w):∃ x',w=.agg x'∧VRels β x.toList x'.toList:=by
 cases h with
 | closed hc=>rw [Zab,ZaP] at hc;exact ⟨_,rfl,VRels.closed hc⟩
 | agg h=>exact ⟨_,rfl,h⟩
theorem VRel.inv_tuple {x:Array Value} (h:VRel β (.tuple x) w):∃ x',w=.tuple x'∧VRels β x.toList x'.toList:=by
 cases h with
 | closed hc=>rw [Zab,ZaP] at hc;exact ⟨_,rfl,VRels.closed hc⟩
 | tuple h=>exact ⟨_,rfl,h⟩
theorem VRel.inv_iface {t:TypeId} {v:Value} (h:VRel β (.iface t v) w):∃ v',w=.iface t v'∧VRel β v v':=by
 cases h with
 | closed hc=>rw [Zab] at hc;exact ⟨_,rfl,.closed hc⟩
 | iface h=>exact ⟨_,rfl,h⟩
theorem VRel.inv_func {f:FuncId} {x y:Array Value} (h:VRel β (.func (.func f) x y) w):∃ x' y',w=.func (.func f) x' y'∧VRels β x.toList x'.toList∧VRels β y.toList y'.toList:=by
 cases h with
 | closed hc=>rw [Zab,Bool.and_eq_true,ZaP,ZaP] at hc;exact ⟨_,_,rfl,VRels.closed hc.1,VRels.closed hc.2⟩
 | func h g=>exact ⟨_,_,rfl,h,g⟩
theorem VRel.inv_map {r:Nat} (h:VRel β (.map (some r)) w):∃ b,w=.map (some b)∧β.map r=some b:=by
 cases h with
 | closed hc=>simp [Zab] at hc
 | map h=>exact ⟨_,rfl,h⟩
theorem VRel.inv_slice {a:Addr} {n c:Nat} (h:VRel β (.slice (some a) n c) w):∃ d c',w=.slice (some d) n c' ∧
    ((ARel β a d∧n≤c∧c≤c'∧(0<β.bes d.block→d.off+c'*β.bes d.block≤β.bsz d.block))∨(n=0∧c=0∧c'=0∧β.live a.block=true)):=by
 cases h with
 | closed hc=>simp [Zab] at hc
 | slice h a b c=>exact ⟨_,_,rfl,.inl ⟨h,a,b,c⟩⟩
 | sliceZ h=>exact ⟨_,_,rfl,.inr ⟨rfl,rfl,rfl,h⟩⟩
end inv
end
section
open Go
structure Fz where
 low:Nat→Prop
 b:Nat
structure ALoop where
 state:LoopState
 pending:Option Code
 tmps:List Value
 params:Array Tmp
 assign:Code
 body:Code
inductive AObj where
 | box (cs:List Value) (e:TypeId)
 | arr (cs:List Value) (st:List Nat) (g:Nat) (e:TypeId) (ro:Bool)
 | map (es:List (Value×Value))
 | loop (r:ALoop)
structure RowV where
 cs:List Value
 st:Nat→Nat
 g:Nat
 e:TypeId
 ro:Bool
def AObj.view:AObj→Option RowV
 | .box cs e=>some ⟨cs,fun _=>0,0,e,false⟩
 | .arr cs st g e ro=>some ⟨cs,fun j=>st.getD j 0,g,e,ro⟩
 | .map _=>none
 | .loop _=>none
structure AHeap where
 next:Nat
 get:Nat→Option AObj
def AHeap.set (H:AHeap) (i:Nat) (o:AObj):AHeap:=⟨H.next,fun j=>if j=i then some o else H.get j⟩
def AHeap.push (H:AHeap) (o:AObj):AHeap:=⟨H.next+1,fun j=>if j=H.next then some o else H.get j⟩
def AHeap.view (H:AHeap) (i:Nat):Option RowV:=(H.get i).bind AObj.view
def AHeap.cell (H:AHeap) (a:Addr):Option Value :=
 match H.view a.block with
 | some r=>match r.cs[a.off]? with
  | some v=>if r.st a.off≤ZnV a then some v else none
  | none=>none
 | none=>none
def AHeap.readN (H:AHeap) (a:Addr):Nat→Option (List Value)
 | 0=>some []
 | n+1=>match H.cell a with
  | some v=>match AHeap.readN H (Zck a 1) n with
   | some vs=>some (v::vs)
   | none=>none
  | none=>none
def AHeap.setCell (H:AHeap) (a:Addr) (v:Value):Option AHeap :=
 if Zba v then
  match H.get a.block with
  | some (.box cs e)=>if ZnV a=0∧a.off<cs.length then some (H.set a.block (.box (cs.set a.off v) e)) else none
  | some (.arr cs st g e false)=>if ZnV a=g∧a.off<cs.length∧a.off<st.length then some (H.set a.block (.arr (cs.set a.off v) (st.set a.off g) g e false)) else none
  | _=>none
 else none
def AHeap.setN (H:AHeap) (a:Addr):List Value→Option AHeap
 | []=>some H
 | v::vs=>match H.setCell a v with
  | some H'=>AHeap.setN H' (Zck a 1) vs
  | none=>none
def AHeap.Fresh (H:AHeap):Prop:=∀ i,H.next≤i→H.get i=none
structure AHeap.le (H H':AHeap):Prop where
 next:H.next≤H'.next
 fresh:H.Fresh→H'.Fresh
theorem AHeap.le_refl (H:AHeap):AHeap.le H H:=⟨Nat.le_refl _,id⟩
theorem AHeap.le_trans {H H' H'':AHeap} (h:AHeap.le H H') (g:AHeap.le H' H''):AHeap.le H H'':=⟨Nat.le_trans h.next g.next,fun f=>g.fresh (h.fresh f)⟩
theorem AHeap.le_push (H:AHeap) (o:AObj):AHeap.le H (H.push o):=⟨Nat.le_succ _,fun f i hi=>by
 have hi':H.next+1≤i:=hi
 show (if i=H.next then some o else H.get i)=none
 rw [if_neg (by omega)];exact f i (by omega)⟩
theorem AHeap.le_set {H:AHeap} {i:Nat} {x o:AObj} (h:H.get i=some x):AHeap.le H (H.set i o):=⟨Nat.le_refl _,fun f j hj=>by
 have hj':H.next≤j:=hj
 show (if j=i then some o else H.get j)=none
 split
 · rename_i e;subst e;rw [f j hj'] at h;simp at h
 · exact f j hj'⟩
theorem AHeap.le_of {H H':AHeap} {i:Nat} {x:AObj} (hn:H'.next=H.next) (hg:∀ j,j≠i→H'.get j=H.get j) (h:H.get i=some x):AHeap.le H H':=⟨by rw [hn];exact Nat.le_refl _,fun f j hj=>by
 rw [hn] at hj
 have:j≠i:=by intro e;subst e;rw [f j hj] at h;simp at h
 rw [hg j this];exact f j hj⟩
structure RowOk (P:Program) (N0:Fz) (β:Emb) (w:World) (r:RowV) (k b o:Nat) (c:Array Value) (fz:Nat×Nat):Prop where
 blk:w.heap[b]?=some (.cells c r.e fz)
 size:c.size=β.bsz b
 elem:r.ro=false→∃ i,P.info? r.e=some i∧i.size=β.bes b
 robes:r.ro=true→β.bes b=0
 cell:∀ (j:Nat) (v:Value),r.cs[j]?=some v→r.st j≤k→∃ v',c[o+j]?=some v'∧VRel β v v'
 own:r.ro=false→o=0∧¬N0.low b∧fz=(0,0)
 gen:k≤r.g
inductive ERels (β:Emb):List (Value×Value)→List MapEntry→Prop
 | nil:ERels β [] []
 | cons {k v:Value} {e:MapEntry} {l:List (Value×Value)} {l':List MapEntry} (hk:Zab k=true) (he:e.key=k) (hv:VRel β v e.val) (g:ERels β l l'):ERels β ((k,v)::l) (e::l')
theorem ERels.monoU {β γ:Emb} (le:Emb.leU β γ) {l:List (Value×Value)} {l':List MapEntry} (h:ERels β l l'):ERels γ l l':=by
 induction h with
 | nil=>exact .nil
 | cons hk he hv _ ih=>exact .cons hk he (VRel.monoU le hv) ih
def Zib:Value→Bool
 | .string _=>true
 | _=>false
def Zch (es:List (Value×Value)):Bool:=es.all fun p=>Zib p.1
structure MRel (β:Emb) (es:List (Value×Value)) (ces:List MapEntry) (clock:Nat):Prop where
 ex:∃ es0,ERels β es0 ces∧(es0=es∨(es0.Perm es∧Zch es=true∧(es.map (·.1)).Nodup))
 nd:(ces.map (·.born)).Nodup
 lt:∀ e∈ces,e.born<clock
theorem MRel.monoU {β γ:Emb} (le:Emb.leU β γ) {l:List (Value×Value)} {l':List MapEntry} {c:Nat} (h:MRel β l l' c):MRel γ l l' c:=by
 obtain ⟨⟨es0,h1,h2⟩,h3,h4⟩:=h
 exact ⟨⟨es0,h1.monoU le,h2⟩,h3,h4⟩
theorem MRel.mono {β γ:Emb} (le:Emb.le β γ) {l:List (Value×Value)} {l':List MapEntry} {c:Nat} (h:MRel β l l' c):MRel γ l l' c:=h.monoU le.u
theorem MRel.nil {β:Emb} {c:Nat}:MRel β [] [] c:=⟨⟨[],.nil,.inl rfl⟩,by simp,by simp⟩
structure LRel (β:Emb) (r:ALoop) (r':Loop):Prop where
 state:r'.state=r.state
 pending:r'.pending=r.pending
 tmps:VRels β r.tmps r'.tmps.toList
 params:r'.params=r.params
 assign:r'.assign=r.assign
 body:r'.body=r.body
theorem LRel.monoU {β γ:Emb} (le:Emb.leU β γ) {r:ALoop} {r':Loop} (h:LRel β r r'):LRel γ r r':=⟨h.state,h.pending,VRels.monoU le h.tmps,h.params,h.assign,h.body⟩
structure HRel (P:Program) (N0:Fz) (β:Emb) (H:AHeap) (w:World):Prop where
 row:∀ (i k b o:Nat) (r:RowV),β.row i k=some (b,o)→H.view i=some r→∃ c fz,RowOk P N0 β w r k b o c fz
 map:∀ (i b:Nat) (es:List (Value×Value)),β.map i=some b→H.get i=some (.map es)→¬N0.low b∧∃ ces clock,w.heap[b]?=some (.map ces clock)∧MRel β es ces.toList clock
 dom:∀ (i k:Nat) (p:Nat×Nat),β.row i k=some p→∃ r,H.view i=some r
 domM:∀ (i b:Nat),β.map i=some b→∃ es,H.get i=some (.map es)
 fresh:∀ i,H.next≤i→H.get i=none
 stle:∀ (i:Nat) (r:RowV),H.view i=some r→∀ j,r.st j≤r.g
 inj:∀ (i k b o i' k' o':Nat) (r r':RowV),β.row i k=some (b,o)→β.row i' k'=some (b,o')→H.view i=some r→H.view i'=some r'→i=i'∨(r.ro=true∧r'.ro=true)
 injM:∀ (i i' b:Nat),β.map i=some b→β.map i'=some b→i=i'
 base:∀ b,N0.low b→b<w.heap.size
 nx:β.nx=H.next
 liveR:∀ (i k:Nat) (p:Nat×Nat),β.row i k=some p→β.live i=true
 liveM:∀ (i b:Nat),β.map i=some b→β.live i=true
 live:∀ i,β.live i=true→i<H.next
 lp:∀ (i b:Nat),β.loop i=some b→∃ r r',H.get i=some (.loop r)∧¬N0.low b∧w.heap[b]?=some (.loop r')∧LRel β r r'
 injL:∀ (i i' b:Nat),β.loop i=some b→β.loop i'=some b→i=i'
theorem ZeW {H:AHeap} {i:Nat} {r:ALoop} (h:H.get i=some (.loop r)):H.view i=none:=by unfold AHeap.view;rw [h];rfl
structure Fr (N0:Fz) (w w':World):Prop where
 size:w.heap.size≤w'.heap.size
 low:∀ b,N0.low b→w'.heap[b]?=w.heap[b]?
 os:w'.os=w.os
 out:w'.output=w.output
theorem Fr.refl (N0:Fz) (w:World):Fr N0 w w:=⟨Nat.le_refl _,fun _ _=>rfl,rfl,rfl⟩
theorem Fr.trans {N0:Fz} {a b c:World} (h:Fr N0 a b) (g:Fr N0 b c):Fr N0 a c:=⟨Nat.le_trans h.size g.size,fun i hi=>(g.low i hi).trans (h.low i hi),g.os.trans h.os,g.out.trans h.out⟩
section
variable {P:Program} {N0:Fz} {β:Emb} {H:AHeap} {w:World}
theorem HRel.lt_of_get (h:HRel P N0 β H w) {i:Nat} {o:AObj} (hg:H.get i=some o):i<H.next:=by
 rcases Nat.lt_or_ge i H.next with hl | hl
 · exact hl
 · rw [h.fresh i hl] at hg;simp at hg
theorem HRel.rowblk_lt (h:HRel P N0 β H w) {i k b o:Nat} (hr:β.row i k=some (b,o)):b<w.heap.size:=by
 obtain ⟨r,hv⟩:=h.dom _ _ _ hr
 obtain ⟨c,fz,hok⟩:=h.row _ _ _ _ _ hr hv
 have:=hok.blk
 rcases Nat.lt_or_ge b w.heap.size with hl | hl
 · exact hl
 · rw [Array.getElem?_eq_none hl] at this;simp at this
theorem HRel.mapblk_lt (h:HRel P N0 β H w) {i b:Nat} (hr:β.map i=some b):b<w.heap.size:=by
 obtain ⟨es,hg⟩:=h.domM _ _ hr
 obtain ⟨_,c,cl,this,_⟩:=h.map _ _ _ hr hg
 rcases Nat.lt_or_ge b w.heap.size with hl | hl
 · exact hl
 · rw [Array.getElem?_eq_none hl] at this;simp at this
theorem HRel.cell_run (h:HRel P N0 β H w) {a c:Addr} {v:Value} (hc:H.cell a=some v) (ha:ARel β a c):∃ v',w.cell? c=some v'∧VRel β v v':=by
 obtain ⟨b,o,hr,rfl⟩:=ha
 unfold AHeap.cell at hc
 obtain ⟨r,hv⟩:=h.dom _ _ _ hr
 rw [hv] at hc
 obtain ⟨c,fz,hok⟩:=h.row _ _ _ _ _ hr hv
 dsimp only at hc
 cases hcs:r.cs[a.off]? with
 | none=>rw [hcs] at hc;simp at hc
 | some u =>
  rw [hcs] at hc
  dsimp only at hc
  split at hc
  · rename_i hst
    obtain ⟨v',h1,h2⟩:=hok.cell _ _ hcs hst
    have:u=v:=by simpa using hc
    subst this
    refine ⟨v',?_,h2⟩
    unfold World.cell?
    rw [hok.blk]
    simpa using h1
  · simp at hc
theorem ZpQ {c:Addr} {v:Value} (h:w.cell? c=some v):(load c).run P w=.ok v w:=by
 simp [load,Sem.run,h]
theorem Zem (a:Addr) (n:Nat):(Zck a n).block=a.block:=rfl
theorem ZdH (a:Addr):Zck a 0=a:=by cases a;rfl
theorem ZiP (a:Addr) (m n:Nat):Zck (Zck a m) n=Zck a (m+n):=by simp [Zck,Nat.add_assoc]
theorem HRel.loadCellsFrom_run (h:HRel P N0 β H w) {a c:Addr} (ha:ARel β a c):∀ (n i:Nat) (acc:Array Value) (vs:List Value),H.readN (Zck a i) n=some vs →
    ∃ vs',(loadCellsFrom c i n acc).run P w=.ok (acc++vs'.toArray) w∧VRels β vs vs':=by
 intro n
 induction n with
 | zero =>
  intro i acc vs hv
  simp [AHeap.readN] at hv
  subst hv
  exact ⟨[],by simp [loadCellsFrom,pure,Sem.run],.nil⟩
 | succ n ih =>
  intro i acc vs hv
  unfold AHeap.readN at hv
  cases h1:H.cell (Zck a i) with
  | none=>rw [h1] at hv;simp at hv
  | some v =>
   rw [h1,ZiP] at hv
   dsimp only at hv
   cases h2:H.readN (Zck a (i+1)) n with
   | none=>rw [h2] at hv;simp at hv
   | some us =>
    rw [h2] at hv
    simp at hv
    subst hv
    obtain ⟨v',hv',hvr⟩:=h.cell_run h1 (ha.add i)
    obtain ⟨us',hu,hur⟩:=ih (i+1) (acc.push v') us h2
    refine ⟨v'::us',?_,.cons hvr hur⟩
    unfold loadCellsFrom
    rw [Sem.run_bind,ZpQ hv',Result.andThen_ok,hu]
    simp
theorem HRel.loadCells_run (h:HRel P N0 β H w) {a c:Addr} (ha:ARel β a c) {n:Nat} {vs:List Value} (hv:H.readN a n=some vs) :
    ∃ vs',(loadCells c n).run P w=.ok vs'.toArray w∧VRels β vs vs':=by
 obtain ⟨vs',h1,h2⟩:=h.loadCellsFrom_run ha n 0 #[] vs (by rw [ZdH];exact hv)
 exact ⟨vs',by unfold loadCells;rw [h1];simp,h2⟩
theorem Ze5 {H H':AHeap} {a:Addr} {v:Value} (hs:H.setCell a v=some H'):Zba v=true∧H'.next=H.next∧(∀ j,j≠a.block→H'.get j=H.get j) ∧
    ∃ r r',H.view a.block=some r∧H'.view a.block=some r'∧r.ro=false∧ZnV a=r.g∧a.off<r.cs.length∧r'.cs=r.cs.set a.off v ∧
     (∀ j,r'.st j=if j=a.off then r.g else r.st j)∧r'.g=r.g∧r'.e=r.e∧r'.ro=false:=by
 unfold AHeap.setCell at hs
 split at hs
 · rename_i hf
   split at hs
   · rename_i cs e hg
     split at hs
     · rename_i hc
       simp at hs;subst hs
       have e1:H.view a.block=AObj.view (.box cs e):=by unfold AHeap.view;rw [hg];rfl
       have e2:(H.set a.block (.box (cs.set a.off v) e)).view a.block=AObj.view (.box (cs.set a.off v) e):=by simp [AHeap.view,AHeap.set]
       refine ⟨hf,rfl,fun j hj=>by simp [AHeap.set,hj],_,_,e1,e2,rfl,hc.1,hc.2,rfl,?_,rfl,rfl,rfl⟩
       intro j;simp
     · simp at hs
   · rename_i cs st g e hg
     split at hs
     · rename_i hc
       simp at hs;subst hs
       have e1:H.view a.block=AObj.view (.arr cs st g e false):=by unfold AHeap.view;rw [hg];rfl
       have e2:(H.set a.block (.arr (cs.set a.off v) (st.set a.off g) g e false)).view a.block=AObj.view (.arr (cs.set a.off v) (st.set a.off g) g e false):=by simp [AHeap.view,AHeap.set]
       refine ⟨hf,rfl,fun j hj=>by simp [AHeap.set,hj],_,_,e1,e2,rfl,hc.1,hc.2.1,rfl,?_,rfl,rfl,rfl⟩
       intro j
       by_cases hj:j=a.off
       · subst hj;simp [List.getD,hc.2.2]
       · simp [List.getD,hj,List.getElem?_set_ne (Ne.symm hj)]
     · simp at hs
   · simp at hs
 · simp at hs
def Ztk (c:Addr) (v:Value):Obj→Obj
 | .cells cs elem frozen=>.cells (if c.spot.isSome then cs else cs.setIfInBounds c.off v) elem frozen
 | o=>o
theorem Zic (w:World) (c:Addr) (v:Value) (b:Nat):(w.setCell c v).heap[b]?=if b=c.block then (w.heap[b]?).map (Ztk c v) else w.heap[b]?:=by
 unfold World.setCell
 simp only [Array.getElem?_modify]
 by_cases h:b=c.block
 · subst h
   simp only [if_true]
   congr 1
 · simp [h,Ne.symm h]
theorem HRel.setCell (h:HRel P N0 β H w) {H':AHeap} {a c:Addr} {v v':Value} (hs:H.setCell a v=some H') (ha:ARel β a c) (hv:VRel β v v') :
    (∃ u,w.cell? c=some u)∧w.frozen? c=false∧HRel P N0 β H' (w.setCell c v')∧Fr N0 w (w.setCell c v'):=by
 obtain ⟨hf,hn,hoth,r,r',hr,hr',hro,hg,hoff,hcs,hst,hg',he',hro'⟩:=Ze5 hs
 obtain ⟨b,o,hb,rfl⟩:=ha
 obtain ⟨cc,fz,hok⟩:=h.row _ _ _ _ _ hb hr
 obtain ⟨ho,hN,hfz⟩:=hok.own hro
 subst ho;subst hfz
 have hblk:=hok.blk
 have hview:∀ j,j≠a.block→H'.view j=H.view j:=fun j hj=>by unfold AHeap.view;rw [hoth j hj]
 have hcell:∀ i k b' o' rr,β.row i k=some (b',o')→H.view i=some rr→i≠a.block→b'≠b:=by
  intro i k b' o' rr h1 h2 h3 h4
  subst h4
  rcases h.inj _ _ _ _ _ _ _ _ _ h1 hb h2 hr with e | ⟨_,e⟩
  · exact h3 e
  · rw [hro] at e;simp at e
 have hst0:r.st a.off≤ZnV a:=by rw [hg];exact h.stle _ _ hr _
 have hlt:a.off<cc.size:=by
  obtain ⟨u,hu,_⟩:=hok.cell a.off _ (List.getElem?_eq_getElem hoff) hst0
  have:=(Array.getElem?_eq_some_iff.1 hu).1
  omega
 have hblk':(w.setCell ⟨b,0+a.off,none⟩ v').heap[b]?=some (.cells (cc.setIfInBounds a.off v') r.e (0,0)):=by
  rw [Zic];simp [hblk,Ztk]
 have hblko:∀ b',b'≠b→(w.setCell ⟨b,0+a.off,none⟩ v').heap[b']?=w.heap[b']?:=fun b' hb'=>by rw [Zic];simp [hb']
 refine ⟨?_,?_,?_,?_⟩
 · unfold World.cell?
   rw [hblk]
   simp only [Option.isSome_none,Bool.false_eq_true,if_false,Nat.zero_add]
   exact ⟨_,Array.getElem?_eq_getElem hlt⟩
 · unfold World.frozen?
   rw [hblk];simp
 · constructor
   · intro i k b' o' rr h1 h2
     by_cases hi:i=a.block
     · subst hi
       rw [hr'] at h2
       obtain rfl:r'=rr:=by simpa using h2
       obtain ⟨c2,fz2,hok2⟩:=h.row _ _ _ _ _ h1 hr
       by_cases hbb:b'=b
       · subst hbb
         have hb2:=hok2.blk
         rw [hblk] at hb2
         obtain ⟨rfl,rfl⟩:cc=c2∧(0,0)=fz2:=by simpa using hb2
         obtain ⟨ho2,hN2,_⟩:=hok2.own hro
         subst ho2
         refine ⟨_,_,{ blk:=by rw [he'];exact hblk',size:=by simp [hok.size],elem:=fun _=>by rw [he'];exact hok.elem hro,robes:=fun e=>by rw [hro'] at e;simp at e,cell:=?_,own:=fun _=>⟨rfl,hN,rfl⟩,gen:=by rw [hg'];exact hok2.gen }⟩
         intro j u hj hju
         rw [hcs] at hj
         by_cases hja:j=a.off
         · subst hja
           rw [List.getElem?_set_self hoff] at hj
           obtain rfl:v=u:=by simpa using hj
           exact ⟨v',by simp [hlt],hv⟩
         · rw [List.getElem?_set_ne (Ne.symm hja)] at hj
           rw [hst j,if_neg hja] at hju
           obtain ⟨u',hu',hur⟩:=hok2.cell j u hj hju
           refine ⟨u',?_,hur⟩
           rw [Array.getElem?_setIfInBounds_ne (by omega)]
           exact hu'
       · refine ⟨c2,fz2,{ blk:=by rw [he',hblko _ hbb];exact hok2.blk,size:=hok2.size,elem:=fun _=>by rw [he'];exact hok2.elem hro,robes:=fun e=>by rw [hro'] at e;simp at e,cell:=?_,own:=fun _=>hok2.own hro,gen:=by rw [hg'];exact hok2.gen }⟩
         intro j u hj hju
         rw [hcs] at hj
         by_cases hja:j=a.off
         · subst hja
           rw [hst,if_pos rfl] at hju
           have hk:k=r.g:=Nat.le_antisymm hok2.gen hju
           rw [hk,←hg,hb] at h1
           simp at h1
           exact absurd h1.1.symm hbb
         · rw [List.getElem?_set_ne (Ne.symm hja)] at hj
           rw [hst j,if_neg hja] at hju
           exact hok2.cell j u hj hju
     · rw [hview _ hi] at h2
       obtain ⟨c2,fz2,hok2⟩:=h.row _ _ _ _ _ h1 h2
       exact ⟨c2,fz2,{ blk:=by rw [hblko _ (hcell _ _ _ _ _ h1 h2 hi)];exact hok2.blk,size:=hok2.size,elem:=hok2.elem,robes:=hok2.robes,cell:=hok2.cell,own:=hok2.own,gen:=hok2.gen }⟩
   · intro i b' es h1 h2
     have hi:i≠a.block:=by
      intro e;subst e
      obtain ⟨es',hes'⟩:=h.domM _ _ h1
      unfold AHeap.view at hr;rw [hes'] at hr;simp [AObj.view] at hr
     rw [hoth _ hi] at h2
     obtain ⟨h3,ces,cl,h4,h5⟩:=h.map _ _ _ h1 h2
     have hbb:b'≠b:=by intro e;subst e;rw [hblk] at h4;simp at h4
     exact ⟨h3,ces,cl,by rw [hblko _ hbb];exact h4,h5⟩
   · intro i k p h1
     by_cases hi:i=a.block
     · subst hi;exact ⟨_,hr'⟩
     · rw [hview _ hi];exact h.dom _ _ _ h1
   · intro i b' h1
     have hi:i≠a.block:=by
      intro e;subst e
      obtain ⟨es',hes'⟩:=h.domM _ _ h1
      unfold AHeap.view at hr;rw [hes'] at hr;simp [AObj.view] at hr
     rw [hoth _ hi];exact h.domM _ _ h1
   · intro i hi
     rw [hn] at hi
     have hne:i≠a.block:=by
      intro e;subst e
      have:=h.fresh _ hi
      unfold AHeap.view at hr;rw [this] at hr;simp at hr
     rw [hoth _ hne];exact h.fresh _ hi
   · intro i rr h1 j
     by_cases hi:i=a.block
     · subst hi
       rw [hr'] at h1
       obtain rfl:r'=rr:=by simpa using h1
       rw [hst,hg']
       split
       · exact Nat.le_refl _
       · exact h.stle _ _ hr j
     · rw [hview _ hi] at h1;exact h.stle _ _ h1 j
   · intro i k b1 o1 i' k' o1' r1 r2 h1 h2 h3 h4
     have key:∀ i rr,((if i=a.block then some r' else H.view i)=some rr)→∃ r0,H.view i=some r0∧r0.ro=rr.ro:=by
      intro i rr he
      split at he
      · rename_i e;subst e
        obtain rfl:r'=rr:=by simpa using he
        exact ⟨r,hr,by rw [hro,hro']⟩
      · exact ⟨rr,he,rfl⟩
     have hvw:∀ i,H'.view i=if i=a.block then some r' else H.view i:=by
      intro i;split
      · rename_i e;subst e;exact hr'
      · rename_i e;exact hview _ e
     rw [hvw] at h3 h4
     obtain ⟨q1,hq1,e1⟩:=key _ _ h3
     obtain ⟨q2,hq2,e2⟩:=key _ _ h4
     rw [←e1,←e2]
     exact h.inj _ _ _ _ _ _ _ _ _ h1 h2 hq1 hq2
   · exact h.injM
   · rw [World.size_setCell];exact h.base
   · rw [hn];exact h.nx
   · exact h.liveR
   · exact h.liveM
   · intro i hi;rw [hn];exact h.live i hi
   · intro i b' h1
     obtain ⟨q,q',h2,h3,h4,h5⟩:=h.lp _ _ h1
     have hi:i≠a.block:=by
      intro e;subst e;rw [ZeW h2] at hr;simp at hr
     have hbb:b'≠b:=by intro e;subst e;rw [hblk] at h4;simp at h4
     exact ⟨q,q',by rw [hoth _ hi];exact h2,h3,by rw [hblko _ hbb];exact h4,h5⟩
   · exact h.injL
 · refine ⟨by rw [World.size_setCell];exact Nat.le_refl _,fun b' hb'=>hblko _ (fun e=>hN (e▸hb')),rfl,rfl⟩
theorem Zsz {c:Addr} {v u:Value} (hf:Zba v=true) (h:w.cell? c=some u) (hz:w.frozen? c=false):(store c v).run P w=.ok () (w.setCell c v):=by
 cases v<;>simp_all [store,Sem.run,Zba]
theorem HRel.storeCells_run {H:AHeap} {w:World} (h:HRel P N0 β H w) {a c:Addr} (ha:ARel β a c):∀ (vs vs':List Value) (i:Nat) {H':AHeap},H.setN (Zck a i) vs=some H'→VRels β vs vs' →
    ∃ w',(storeCells c vs' i).run P w=.ok () w'∧HRel P N0 β H' w'∧Fr N0 w w':=by
 intro vs
 induction vs generalizing H w with
 | nil =>
  intro vs' i H' hs hv
  cases hv
  simp [AHeap.setN] at hs;subst hs
  exact ⟨w,by simp [storeCells,pure,Sem.run],h,Fr.refl _ _⟩
 | cons v vs ih =>
  intro vs' i H' hs hv
  cases hv with
  | cons hv1 hv2 =>
   unfold AHeap.setN at hs
   cases h1:H.setCell (Zck a i) v with
   | none=>rw [h1] at hs;simp at hs
   | some H1 =>
    rw [h1,ZiP] at hs
    dsimp only at hs
    have hf:=(Ze5 h1).1
    obtain ⟨⟨u,hu⟩,hz,hr,hfr⟩:=h.setCell h1 (ha.add i) hv1
    obtain ⟨w',hw',hr',hfr'⟩:=ih hr _ (i+1) hs hv2
    refine ⟨w',?_,hr',hfr.trans hfr'⟩
    unfold storeCells
    rw [Sem.run_bind,Zsz (by rw [VRel.flat hv1];exact hf) hu hz,Result.andThen_ok,hw']
end
end
section
open Go
theorem HRel.of_heap {P:Program} {N0:Fz} {β:Emb} {H:AHeap} {w w':World} (h:HRel P N0 β H w) (e:w'.heap=w.heap):HRel P N0 β H w':=by
 constructor
 · intro i k b o r h1 h2
   obtain ⟨c,fz,hok⟩:=h.row _ _ _ _ _ h1 h2
   exact ⟨c,fz,{ blk:=by rw [e];exact hok.blk,size:=hok.size,elem:=hok.elem,robes:=hok.robes,cell:=hok.cell,own:=hok.own,gen:=hok.gen }⟩
 · intro i b es h1 h2;rw [e];exact h.map _ _ _ h1 h2
 · exact h.dom
 · exact h.domM
 · exact h.fresh
 · exact h.stle
 · exact h.inj
 · exact h.injM
 · rw [e];exact h.base
 · exact h.nx
 · exact h.liveR
 · exact h.liveM
 · exact h.live
 · rw [e];exact h.lp
 · exact h.injL
theorem Fr.of_heap {N0:Fz} {w w':World} (e:w'.heap=w.heap) (ho:w'.os=w.os) (hu:w'.output=w.output):Fr N0 w w':=⟨by rw [e];exact Nat.le_refl _,fun _ _=>by rw [e],ho,hu⟩
theorem RowOk.mono {P:Program} {N0:Fz} {β γ:Emb} {w w':World} {r:RowV} {k b o:Nat} {c:Array Value} {fz:Nat×Nat} (h:RowOk P N0 β w r k b o c fz) (le:Emb.leU β γ)
    (hb:w'.heap[b]?=w.heap[b]?) (h1:γ.bsz b=β.bsz b) (h2:γ.bes b=β.bes b):RowOk P N0 γ w' r k b o c fz :=
 { blk:=by rw [hb];exact h.blk,size:=by rw [h1];exact h.size,elem:=by rw [h2];exact h.elem,robes:=by rw [h2];exact h.robes,
   cell:=fun j v hj hs=>by obtain ⟨v',a,b⟩:=h.cell j v hj hs;exact ⟨v',a,VRel.monoU le b⟩,own:=h.own,gen:=h.gen }
theorem HRel.change {P:Program} {N0:Fz} {β γ:Emb} {H H':AHeap} {w w':World} (h:HRel P N0 β H w) (le:Emb.leU β γ) (id bn:Nat) (r':RowV)
    (hoth:∀ j,j≠id→H'.get j=H.get j) (hv':H'.view id=some r') (hro':r'.ro=false) (hfresh:∀ i,H'.next≤i→H'.get i=none) (hst:∀ j,r'.st j≤r'.g)
    (hb:∀ b,b≠bn→w'.heap[b]?=w.heap[b]?) (hrow:∀ i,i≠id→∀ k,γ.row i k=β.row i k) (hmap:∀ i,γ.map i=β.map i)
    (hne:∀ i k b o,i≠id→β.row i k=some (b,o)→b≠bn) (hneM:∀ i b,β.map i=some b→b≠bn)
    (hid:∀ k b o,γ.row id k=some (b,o)→(∃ c fz,RowOk P N0 γ w' r' k b o c fz)∧(b=bn∨∃ k' o',β.row id k'=some (b,o')))
    (hbase:∀ b,N0.low b→b<w'.heap.size) (hr:∀ r,H.view id=some r→r.ro=false) (hidM:β.map id=none) (hnx:γ.nx=H'.next) (hnx2:H.next≤H'.next) (hidl:γ.live id=true) (hlive:∀ i,i≠id→γ.live i=β.live i) (hidn:id<H'.next)
    (hloop:γ.loop=β.loop) (hneL:∀ i b,β.loop i=some b→b≠bn∧i≠id):HRel P N0 γ H' w':=by
 have hview:∀ j,j≠id→H'.view j=H.view j:=fun j hj=>by unfold AHeap.view;rw [hoth j hj]
 constructor
 · intro i k b o r h1 h2
   by_cases hi:i=id
   · subst hi
     rw [hv'] at h2
     obtain rfl:r'=r:=by simpa using h2
     exact (hid _ _ _ h1).1
   · rw [hview _ hi] at h2
     rw [hrow _ hi] at h1
     obtain ⟨c,fz,hok⟩:=h.row _ _ _ _ _ h1 h2
     exact ⟨c,fz,hok.mono le (hb _ (hne _ _ _ _ hi h1)) (le.bsz _ _ _ _ h1) (le.bes _ _ _ _ h1)⟩
 · intro i b es h1 h2
   rw [hmap] at h1
   have hi:i≠id:=by intro e;subst e;rw [hidM] at h1;simp at h1
   rw [hoth _ hi] at h2
   obtain ⟨a,ces,cl,c,d⟩:=h.map _ _ _ h1 h2
   exact ⟨a,ces,cl,by rw [hb _ (hneM _ _ h1)];exact c,d.monoU le⟩
 · intro i k p h1
   by_cases hi:i=id
   · subst hi;exact ⟨_,hv'⟩
   · rw [hview _ hi];rw [hrow _ hi] at h1;exact h.dom _ _ _ h1
 · intro i b h1
   rw [hmap] at h1
   have hi:i≠id:=by intro e;subst e;rw [hidM] at h1;simp at h1
   rw [hoth _ hi];exact h.domM _ _ h1
 · exact hfresh
 · intro i r h1 j
   by_cases hi:i=id
   · subst hi;rw [hv'] at h1
     obtain rfl:r'=r:=by simpa using h1
     exact hst j
   · rw [hview _ hi] at h1;exact h.stle _ _ h1 j
 · have key:∀ (k b o i' k' o':Nat) (r2:RowV),γ.row id k=some (b,o)→i'≠id→β.row i' k'=some (b,o')→H.view i'=some r2→False:=by
    intro k b o i' k' o' r2 h1 hi h2 h3
    rcases (hid _ _ _ h1).2 with e | ⟨k2,o2,h4⟩
    · exact hne _ _ _ _ hi h2 e
    · obtain ⟨r0,hr0⟩:=h.dom _ _ _ h4
      rcases h.inj _ _ _ _ _ _ _ _ _ h4 h2 hr0 h3 with e | ⟨e,_⟩
      · exact hi e.symm
      · rw [hr _ hr0] at e;simp at e
   intro i k b o i' k' o' r1 r2 h1 h2 h3 h4
   by_cases hi:i=id
   · by_cases hi':i'=id
     · exact .inl (hi.trans hi'.symm)
     · subst hi;rw [hrow _ hi'] at h2;rw [hview _ hi'] at h4
       exact (key _ _ _ _ _ _ _ h1 hi' h2 h4).elim
   · by_cases hi':i'=id
     · subst hi';rw [hrow _ hi] at h1;rw [hview _ hi] at h3
       exact (key _ _ _ _ _ _ _ h2 hi h1 h3).elim
     · rw [hrow _ hi] at h1;rw [hrow _ hi'] at h2;rw [hview _ hi] at h3;rw [hview _ hi'] at h4
       exact h.inj _ _ _ _ _ _ _ _ _ h1 h2 h3 h4
 · intro i i' b h1 h2;rw [hmap] at h1 h2;exact h.injM _ _ _ h1 h2
 · exact hbase
 · exact hnx
 · intro i k p h1
   by_cases hi:i=id
   · subst hi;exact hidl
   · rw [hrow _ hi] at h1;rw [hlive _ hi];exact h.liveR _ _ _ h1
 · intro i b h1
   rw [hmap] at h1
   exact le.live _ (h.liveM _ _ h1)
 · intro i h1
   by_cases hi:i=id
   · subst hi;exact hidn
   · rw [hlive _ hi] at h1;have:=h.live _ h1;omega
 · intro i b h1
   rw [hloop] at h1
   obtain ⟨q,q',h2,h3,h4,h5⟩:=h.lp _ _ h1
   obtain ⟨n1,n2⟩:=hneL _ _ h1
   exact ⟨q,q',by rw [hoth _ n2];exact h2,h3,by rw [hb _ n1];exact h4,h5.monoU le⟩
 · intro i i' b h1 h2;rw [hloop] at h1 h2;exact h.injL _ _ _ h1 h2
def Emb.addRow (β:Emb) (i k b n es:Nat):Emb :=
 { β with row:=fun i' k'=>if i'=i∧k'=k then some (b,0) else β.row i' k',bsz:=fun b'=>if b'=b then n else β.bsz b',bes:=fun b'=>if b'=b then es else β.bes b',live:=fun i'=>i' == i||β.live i',nx:=if i<β.nx then β.nx else i+1 }
section
variable {P:Program} {N0:Fz} {β:Emb} {H:AHeap} {w:World}
theorem HRel.loopblk_lt (h:HRel P N0 β H w) {i b:Nat} (hl:β.loop i=some b):b<w.heap.size:=by
 obtain ⟨q,q',h2,h3,h4,h5⟩:=h.lp _ _ hl
 exact (Array.getElem?_eq_some_iff.1 h4).1
theorem HRel.loop_ne (h:HRel P N0 β H w) {i b j:Nat} (hl:β.loop i=some b) (hj:H.get j=none∨∃ r,H.view j=some r):i≠j:=by
 rintro rfl
 obtain ⟨q,q',h2,h3,h4,h5⟩:=h.lp _ _ hl
 rcases hj with e | ⟨r,e⟩
 · rw [h2] at e;simp at e
 · rw [ZeW h2] at e;simp at e
theorem HRel.addRow_le {i k b n es:Nat} (hn:β.row i k=none) (hl:β.live i=true∨β.nx≤i) (hb:∀ i' k' o',β.row i' k'=some (b,o')→n=β.bsz b∧es=β.bes b):Emb.le β (β.addRow i k b n es):=by
 refine ⟨?_,fun _ _ e=>e,fun _ _ e=>e,?_,?_,?_,?_,?_⟩
 · intro i' k' p e
   unfold Emb.addRow;dsimp only
   rw [if_neg];exact e
   rintro ⟨rfl,rfl⟩;rw [hn] at e;simp at e
 · intro i' k' b' o' e
   unfold Emb.addRow;dsimp only
   split
   · rename_i e';subst e';exact (hb _ _ _ e).1
   · rfl
 · intro i' k' b' o' e
   unfold Emb.addRow;dsimp only
   split
   · rename_i e';subst e';exact (hb _ _ _ e).2
   · rfl
 · intro i' e;simp [Emb.addRow,e]
 · intro i' e
   simp only [Emb.addRow,Bool.or_eq_true,beq_iff_eq] at e
   rcases e with rfl | e
   · exact hl
   · exact .inl e
 · simp only [Emb.addRow];split<;>omega
theorem AHeap.push_get_new (H:AHeap) (o:AObj):(H.push o).get H.next=some o:=by simp [AHeap.push]
theorem AHeap.push_get_old (H:AHeap) (o:AObj) {j:Nat} (h:j≠H.next):(H.push o).get j=H.get j:=by simp [AHeap.push,h]
theorem HRel.pushRow (h:HRel P N0 β H w) {o:AObj} {r:RowV} (hv:o.view=some r) (hro:r.ro=false) (hst:∀ j,r.st j≤r.g) (hg:r.g=0) {c:Array Value} {i:TypeInfo}
    (hi:P.info? r.e=some i) (hc:∀ (j:Nat) (v:Value),r.cs[j]?=some v→∃ v',c[j]?=some v'∧VRel β v v') (w':World) (hw3:w'.heap=w.heap.push (.cells c r.e)∧w'.os=w.os∧w'.output=w.output) :
    let γ:=β.addRow H.next 0 w.heap.size c.size i.size
    Emb.le β γ∧HRel P N0 γ (H.push o) w'∧Fr N0 w w'∧γ.row H.next 0=some (w.heap.size,0)∧γ.bsz w.heap.size=c.size∧γ.bes w.heap.size=i.size:=by
 intro γ
 obtain ⟨hw,hwo,hwu⟩:=hw3
 have hnone:∀ k,β.row H.next k=none:=by
  intro k
  cases e:β.row H.next k with
  | none=>rfl
  | some p =>
   obtain ⟨r0,hr0⟩:=h.dom _ _ _ e
   unfold AHeap.view at hr0;rw [h.fresh _ (Nat.le_refl _)] at hr0;simp at hr0
 have le:Emb.le β γ:=HRel.addRow_le (hnone 0) (.inr (by rw [h.nx];exact Nat.le_refl _)) (fun i' k' o' e=>absurd (h.rowblk_lt e) (by omega))
 have hlow:∀ b,b≠w.heap.size→w'.heap[b]?=w.heap[b]?:=by
  intro b hb
  rw [hw,Array.getElem?_push,if_neg hb]
 have hnew:w'.heap[w.heap.size]?=some (.cells c r.e):=by rw [hw];simp
 refine ⟨le,?_,⟨by rw [hw];simp,fun b hb=>hlow b (Nat.ne_of_lt (h.base b hb)),hwo,hwu⟩,by simp [γ,Emb.addRow],by simp [γ,Emb.addRow],by simp [γ,Emb.addRow]⟩
 refine h.change le.u H.next w.heap.size r (fun j hj=>AHeap.push_get_old H o hj) (by unfold AHeap.view;rw [AHeap.push_get_new];exact hv) hro ?_ hst hlow ?_ (fun _=>rfl) ?_ ?_ ?_ (fun b hb=>by rw [hw];have:=h.base b hb;simp;omega) ?_ ?_ ?_ (by show H.next≤H.next+1;omega) (by simp [γ,Emb.addRow]) ?_ (by show H.next<H.next+1;omega) rfl (fun i' b' e=>⟨by have:=h.loopblk_lt e;omega,h.loop_ne e (.inl (h.fresh _ (Nat.le_refl _)))⟩)
 · intro j hj
   have hj':H.next+1≤j:=hj
   rw [AHeap.push_get_old _ _ (by omega)];exact h.fresh _ (by omega)
 · intro i' hi' k
   simp [γ,Emb.addRow,hi']
 · intro i' k b o' _ e;have:=h.rowblk_lt e;omega
 · intro i' b e;have:=h.mapblk_lt e;omega
 · intro k b o' e
   have:k=0∧b=w.heap.size∧o'=0:=by
    simp only [γ,Emb.addRow] at e
    split at e
    · rename_i hk;simp at e;exact ⟨hk.2,e.1.symm,e.2.symm⟩
    · rw [hnone] at e;simp at e
   obtain ⟨rfl,rfl,rfl⟩:=this
   refine ⟨⟨c,(0,0),{ blk:=hnew,size:=by simp [γ,Emb.addRow],elem:=fun _=>⟨i,hi,by simp [γ,Emb.addRow]⟩,robes:=fun e=>by rw [hro] at e;simp at e,cell:=?_,own:=fun _=>⟨rfl,fun hb=>Nat.lt_irrefl _ (h.base _ hb),rfl⟩,gen:=by omega }⟩,.inl rfl⟩
   intro j v hj _
   obtain ⟨v',h1,h2⟩:=hc j v hj
   exact ⟨v',by rw [Nat.zero_add];exact h1,h2.mono le⟩
 · intro r0 hr0
   unfold AHeap.view at hr0;rw [h.fresh _ (Nat.le_refl _)] at hr0;simp at hr0
 · cases e:β.map H.next with
   | none=>rfl
   | some b =>
    obtain ⟨es,he⟩:=h.domM _ _ e
    rw [h.fresh _ (Nat.le_refl _)] at he;simp at he
 · show (if H.next<β.nx then β.nx else H.next+1)=H.next+1
   rw [h.nx,if_neg (by omega)]
 · intro i' hi';simp [γ,Emb.addRow,hi']
theorem HRel.mapRow (h:HRel P N0 β H w) {id:Nat} {r:RowV} (hv:H.view id=some r) (hnl:β.live id=false) (hro:r.ro=false) (hg:r.g=0) {c:Array Value} {i:TypeInfo}
    (hi:P.info? r.e=some i) (hc:∀ (j:Nat) (v:Value),r.cs[j]?=some v→∃ v',c[j]?=some v'∧VRel β v v') (w':World) (hw3:w'.heap=w.heap.push (.cells c r.e)∧w'.os=w.os∧w'.output=w.output) :
    let γ:=β.addRow id 0 w.heap.size c.size i.size
    Emb.leU β γ∧HRel P N0 γ H w'∧Fr N0 w w'∧γ.row id 0=some (w.heap.size,0)∧γ.bsz w.heap.size=c.size∧γ.bes w.heap.size=i.size∧(∀ i',γ.live i'=true→β.live i'=true∨i'=id)∧γ.live id=true∧γ.nx=β.nx:=by
 intro γ
 obtain ⟨hw,hwo,hwu⟩:=hw3
 have hnone:∀ k,β.row id k=none:=by
  intro k
  cases e:β.row id k with
  | none=>rfl
  | some p=>have:=h.liveR _ _ _ e;rw [hnl] at this;simp at this
 have hidM:β.map id=none:=by
  cases e:β.map id with
  | none=>rfl
  | some p=>have:=h.liveM _ _ e;rw [hnl] at this;simp at this
 have hlt:id<H.next:=by
  rcases Nat.lt_or_ge id H.next with hl | hl
  · exact hl
  · unfold AHeap.view at hv;rw [h.fresh _ hl] at hv;simp at hv
 have hnx:γ.nx=β.nx:=by
  show (if id<β.nx then β.nx else id+1)=β.nx
  rw [h.nx,if_pos hlt]
 have le:Emb.leU β γ:=by
  refine ⟨?_,fun _ _ e=>e,fun _ _ e=>e,?_,?_,fun i' e=>by simp [γ,Emb.addRow,e]⟩
  · intro i' k' p e
    simp only [γ,Emb.addRow]
    rw [if_neg];exact e
    rintro ⟨rfl,rfl⟩;rw [hnone] at e;simp at e
  · intro i' k' b' o' e
    have:=h.rowblk_lt e
    simp only [γ,Emb.addRow];rw [if_neg (by omega)]
  · intro i' k' b' o' e
    have:=h.rowblk_lt e
    simp only [γ,Emb.addRow];rw [if_neg (by omega)]
 have hlow:∀ b,b≠w.heap.size→w'.heap[b]?=w.heap[b]?:=by
  intro b hb
  rw [hw,Array.getElem?_push,if_neg hb]
 have hnew:w'.heap[w.heap.size]?=some (.cells c r.e):=by rw [hw];simp
 refine ⟨le,?_,⟨by rw [hw];simp,fun b hb=>hlow b (Nat.ne_of_lt (h.base b hb)),hwo,hwu⟩,by simp [γ,Emb.addRow],by simp [γ,Emb.addRow],by simp [γ,Emb.addRow],?_,by simp [γ,Emb.addRow],hnx⟩
 · refine h.change le id w.heap.size r (fun _ _=>rfl) hv hro h.fresh (h.stle _ _ hv) hlow ?_ (fun _=>rfl) ?_ ?_ ?_ (fun b hb=>by rw [hw];have:=h.base b hb;simp;omega) (fun r0 hr0=>by rw [hv] at hr0;obtain rfl:=(by simpa using hr0:r=r0);exact hro) hidM
    (by rw [hnx,h.nx]) (Nat.le_refl _) (by simp [γ,Emb.addRow]) (fun i' hi'=>by simp [γ,Emb.addRow,hi']) hlt rfl (fun i' b' e=>⟨by have:=h.loopblk_lt e;omega,h.loop_ne e (.inr ⟨_,hv⟩)⟩)
   · intro i' hi' k
     simp [γ,Emb.addRow,hi']
   · intro i' k b o' _ e;have:=h.rowblk_lt e;omega
   · intro i' b e;have:=h.mapblk_lt e;omega
   · intro k b o' e
     have:k=0∧b=w.heap.size∧o'=0:=by
      simp only [γ,Emb.addRow] at e
      split at e
      · rename_i hk;simp at e;exact ⟨hk.2,e.1.symm,e.2.symm⟩
      · rw [hnone] at e;simp at e
     obtain ⟨rfl,rfl,rfl⟩:=this
     refine ⟨⟨c,(0,0),{ blk:=hnew,size:=by simp [γ,Emb.addRow],elem:=fun _=>⟨i,hi,by simp [γ,Emb.addRow]⟩,robes:=fun e=>by rw [hro] at e;simp at e,cell:=?_,own:=fun _=>⟨rfl,fun hb=>Nat.lt_irrefl _ (h.base _ hb),rfl⟩,gen:=by omega }⟩,.inl rfl⟩
     intro j v hj _
     obtain ⟨v',h1,h2⟩:=hc j v hj
     exact ⟨v',by rw [Nat.zero_add];exact h1,VRel.monoU le h2⟩
 · intro i' hi'
   simp only [γ,Emb.addRow,Bool.or_eq_true,beq_iff_eq] at hi'
   rcases hi' with e | e
   · exact .inr e
   · exact .inl e
def Emb.atNext (β:Emb) (n:Nat):Emb:={ β with nx:=n }
theorem HRel.pushRes (h:HRel P N0 β H w) {o:AObj} {r:RowV} (hv:o.view=some r) (hst:∀ j,r.st j≤r.g) :
    Emb.le β (β.atNext (H.next+1))∧HRel P N0 (β.atNext (H.next+1)) (H.push o) w∧(β.atNext (H.next+1)).live H.next=false:=by
 have hnl:β.live H.next=false:=by
  cases e:β.live H.next with
  | false=>rfl
  | true=>have:=h.live _ e;omega
 have le:Emb.le β (β.atNext (H.next+1)):=⟨fun _ _ _ e=>e,fun _ _ e=>e,fun _ _ e=>e,fun _ _ _ _ _=>rfl,fun _ _ _ _ _=>rfl,fun _ e=>e,fun _ e=>.inl e,by show β.nx≤H.next+1;rw [h.nx];omega⟩
 have hview:∀ j,j≠H.next→(H.push o).view j=H.view j:=fun j hj=>by unfold AHeap.view;rw [AHeap.push_get_old _ _ hj]
 have hvn:(H.push o).view H.next=some r:=by unfold AHeap.view;rw [AHeap.push_get_new];exact hv
 have hne:∀ i k p,β.row i k=some p→i≠H.next:=by
  rintro i k p e rfl
  have:=h.liveR _ _ _ e;rw [hnl] at this;simp at this
 have hneM:∀ i b,β.map i=some b→i≠H.next:=by
  rintro i b e rfl
  have:=h.liveM _ _ e;rw [hnl] at this;simp at this
 refine ⟨le,?_,hnl⟩
 constructor
 · intro i k b o' rr h1 h2
   have h1':β.row i k=some (b,o'):=h1
   rw [hview _ (hne _ _ _ h1')] at h2
   obtain ⟨c,fz,hok⟩:=h.row _ _ _ _ _ h1' h2
   exact ⟨c,fz,hok.mono le.u rfl rfl rfl⟩
 · intro i b es h1 h2
   have h1':β.map i=some b:=h1
   rw [AHeap.push_get_old _ _ (hneM _ _ h1')] at h2
   obtain ⟨a,ces,cl,c,d⟩:=h.map _ _ _ h1' h2
   exact ⟨a,ces,cl,c,d.monoU le.u⟩
 · intro i k p h1
   have h1':β.row i k=some p:=h1
   rw [hview _ (hne _ _ _ h1')];exact h.dom _ _ _ h1'
 · intro i b h1
   have h1':β.map i=some b:=h1
   rw [AHeap.push_get_old _ _ (hneM _ _ h1')];exact h.domM _ _ h1'
 · intro j hj
   have hj':H.next+1≤j:=hj
   rw [AHeap.push_get_old _ _ (by omega)];exact h.fresh _ (by omega)
 · intro i rr h1 j
   by_cases hi:i=H.next
   · subst hi;rw [hvn] at h1
     obtain rfl:r=rr:=by simpa using h1
     exact hst j
   · rw [hview _ hi] at h1;exact h.stle _ _ h1 j
 · intro i k b o1 i' k' o1' r1 r2 h1 h2 h3 h4
   have h1':β.row i k=some (b,o1):=h1
   have h2':β.row i' k'=some (b,o1'):=h2
   rw [hview _ (hne _ _ _ h1')] at h3;rw [hview _ (hne _ _ _ h2')] at h4
   exact h.inj _ _ _ _ _ _ _ _ _ h1' h2' h3 h4
 · exact h.injM
 · exact h.base
 · rfl
 · exact h.liveR
 · exact h.liveM
 · intro i hi;have:=h.live i hi;show i<H.next+1;omega
 · intro i b h1
   have h1':β.loop i=some b:=h1
   obtain ⟨q,q',h2,h3,h4,h5⟩:=h.lp _ _ h1'
   exact ⟨q,q',by rw [AHeap.push_get_old _ _ (h.loop_ne h1' (.inl (h.fresh _ (Nat.le_refl _))))];exact h2,h3,h4,h5.monoU le.u⟩
 · exact h.injL
def Emb.addMap (β:Emb) (i b:Nat):Emb:={ β with map:=fun i'=>if i'=i then some b else β.map i',live:=fun i'=>i' == i||β.live i',nx:=i+1 }
theorem HRel.pushMap (h:HRel P N0 β H w) (w':World) (hw3:w'.heap=w.heap.push (.map #[] 0)∧w'.os=w.os∧w'.output=w.output) :
    let γ:=β.addMap H.next w.heap.size
    Emb.le β γ∧HRel P N0 γ (H.push (.map [])) w'∧Fr N0 w w'∧γ.map H.next=some w.heap.size:=by
 intro γ
 obtain ⟨hw,hwo,hwu⟩:=hw3
 have hnone:β.map H.next=none:=by
  cases e:β.map H.next with
  | none=>rfl
  | some b =>
   obtain ⟨es,he⟩:=h.domM _ _ e
   rw [h.fresh _ (Nat.le_refl _)] at he;simp at he
 have hnoner:∀ k,β.row H.next k=none:=by
  intro k
  cases e:β.row H.next k with
  | none=>rfl
  | some p =>
   obtain ⟨r0,hr0⟩:=h.dom _ _ _ e
   unfold AHeap.view at hr0;rw [h.fresh _ (Nat.le_refl _)] at hr0;simp at hr0
 have le:Emb.le β γ:=by
  refine ⟨fun _ _ _ e=>e,?_,fun _ _ e=>e,fun _ _ _ _ _=>rfl,fun _ _ _ _ _=>rfl,?_,?_,?_⟩
  · intro i b e
    simp only [γ,Emb.addMap]
    rw [if_neg];exact e
    rintro rfl;rw [hnone] at e;simp at e
  · intro i e;simp [γ,Emb.addMap,e]
  · intro i e
    simp only [γ,Emb.addMap,Bool.or_eq_true,beq_iff_eq] at e
    rcases e with rfl | e
    · exact .inr (by rw [h.nx];exact Nat.le_refl _)
    · exact .inl e
  · show β.nx≤H.next+1
    rw [h.nx];omega
 have hlow:∀ b,b≠w.heap.size→w'.heap[b]?=w.heap[b]?:=by
  intro b hb
  rw [hw,Array.getElem?_push,if_neg hb]
 have hnew:w'.heap[w.heap.size]?=some (.map #[] 0):=by rw [hw];simp
 have hview:∀ j,j≠H.next→(H.push (.map [])).view j=H.view j:=fun j hj=>by unfold AHeap.view;rw [AHeap.push_get_old _ _ hj]
 have hvn:(H.push (.map [])).view H.next=none:=by unfold AHeap.view;rw [AHeap.push_get_new];rfl
 refine ⟨le,?_,⟨by rw [hw];simp,fun b hb=>hlow b (Nat.ne_of_lt (h.base b hb)),hwo,hwu⟩,by simp [γ,Emb.addMap]⟩
 constructor
 · intro i k b o r h1 h2
   have hi:i≠H.next:=by rintro rfl;rw [hvn] at h2;simp at h2
   rw [hview _ hi] at h2
   obtain ⟨c,fz,hok⟩:=h.row _ _ _ _ _ h1 h2
   exact ⟨c,fz,hok.mono le.u (hlow _ (by have:=h.rowblk_lt h1;omega)) rfl rfl⟩
 · intro i b es h1 h2
   by_cases hi:i=H.next
   · subst hi
     simp only [γ,Emb.addMap,if_true] at h1
     obtain rfl:w.heap.size=b:=by simpa using h1
     rw [AHeap.push_get_new] at h2
     obtain rfl:es=[]:=by simpa using h2.symm
     exact ⟨fun hb=>Nat.lt_irrefl _ (h.base _ hb),_,_,hnew,.nil⟩
   · simp only [γ,Emb.addMap,if_neg hi] at h1
     rw [AHeap.push_get_old _ _ hi] at h2
     obtain ⟨a,ces,cl,c,d⟩:=h.map _ _ _ h1 h2
     exact ⟨a,ces,cl,by rw [hlow _ (by have:=h.mapblk_lt h1;omega)];exact c,d.mono le⟩
 · intro i k p h1
   have hi:i≠H.next:=by rintro rfl;rw [show γ.row H.next k=β.row H.next k from rfl,hnoner] at h1;simp at h1
   rw [hview _ hi];exact h.dom _ _ _ h1
 · intro i b h1
   by_cases hi:i=H.next
   · subst hi;exact ⟨_,AHeap.push_get_new _ _⟩
   · simp only [γ,Emb.addMap,if_neg hi] at h1
     rw [AHeap.push_get_old _ _ hi];exact h.domM _ _ h1
 · intro j hj
   have hj':H.next+1≤j:=hj
   rw [AHeap.push_get_old _ _ (by omega)];exact h.fresh _ (by omega)
 · intro i r h1 j
   have hi:i≠H.next:=by rintro rfl;rw [hvn] at h1;simp at h1
   rw [hview _ hi] at h1;exact h.stle _ _ h1 j
 · intro i k b o i' k' o' r1 r2 h1 h2 h3 h4
   have hi:i≠H.next:=by rintro rfl;rw [hvn] at h3;simp at h3
   have hi':i'≠H.next:=by rintro rfl;rw [hvn] at h4;simp at h4
   rw [hview _ hi] at h3;rw [hview _ hi'] at h4
   exact h.inj _ _ _ _ _ _ _ _ _ h1 h2 h3 h4
 · intro i i' b h1 h2
   simp only [γ,Emb.addMap] at h1 h2
   split at h1
   · rename_i e
     split at h2
     · rename_i e';exact e.trans e'.symm
     · have:=h.mapblk_lt h2;simp at h1;omega
   · split at h2
     · have:=h.mapblk_lt h1;simp at h2;omega
     · exact h.injM _ _ _ h1 h2
 · intro b hb;rw [hw];have:=h.base b hb;simp;omega
 · rfl
 · intro i k p h1
   simp only [γ,Emb.addMap,Bool.or_eq_true]
   exact .inr (h.liveR _ _ _ h1)
 · intro i b h1
   simp only [γ,Emb.addMap] at h1 ⊢
   split at h1
   · rename_i e;simp [e]
   · simp [h.liveM _ _ h1]
 · intro i h1
   simp only [γ,Emb.addMap,Bool.or_eq_true,beq_iff_eq] at h1
   show i<H.next+1
   rcases h1 with rfl | h1
   · omega
   · have:=h.live _ h1;omega
 · intro i b h1
   have h1':β.loop i=some b:=h1
   obtain ⟨q,q',h2,h3,h4,h5⟩:=h.lp _ _ h1'
   exact ⟨q,q',by rw [AHeap.push_get_old _ _ (h.loop_ne h1' (.inl (h.fresh _ (Nat.le_refl _))))];exact h2,h3,by rw [hlow _ (by have:=h.loopblk_lt h1';omega)];exact h4,h5.monoU le.u⟩
 · exact h.injL
def AHeap.elems (H:AHeap) (sz:Nat):Value→Option (Nat×List Value)
 | .slice none 0 0=>some (0,[])
 | .slice (some a) n _=>match H.readN a (n*sz) with
  | some vs=>some (n,vs)
  | none=>none
 | _=>none
def Zbx:Nat:=140737488355328
def AHeap.append (H:AHeap) (i:TypeInfo) (e:TypeId) (s x:Value):Option (Value×AHeap) :=
 if i.size=0 then none else
 match i.zero with
 | none=>none
 | some z=>if z.cells.size=i.size then
  match AHeap.elems H i.size x with
  | none=>none
  | some (0,_)=>match s with
   | .slice none 0 0=>some (s,H)
   | .slice (some _) _ _=>some (s,H)
   | _=>none
  | some (n+1,xs)=>if xs.all Zba then
   match s with
   | .slice none 0 0=>if (n+1)≤9223372036854775807∧(n+1)*i.bytes≤Zbx then
       some (.slice (some ⟨H.next,0,some 0⟩) (n+1) (n+1),H.push (.arr xs (List.replicate xs.length 0) 0 e false)) else none
   | .slice (some a) len _=>match H.get a.block with
    | some (.arr cs st g e' false) =>
     if a.off=0∧e'=e∧ZnV a≤g∧len*i.size≤st.length∧(len+(n+1))≤9223372036854775807∧(len+(n+1))*i.bytes≤Zbx then
      match H.readN a (len*i.size) with
      | some _=>some (.slice (some ⟨a.block,0,some (g+1)⟩) (len+(n+1)) (len+(n+1)),
          H.set a.block (.arr (cs.take (len*i.size)++xs) (st.take (len*i.size)++List.replicate xs.length (g+1)) (g+1) e false))
      | none=>none
     else none
    | _=>none
   | _=>none
   else none
  else none
theorem ZdP {H:AHeap}:∀ {n:Nat} {a:Addr} {vs:List Value},H.readN a n=some vs→vs.length=n
 | 0,_,_,h=>by simp [AHeap.readN] at h;subst h;rfl
 | n+1,a,vs,h=>by
  unfold AHeap.readN at h
  cases h1:H.cell a with
  | none=>rw [h1] at h;simp at h
  | some v =>
   rw [h1] at h;dsimp only at h
   cases h2:H.readN (Zck a 1) n with
   | none=>rw [h2] at h;simp at h
   | some us=>rw [h2] at h;simp at h;subst h;simp [ZdP h2]
theorem ZgT {H:AHeap}:∀ {n:Nat} {a:Addr} {vs:List Value},H.readN a n=some vs→∀ {j:Nat},j<n→H.cell (Zck a j)=vs[j]?
 | 0,_,_,_,j,hj=>by omega
 | n+1,a,vs,h,j,hj=>by
  unfold AHeap.readN at h
  cases h1:H.cell a with
  | none=>rw [h1] at h;simp at h
  | some v =>
   rw [h1] at h;dsimp only at h
   cases h2:H.readN (Zck a 1) n with
   | none=>rw [h2] at h;simp at h
   | some us =>
    rw [h2] at h;simp at h;subst h
    cases j with
    | zero=>rw [ZdH,h1];rfl
    | succ j =>
     have:=ZgT h2 (j:=j) (by omega)
     rw [ZiP,Nat.add_comm 1 j] at this
     simpa using this
theorem HRel.readN_run (h:HRel P N0 β H w) {a c:Addr} (ha:ARel β a c) {n:Nat} {vs:List Value} (hv:H.readN a n=some vs) :
    ∃ vs',VRels β vs vs'∧vs'.length=n∧∀ (j:Nat) (u:Value),vs'[j]?=some u→w.cell? (c.add j)=some u:=by
 have hl:=ZdP hv
 have hex:∀ j,j<n→∃ u,w.cell? (c.add j)=some u∧∀ v,vs[j]?=some v→VRel β v u:=by
  intro j hj
  have h1:=ZgT hv hj
  cases hvj:vs[j]? with
  | none=>rw [List.getElem?_eq_none_iff] at hvj;omega
  | some v =>
   rw [hvj] at h1
   obtain ⟨u,hu,hr⟩:=h.cell_run h1 (ha.add j)
   exact ⟨u,hu,fun v' e=>by cases e;exact hr⟩
 let vs':List Value:=(List.range n).map fun j=>(w.cell? (c.add j)).getD undef
 have hl':vs'.length=n:=by simp [vs']
 have hg:∀ j,j<n→vs'[j]?=w.cell? (c.add j):=by
  intro j hj
  obtain ⟨u,hu,_⟩:=hex j hj
  simp [vs',hj,hu]
 refine ⟨vs',VRels.of_get (by rw [hl',hl]) ?_,hl',?_⟩
 · intro j v hj
   have hjn:j<n:=by have:=(List.getElem?_eq_some_iff.1 hj).1;omega
   obtain ⟨u,hu,hr⟩:=hex j hjn
   exact ⟨u,by rw [hg j hjn,hu],hr v hj⟩
 · intro j u hj
   have hjn:j<n:=by have:=(List.getElem?_eq_some_iff.1 hj).1;omega
   rw [←hg j hjn];exact hj
end
end
section
open Go
theorem ZjA {v:Value} (h:Zba v=true):v.oneCell'=true:=by cases v<;>simp_all [Zba,Value.oneCell']
theorem VRels.flat {β:Emb}:∀ {l l':List Value},VRels β l l'→l.all Zba=true→∀ v∈l',v.oneCell'=true
 | _,_,.nil,_,v,hv=>by simp at hv
 | _,_,.cons h g,hl,v,hv=>by
  simp only [List.all_cons,Bool.and_eq_true] at hl
  rcases List.mem_cons.1 hv with e | e
  · subst e;exact ZjA (by rw [h.flat];exact hl.1)
  · exact VRels.flat g hl.2 v e
theorem Zbt (n g j:Nat):(List.replicate n g).getD j 0≤g:=by
 simp only [List.getD_eq_getElem?_getD,List.getElem?_replicate]
 split<;>simp
def ZbR (cs xs:List Value) (st:List Nat) (m g:Nat) (e:TypeId):RowV :=
 ⟨cs.take m++xs,fun j=>(st.take m++List.replicate xs.length (g+1)).getD j 0,g+1,e,false⟩
theorem Zf6 {cs xs:List Value} {st:List Nat} {m g:Nat} {e:TypeId} (hm:m≤st.length) {j:Nat} (hj:j<m):(ZbR cs xs st m g e).st j=st.getD j 0:=by
 simp only [ZbR,List.getD_eq_getElem?_getD]
 rw [List.getElem?_append_left (by simp;omega),List.getElem?_take_of_lt hj]
theorem Zkx {cs xs:List Value} {st:List Nat} {m g:Nat} {e:TypeId} (hm:m≤st.length) {j:Nat} (hj:m≤j) (hj2:j<m+xs.length):(ZbR cs xs st m g e).st j=g+1:=by
 simp only [ZbR,List.getD_eq_getElem?_getD]
 rw [List.getElem?_append_right (by simp;omega)]
 simp only [List.length_take,Nat.min_eq_left hm,List.getElem?_replicate]
 rw [if_pos (by omega)];rfl
theorem Zgt {cs xs:List Value} {st:List Nat} {m g:Nat} {e:TypeId} (hm:m≤cs.length) (j:Nat):(ZbR cs xs st m g e).cs[j]?=if j<m then cs[j]? else xs[j-m]?:=by
 simp only [ZbR]
 split
 · rename_i h
   rw [List.getElem?_append_left (by simp;omega),List.getElem?_take_of_lt h]
 · rw [List.getElem?_append_right (by simp;omega)]
   simp only [List.length_take,Nat.min_eq_left hm]
theorem Zg7 {cs xs:List Value} {st:List Nat} {m g:Nat} {e:TypeId} (hm:m≤st.length) (h:∀ j,st.getD j 0≤g) (j:Nat):(ZbR cs xs st m g e).st j≤g+1:=by
 rcases Nat.lt_or_ge j m with hj | hj
 · rw [Zf6 hm hj];have:=h j;omega
 · simp only [ZbR,List.getD_eq_getElem?_getD]
   rw [List.getElem?_append_right (by simp;omega)]
   simp only [List.getElem?_replicate]
   split<;>simp
theorem RowOk.elder {P:Program} {N0:Fz} {β γ:Emb} {w w':World} {cs xs:List Value} {st:List Nat} {m g:Nat} {e:TypeId} {k b o:Nat} {c:Array Value} {fz:Nat×Nat}
    (h:RowOk P N0 β w ⟨cs,fun j=>st.getD j 0,g,e,false⟩ k b o c fz) (le:Emb.le β γ) (hm:m≤st.length) (hmc:m≤cs.length) (c':Array Value)
    (hb:w'.heap[b]?=some (.cells c' e fz)) (hsz:c'.size=c.size) (hc:∀ j,j<m→c'[o+j]?=c[o+j]?) (h1:γ.bsz b=β.bsz b) (h2:γ.bes b=β.bes b) :
    RowOk P N0 γ w' (ZbR cs xs st m g e) k b o c' fz :=
 { blk:=hb,size:=by rw [hsz,h1];exact h.size,elem:=by rw [h2];exact h.elem,robes:=by rw [h2];exact h.robes,
   cell:=fun j v hj hs=>by
    rw [Zgt hmc] at hj
    have hk:k≤g:=h.gen
    split at hj
    · rename_i hjm
      rw [Zf6 hm hjm] at hs
      obtain ⟨v',a,b⟩:=h.cell j v hj hs
      exact ⟨v',by rw [hc j hjm];exact a,b.mono le⟩
    · rename_i hjm
      have:j-m<xs.length:=(List.getElem?_eq_some_iff.1 hj).1
      rw [Zkx hm (by omega) (by omega)] at hs
      omega,
   own:=h.own,gen:=by have:k≤g:=h.gen;show k≤g+1;omega }
section
variable {P:Program} {N0:Fz} {β:Emb} {H:AHeap} {w:World}
theorem Zrq {sz n:Nat} {x:Value} {xs:List Value} (hx:AHeap.elems H sz x=some (n,xs)) :
    (x=.slice none 0 0∧n=0∧xs=[])∨∃ a c,x=.slice (some a) n c∧H.readN a (n*sz)=some xs:=by
 unfold AHeap.elems at hx
 split at hx
 · simp at hx;exact .inl ⟨rfl,hx.1.symm,hx.2⟩
 · rename_i a m c
   cases hr:H.readN a (m*sz) with
   | none=>rw [hr] at hx;simp at hx
   | some vs=>rw [hr] at hx;simp at hx;obtain ⟨rfl,rfl⟩:=hx;exact .inr ⟨a,c,rfl,hr⟩
 · simp at hx
theorem HRel.elems_run (h:HRel P N0 β H w) {sz n:Nat} {x x':Value} {xs:List Value} (hx:AHeap.elems H sz x=some (n,xs)) (hv:VRel β x x') :
    ∃ xs',VRels β xs xs'∧xs'.length=n*sz∧((x'=.slice none 0 0∧n=0)∨∃ d c,x'=.slice (some d) n c∧∀ (j:Nat) (u:Value),xs'[j]?=some u→w.cell? (d.add j)=some u):=by
 rcases Zrq hx with ⟨rfl,rfl,rfl⟩ | ⟨a,c,rfl,hr⟩
 · exact ⟨[],.nil,by simp,.inl ⟨VRel.eq_of_closed hv rfl,rfl⟩⟩
 · obtain ⟨d,c',rfl,hd⟩:=hv.inv_slice
   rcases hd with ⟨ha,_⟩ | ⟨rfl,_,_⟩
   · obtain ⟨xs',h1,h2,h3⟩:=h.readN_run ha hr
     exact ⟨xs',h1,h2,.inr ⟨d,c',rfl,h3⟩⟩
   · rw [Nat.zero_mul] at hr
     simp [AHeap.readN] at hr;subst hr
     exact ⟨[],.nil,by simp,.inr ⟨d,c',rfl,by simp⟩⟩
theorem Zjj (t ty e:TypeId) (i:TypeInfo) (ht:P.underlying t=some (.slice e)) (hi:P.info? e=some i) (b:Option Addr) (len cap:Nat) (hc:len≤cap)
    (d:Option Addr) (c:Nat):(Builtin.append_ #[t,t] ty #[.slice b len cap,.slice d 0 c]).run P w=.ok (.slice b len cap) w:=by
 cases b<;>cases d<;>simp [Builtin.append_,run_underlying ht,sizeOf,typeInfo,hi,Builtin.lenOf,hc,Builtin.firstCells,loadCells,loadCellsFrom,storeCells]
theorem HRel.append_run (h:HRel P N0 β H w) (t ty e:TypeId) (i:TypeInfo) (ht:P.underlying t=some (.slice e)) (hi:P.info? e=some i) {s s' x x' v:Value} {H':AHeap}
    (hs:VRel β s s') (hx:VRel β x x') (ha:H.append i e s x=some (v,H')) :
    ∃ γ v' w',(Builtin.append_ #[t,t] ty #[s',x']).run P w=.ok v' w'∧Emb.le β γ∧HRel P N0 γ H' w'∧VRel γ v v'∧Fr N0 w w':=by
 unfold AHeap.append at ha
 split at ha
 · simp at ha
 rename_i hsz0
 split at ha
 · simp at ha
 rename_i z hz
 split at ha
 case isFalse=>simp at ha
 rename_i hzs
 split at ha
 · simp at ha
 ·
  rename_i xs0 hel
  obtain ⟨xs',_,_,hxx⟩:=h.elems_run hel hx
  have hx0:∃ d c,x'=.slice d 0 c:=by
   rcases hxx with ⟨e,_⟩ | ⟨d,c,e,_⟩
   · exact ⟨_,_,e⟩
   · exact ⟨_,_,e⟩
  obtain ⟨d,c,rfl⟩:=hx0
  have hs0:s=v∧H=H'∧∃ b len cap,s'=.slice b len cap∧len≤cap:=by
   split at ha
   · simp at ha
     exact ⟨ha.1,ha.2,none,0,0,VRel.eq_of_closed hs rfl,Nat.le_refl _⟩
   · simp at ha
     obtain ⟨d',c',e',hd⟩:=hs.inv_slice
     refine ⟨ha.1,ha.2,some d',_,c',e',?_⟩
     rcases hd with ⟨_,h1,h2,_⟩ | ⟨h1,_,_,_⟩<;>omega
   · simp at ha
  obtain ⟨rfl,rfl,b,len,cap,rfl,hc⟩:=hs0
  exact ⟨β,_,w,Zjj t ty e i ht hi b len cap hc d c,Emb.le.refl _,h,hs,Fr.refl _ _⟩
 · rename_i n xs hel
   obtain ⟨xs',hxr,hxl,hxx⟩:=h.elems_run hel hx
   have hxx':∃ d c,x'=.slice (some d) (n+1) c∧∀ (j:Nat) (u:Value),xs'[j]?=some u→w.cell? (d.add j)=some u:=by
    rcases hxx with ⟨_,e⟩ | hh
    · omega
    · exact hh
   obtain ⟨d,c,rfl,hcells⟩:=hxx'
   have hlen:xs.length=(n+1)*i.size:=by rw [←hxl];exact (VRels.length hxr).symm
   split at ha
   case isFalse=>simp at ha
   rename_i hflat
   have hone:=VRels.flat hxr hflat
   split at ha
   ·
    obtain rfl:s'=.slice none 0 0:=VRel.eq_of_closed hs rfl
    split at ha
    case isFalse=>simp at ha
    rename_i hbd
    simp only [Option.some.injEq,Prod.mk.injEq] at ha
    obtain ⟨rfl,rfl⟩:=ha
    have hbd2:=hbd.2
    unfold Zbx at hbd2
    have hr:=run_append_nil (P:=P) w t ty e i z ht hi hz d (n+1) c xs' hxl hcells (by omega) (by omega) (by omega)
    have hge:=grownCap_ge w (n+1) 0 e
    obtain ⟨le,hrel,hfr,hrow,hbs,hbe⟩:=h.pushRow (o:=.arr xs (List.replicate xs.length 0) 0 e false) (r:=⟨xs,fun j=>(List.replicate xs.length 0).getD j 0,0,e,false⟩) rfl rfl
     (fun j=>Zbt _ _ _) rfl (c:=xs'.toArray++Builtin.zeroCells z.cells (grownCap w (n+1) 0 e-(n+1))) hi
     (fun j u hj=>by
      obtain ⟨u',hu',hur⟩:=VRels.get hxr hj
      refine ⟨u',?_,hur⟩
      have:j<xs'.length:=(List.getElem?_eq_some_iff.1 hu').1
      rw [Array.getElem?_append_left (by simpa using this)]
      simpa using hu')
     (w.drew.alloc (.cells (xs'.toArray++Builtin.zeroCells z.cells (grownCap w (n+1) 0 e-(n+1))) e)) ⟨rfl,rfl,rfl⟩
    refine ⟨_,_,_,hr,le,hrel,?_,hfr⟩
    refine .slice ⟨w.heap.size,0,by simpa [ZnV] using hrow,by simp⟩ (Nat.le_refl _) hge fun _=>?_
    rw [hbs,hbe]
    simp only [Array.size_append,List.size_toArray,size_zeroCells,hzs,hxl,←Nat.add_mul,Nat.zero_add]
    exact Nat.mul_le_mul_right _ (by omega)
   ·
    rename_i a len cp
    split at ha
    case _ =>
     rename_i cs st g e' hg
     split at ha
     case isFalse=>simp at ha
     rename_i hcond
     obtain ⟨hoff,rfl,hag,hstl,hn63,hby⟩:=hcond
     unfold Zbx at hby
     cases hrd:H.readN a (len*i.size) with
     | none=>rw [hrd] at ha;simp at ha
     | some olds =>
      rw [hrd] at ha
      simp only [Option.some.injEq,Prod.mk.injEq] at ha
      obtain ⟨rfl,rfl⟩:=ha
      have hview:H.view a.block=some ⟨cs,fun j=>st.getD j 0,g,e',false⟩:=by unfold AHeap.view;rw [hg];rfl
      have hol:=ZdP hrd
      have hstle:∀ j,st.getD j 0≤g:=h.stle _ _ hview
      have hcs:∀ j,j<len*i.size→cs[j]?=olds[j]?:=by
       intro j hj
       have h1:=ZgT hrd hj
       unfold AHeap.cell at h1
       rw [Zem,hview] at h1
       dsimp only at h1
       rw [show (Zck a j).off=j by simp [Zck,hoff]] at h1
       have h2:olds[j]?=some (olds[j]'(by omega)):=List.getElem?_eq_getElem (by omega)
       rw [h2] at h1
       cases h3:cs[j]? with
       | none=>rw [h3] at h1;simp at h1
       | some u =>
        rw [h3] at h1
        dsimp only at h1
        split at h1
        · rw [h2];exact h1
        · simp at h1
      have hmc:len*i.size≤cs.length:=by
       rcases Nat.eq_zero_or_pos (len*i.size) with e0 | e0
       · omega
       · have h1:=hcs (len*i.size-1) (by omega)
         rw [List.getElem?_eq_getElem (by omega:len*i.size-1<olds.length)] at h1
         have:=(List.getElem?_eq_some_iff.1 h1).1
         omega
      have hnone:β.row a.block (g+1)=none:=by
       cases e0:β.row a.block (g+1) with
       | none=>rfl
       | some p =>
        obtain ⟨_,_,hok⟩:=h.row _ _ p.1 p.2 _ e0 hview
        have:g+1≤g:=hok.gen
        omega
      have hv2:∀ (HH:AHeap),HH=H.set a.block (.arr (cs.take (len*i.size)++xs) (st.take (len*i.size)++List.replicate xs.length (g+1)) (g+1) e' false) →
          HH.view a.block=some (ZbR cs xs st (len*i.size) g e'):=by
       intro HH e0;subst e0;simp [AHeap.view,AHeap.set,AObj.view,ZbR]
      have hfreshH:∀ j,H.next≤j→(H.set a.block (.arr (cs.take (len*i.size)++xs) (st.take (len*i.size)++List.replicate xs.length (g+1)) (g+1) e' false)).get j=none:=by
       intro j hj
       have hlt:=h.lt_of_get hg
       simp only [AHeap.set]
       rw [if_neg (by omega)];exact h.fresh _ hj
      have hidM:β.map a.block=none:=by
       cases e0:β.map a.block with
       | none=>rfl
       | some b=>obtain ⟨es,he⟩:=h.domM _ _ e0;rw [hg] at he;simp at he
      have hothr:∀ (b n2 es2:Nat) (i2:Nat),i2≠a.block→∀ k,(β.addRow a.block (g+1) b n2 es2).row i2 k=β.row i2 k:=by
       intro b n2 es2 i2 hi2 k;simp [Emb.addRow,hi2]
      have hget:∀ j,j≠a.block→(H.set a.block (.arr (cs.take (len*i.size)++xs) (st.take (len*i.size)++List.replicate xs.length (g+1)) (g+1) e' false)).get j=H.get j:=by
       intro j hj;simp [AHeap.set,hj]
      obtain ⟨d',cp',rfl,hd⟩:=hs.inv_slice
      have hidl:β.live a.block=true:=by
       rcases hd with ⟨⟨b,o,hb,_⟩,_⟩ | ⟨_,_,_,e0⟩
       · exact h.liveR _ _ _ hb
       · exact e0
      have hidn:=h.live _ hidl
      have hnx':∀ (b n2 es2:Nat),(β.addRow a.block (g+1) b n2 es2).nx=H.next:=by
       intro b n2 es2
       show (if a.block<β.nx then β.nx else a.block+1)=H.next
       rw [h.nx,if_pos hidn]
      have hliv:∀ (b n2 es2:Nat) (i2:Nat),i2≠a.block→(β.addRow a.block (g+1) b n2 es2).live i2=β.live i2:=by
       intro b n2 es2 i2 hi2;simp [Emb.addRow,hi2]
      by_cases hroom:len+(n+1)≤cp'
      ·
       rcases hd with ⟨hA,hl1,hl2,hl3⟩ | ⟨_,_,e0,_⟩
       case inr=>omega
       obtain ⟨b,o,hb,hdd⟩:=hA
       obtain ⟨cur,fz,hok⟩:=h.row _ _ _ _ _ hb hview
       obtain ⟨ho,hN,hfz⟩:=hok.own rfl
       subst ho;subst hfz
       rw [hoff] at hdd
       simp only [Nat.add_zero] at hdd
       subst hdd
       obtain ⟨i',hi',hbes⟩:=hok.elem rfl
       have hblk:=hok.blk
       dsimp only at hi' hblk
       rw [hi] at hi'
       obtain rfl:i=i':=by simpa using hi'
       have hfit:len*i.size+xs'.length≤cur.size:=by
        rcases Nat.eq_zero_or_pos i.size with hz0 | hz0
        · rw [hxl,hz0];simp
        rw [hxl,←Nat.add_mul,hok.size]
        refine Nat.le_trans (Nat.mul_le_mul_right _ hroom) ?_
        rw [hbes];rw [hbes] at hz0;simpa using hl3 hz0
       have hr:=run_append_room (P:=P) w t ty e' i ht hi b len cp' cur hblk d (n+1) c xs' hxl hcells hone hroom hfit
       have hnewsz:(cur.toList.take (len*i.size)++xs'++cur.toList.drop (len*i.size+xs'.length)).toArray.size=cur.size:=by
        simp only [List.size_toArray,List.length_append,List.length_take,List.length_drop,Array.length_toList]
        omega
       have hnew0:∀ j,j<len*i.size→(cur.toList.take (len*i.size)++xs'++cur.toList.drop (len*i.size+xs'.length)).toArray[j]?=cur[j]?:=by
        intro j hj
        simp only [List.getElem?_toArray]
        rw [List.append_assoc,List.getElem?_append_left (by simp;omega),List.getElem?_take_of_lt hj]
        simp
       have hnew1:∀ j,j<xs'.length→(cur.toList.take (len*i.size)++xs'++cur.toList.drop (len*i.size+xs'.length)).toArray[len*i.size+j]?=xs'[j]?:=by
        intro j hj
        simp only [List.getElem?_toArray]
        have e1:(cur.toList.take (len*i.size)).length=len*i.size:=by simp;omega
        rw [List.append_assoc,List.getElem?_append_right (by omega),e1,Nat.add_sub_cancel_left,List.getElem?_append_left hj]
       generalize hnc:(cur.toList.take (len*i.size)++xs'++cur.toList.drop (len*i.size+xs'.length)).toArray=nc at hr hnewsz hnew0 hnew1
       have le:Emb.le β (β.addRow a.block (g+1) b (β.bsz b) (β.bes b)):=HRel.addRow_le hnone (.inl hidl) (fun _ _ _ _=>⟨rfl,rfl⟩)
       have hblk':(w.setRow b nc).heap[b]?=some (.cells nc e' (0,0)):=setRow_heap w b cur nc e' (0,0) hblk
       have hblko:∀ b',b'≠b→(w.setRow b nc).heap[b']?=w.heap[b']?:=fun b' hb'=>setRow_other w b b' nc hb'
       have hsize:(w.setRow b nc).heap.size=w.heap.size:=by simp [World.setRow]
       refine ⟨_,_,_,hr,le,?_,?_,⟨by rw [hsize];exact Nat.le_refl _,fun b' hb'=>hblko _ (fun e=>hN (e▸hb')),rfl,rfl⟩⟩
       · refine h.change le.u a.block b (ZbR cs xs st (len*i.size) g e') hget (hv2 _ rfl) rfl hfreshH (Zg7 hstl hstle) hblko (hothr _ _ _) (fun _=>rfl) ?_ ?_ ?_ (by rw [hsize];exact h.base) ?_ hidM (hnx' _ _ _) (Nat.le_refl _) (by simp [Emb.addRow]) (hliv _ _ _) hidn rfl (fun i2 b2 e0=>⟨by rintro rfl;obtain ⟨_,_,_,_,h4,_⟩:=h.lp _ _ e0;rw [hblk] at h4;simp at h4,h.loop_ne e0 (.inr ⟨_,hview⟩)⟩)
         · intro i2 k2 b2 o2 hi2 h2 e0
           subst e0
           obtain ⟨r2,hr2⟩:=h.dom _ _ _ h2
           rcases h.inj _ _ _ _ _ _ _ _ _ h2 hb hr2 hview with e1 | ⟨_,e1⟩
           · exact hi2 e1
           · simp at e1
         · intro i2 b2 h2 e0
           subst e0
           obtain ⟨es2,hes2⟩:=h.domM _ _ h2
           obtain ⟨_,_,_,h3,_⟩:=h.map _ _ _ h2 hes2
           rw [hblk] at h3;simp at h3
         · intro k2 b2 o2 h2
           by_cases hk:k2=g+1
           · subst hk
             have:b=b2∧0=o2:=by simpa [Emb.addRow] using h2
             obtain ⟨rfl,rfl⟩:=this
             refine ⟨⟨nc,(0,0),{ blk:=hblk',size:=by rw [hnewsz,hok.size];simp [Emb.addRow],elem:=fun _=>⟨i,hi,by simp [Emb.addRow,hbes]⟩,robes:=fun e=>by simp [ZbR] at e,cell:=?_,own:=fun _=>⟨rfl,hN,rfl⟩,gen:=Nat.le_refl _ }⟩,.inl rfl⟩
             intro j v hj _
             rw [Zgt hmc] at hj
             rw [Nat.zero_add]
             split at hj
             · rename_i hjm
               rw [hnew0 j hjm]
               have h4:=ZgT hrd hjm
               rw [←hcs j hjm,hj] at h4
               unfold AHeap.cell at h4
               rw [Zem,hview] at h4
               dsimp only at h4
               rw [show (Zck a j).off=j by simp [Zck,hoff],hj] at h4
               dsimp only at h4
               split at h4
               · rename_i hstj
                 obtain ⟨v',h5,h6⟩:=hok.cell j v hj hstj
                 rw [Nat.zero_add] at h5
                 exact ⟨v',h5,h6.mono le⟩
               · simp at h4
             · rename_i hjm
               obtain ⟨v',h5,h6⟩:=VRels.get hxr hj
               have h7:=hnew1 (j-len*i.size) (List.getElem?_eq_some_iff.1 h5).1
               rw [show len*i.size+(j-len*i.size)=j by omega] at h7
               exact ⟨v',by rw [h7];exact h5,h6.mono le⟩
           · have h3:β.row a.block k2=some (b2,o2):=by simpa [Emb.addRow,hk] using h2
             refine ⟨?_,.inr ⟨k2,o2,h3⟩⟩
             obtain ⟨c2,fz2,hok2⟩:=h.row _ _ _ _ _ h3 hview
             by_cases hbb:b2=b
             · subst hbb
               have hb2:=hok2.blk
               dsimp only at hb2
               rw [hblk] at hb2
               obtain ⟨rfl,rfl⟩:cur=c2∧(0,0)=fz2:=by simpa using hb2
               obtain ⟨ho2,_,_⟩:=hok2.own rfl
               subst ho2
               exact ⟨nc,(0,0),hok2.elder le hstl hmc nc hblk' hnewsz (fun j hj=>by rw [Nat.zero_add];exact hnew0 j hj) (by simp [Emb.addRow]) (by simp [Emb.addRow])⟩
             · exact ⟨c2,fz2,hok2.elder le hstl hmc c2 (by rw [hblko _ hbb];exact hok2.blk) rfl (fun _ _=>rfl) (by simp [Emb.addRow,hbb]) (by simp [Emb.addRow,hbb])⟩
         · intro r2 hr2;rw [hview] at hr2;obtain rfl:=(by simpa using hr2:_=r2);rfl
       · refine .slice ⟨b,0,by simp [ZnV,Emb.addRow],by simp⟩ (Nat.le_refl _) hroom ?_
         simpa [Emb.addRow] using hl3
      ·
       have holds:∃ olds',VRels β olds olds'∧olds'.length=len*i.size∧∀ (j:Nat) (u:Value),olds'[j]?=some u→w.cell? (d'.add j)=some u:=by
        rcases hd with ⟨hA,_⟩ | ⟨e0,_,_⟩
        · exact h.readN_run hA hrd
        · subst e0
          have:olds=[]:=List.eq_nil_of_length_eq_zero (by rw [hol];simp)
          subst this
          exact ⟨[],.nil,by simp,by simp⟩
       obtain ⟨olds',hor,hol',hoc⟩:=holds
       have hr:=run_append_grow (P:=P) w t ty e' i z ht hi hz d' len cp' olds' hol' hoc d (n+1) c xs' hxl hcells (by omega) (by omega) (growslice_fits (by omega) hby)
       have hge:=grownCap_ge w (len+(n+1)) cp' e'
       generalize hgc:grownCap w (len+(n+1)) cp' e'=gc at hr hge
       have hnewsz:(olds'.toArray++xs'.toArray++Builtin.zeroCells z.cells (gc-(len+(n+1)))).size=gc*i.size:=by
        simp only [Array.size_append,List.size_toArray,size_zeroCells,hzs,hxl,hol',←Nat.add_mul]
        congr 1;omega
       have hnew0:∀ j,j<len*i.size→(olds'.toArray++xs'.toArray++Builtin.zeroCells z.cells (gc-(len+(n+1))))[j]?=olds'[j]?:=by
        intro j hj
        rw [Array.append_assoc,Array.getElem?_append_left (by simp;omega)];simp
       have hnew1:∀ j,j<xs'.length→(olds'.toArray++xs'.toArray++Builtin.zeroCells z.cells (gc-(len+(n+1))))[len*i.size+j]?=xs'[j]?:=by
        intro j hj
        rw [Array.getElem?_append_left (by simp;omega),Array.getElem?_append_right (by simp;omega)]
        simp [hol']
       generalize hnc:olds'.toArray++xs'.toArray++Builtin.zeroCells z.cells (gc-(len+(n+1)))=nc at hr hnewsz hnew0 hnew1
       have le:Emb.le β (β.addRow a.block (g+1) w.heap.size nc.size i.size):=HRel.addRow_le hnone (.inl hidl) (fun i' k' o' e0=>absurd (h.rowblk_lt e0) (by omega))
       have hblk':(w.drew.alloc (.cells nc e')).heap[w.heap.size]?=some (.cells nc e' (0,0)):=by
        show (w.heap.push _)[w.heap.size]?=_;simp
       have hblko:∀ b',b'≠w.heap.size→(w.drew.alloc (.cells nc e')).heap[b']?=w.heap[b']?:=by
        intro b' hb';show (w.heap.push _)[b']?=_;rw [Array.getElem?_push,if_neg hb']
       refine ⟨_,_,_,hr,le,?_,?_,⟨by rw [World.size_alloc,World.size_drew];omega,fun b' hb'=>hblko _ (Nat.ne_of_lt (h.base _ hb')),rfl,rfl⟩⟩
       · refine h.change le.u a.block w.heap.size (ZbR cs xs st (len*i.size) g e') hget (hv2 _ rfl) rfl hfreshH (Zg7 hstl hstle) hblko (hothr _ _ _) (fun _=>rfl) ?_ ?_ ?_ (fun b' hb'=>by rw [World.size_alloc,World.size_drew];have:=h.base b' hb';omega) ?_ hidM (hnx' _ _ _) (Nat.le_refl _) (by simp [Emb.addRow]) (hliv _ _ _) hidn rfl (fun i2 b2 e0=>⟨by have:=h.loopblk_lt e0;omega,h.loop_ne e0 (.inr ⟨_,hview⟩)⟩)
         · intro i2 k2 b2 o2 _ h2;have:=h.rowblk_lt h2;omega
         · intro i2 b2 h2;have:=h.mapblk_lt h2;omega
         · intro k2 b2 o2 h2
           by_cases hk:k2=g+1
           · subst hk
             have:w.heap.size=b2∧0=o2:=by simpa [Emb.addRow] using h2
             obtain ⟨rfl,rfl⟩:=this
             refine ⟨⟨nc,(0,0),{ blk:=hblk',size:=by simp [Emb.addRow],elem:=fun _=>⟨i,hi,by simp [Emb.addRow]⟩,robes:=fun e=>by simp [ZbR] at e,cell:=?_,own:=fun _=>⟨rfl,fun hb=>Nat.lt_irrefl _ (h.base _ hb),rfl⟩,gen:=Nat.le_refl _ }⟩,.inl rfl⟩
             intro j v hj _
             rw [Zgt hmc] at hj
             rw [Nat.zero_add]
             split at hj
             · rename_i hjm
               rw [hcs j hjm] at hj
               obtain ⟨v',h5,h6⟩:=VRels.get hor hj
               exact ⟨v',by rw [hnew0 j hjm];exact h5,h6.mono le⟩
             · rename_i hjm
               obtain ⟨v',h5,h6⟩:=VRels.get hxr hj
               have h7:=hnew1 (j-len*i.size) (List.getElem?_eq_some_iff.1 h5).1
               rw [show len*i.size+(j-len*i.size)=j by omega] at h7
               exact ⟨v',by rw [h7];exact h5,h6.mono le⟩
           · have h3:β.row a.block k2=some (b2,o2):=by simpa [Emb.addRow,hk] using h2
             refine ⟨?_,.inr ⟨k2,o2,h3⟩⟩
             obtain ⟨c2,fz2,hok2⟩:=h.row _ _ _ _ _ h3 hview
             have hbb:b2≠w.heap.size:=by have:=h.rowblk_lt h3;omega
             exact ⟨c2,fz2,hok2.elder le hstl hmc c2 (by rw [hblko _ hbb];exact hok2.blk) rfl (fun _ _=>rfl) (by simp [Emb.addRow,hbb]) (by simp [Emb.addRow,hbb])⟩
         · intro r2 hr2;rw [hview] at hr2;obtain rfl:=(by simpa using hr2:_=r2);rfl
       · refine .slice ⟨w.heap.size,0,by simp [ZnV,Emb.addRow],by simp⟩ (Nat.le_refl _) hge fun _=>?_
         simp [Emb.addRow,hnewsz]
    case _=>simp at ha
   · simp at ha
end
end
section
open Go
def Zaf {α:Type} (P:Program):Sem α→Option α
 | .pure a=>some a
 | .program k=>Zaf P (k P)
 | .mark _ k=>Zaf P k
 | _=>none
theorem ZbQ {α:Type} {P:Program}:∀ {s:Sem α} {a:α},Zaf P s=some a→∀ w,s.run P w=.ok a w
 | .pure a,b,h,w=>by simp only [Zaf,Option.some.injEq] at h;subst h;rfl
 | .program k,b,h,w=>by simp only [Zaf] at h;exact ZbQ (s:=k P) h w
 | .mark _ k,b,h,w=>by simp only [Zaf] at h;exact ZbQ (s:=k) h w
 | .load ..,_,h,_=>by simp [Zaf] at h
 | .store ..,_,h,_=>by simp [Zaf] at h
 | .new ..,_,h,_=>by simp [Zaf] at h
 | .shape ..,_,h,_=>by simp [Zaf] at h
 | .freeze ..,_,h,_=>by simp [Zaf] at h
 | .frozen ..,_,h,_=>by simp [Zaf] at h
 | .getObj ..,_,h,_=>by simp [Zaf] at h
 | .setObj ..,_,h,_=>by simp [Zaf] at h
 | .choose ..,_,h,_=>by simp [Zaf] at h
 | .sys ..,_,h,_=>by simp [Zaf] at h
 | .halt _,_,h,_=>by simp [Zaf] at h
def Zaa:Operand→Bool
 | .const v=>Zab v
 | .global _=>false
 | _=>true
def aev (tmps:List Value):Operand→Value
 | .tmp t=>tmps.getD t undef
 | .const v=>v
 | .global g=>.pointer (some ⟨g,0,none⟩)
 | .func f=>.func (.func f) #[] #[]
theorem ZhS {β:Emb} {tmps:List Value} {a:Act} (h:VRels β tmps a.tmps.toList) {x:Operand} (hx:Zaa x=true):VRel β (aev tmps x) (a.eval x):=by
 cases x with
 | tmp t =>
  simp only [aev,Act.eval]
  rcases Nat.lt_or_ge t tmps.length with hl | hl
  · obtain ⟨v',h1,h2⟩:=VRels.get h (List.getElem?_eq_getElem hl)
    rw [List.getD_eq_getElem?_getD,List.getElem?_eq_getElem hl]
    rw [Array.getElem?_toList] at h1
    simp only [Array.getD_eq_getD_getElem?,h1,Option.getD_some]
    exact h2
  · have hl':a.tmps.size≤t:=by have:=VRels.length h;simp at this;omega
    rw [List.getD_eq_getElem?_getD,List.getElem?_eq_none hl]
    simp only [Array.getD_eq_getD_getElem?,Array.getElem?_eq_none hl',Option.getD_none]
    exact .closed rfl
 | const v=>exact .closed hx
 | global g=>simp [Zaa] at hx
 | func f=>exact .closed rfl
inductive ARes where
 | val (v:Value) (H:AHeap)
 | skip (H:AHeap)
 | enter (f:FuncId) (args:List Value) (H:AHeap)
 | defer (d:Value) (args:List Value) (H:AHeap)
 | panic (v:Value) (H:AHeap)
inductive Comes (P:Program) (β:Emb) (w:World) (f:FuncId) (args:List Value):Next→Prop
 | fn {fn:Func} {args':Array Value} (hf:P.funcs[f]?=some fn) (h:VRels β args args'.toList):Comes P β w f args (.enter f args')
 | round {K l:Nat} {r:Loop} {args':Array Value} (hf:f=P.funcs.size+K) (hl:β.loop K=some l) (hw:w.heap[l]?=some (.loop r)) (hs:args'.size=r.params.size) (h:VRels β args args'.toList) :
     Comes P β w f args (.round l r.fn ((r.params.zip args').foldl (fun tmps (t,a)=>tmps.setIfInBounds t a) r.tmps) r.assign r.body)
def ResRel (P:Program) (N0:Fz) (β:Emb) (w:World):ARes→Result Next→Prop
 | .val v H,.ok (.value v') w'=>∃ γ,Emb.le β γ∧HRel P N0 γ H w'∧VRel γ v v'∧Fr N0 w w'
 | .skip H,.ok .skip w'=>∃ γ,Emb.le β γ∧HRel P N0 γ H w'∧Fr N0 w w'
 | .enter f args H,.ok nx w'=>∃ γ,Emb.le β γ∧HRel P N0 γ H w'∧Comes P γ w' f args nx∧Fr N0 w w'
 | .panic v H,.halt (.panic v') w'=>∃ γ,Emb.le β γ∧HRel P N0 γ H w'∧VRel γ v v'∧Fr N0 w w'
 | _,_=>False
section
variable {P:Program} {N0:Fz} {β:Emb} {H:AHeap} {w:World}
theorem ResRel.same (h:HRel P N0 β H w) {v v':Value} (hv:VRel β v v'):ResRel P N0 β w (.val v H) (.ok (.value v') w) :=
 ⟨β,Emb.le.refl _,h,hv,Fr.refl _ _⟩
def Zu4 (P:Program) (t:TypeId):Option Bool :=
 match P.underlying t with
 | some (.struct _)=>some true
 | some (.array _ _)=>some true
 | some _=>some false
 | none=>none
theorem ZjQ {t:TypeId} {b:Bool} (h:Zu4 P t=some b) (w:World):(isAgg t).run P w=.ok b w:=by
 unfold Zu4 at h
 unfold isAgg
 cases hu:P.underlying t with
 | none=>rw [hu] at h;simp at h
 | some d =>
  rw [hu] at h
  rw [Sem.run_bind,run_underlying hu,Result.andThen_ok]
  cases d<;>simp at h<;>subst h<;>rfl
def AHeap.loadV (H:AHeap) (P:Program) (t:TypeId) (a:Addr):Option Value :=
 match Zu4 P t with
 | some true=>match P.info? t with
  | some i=>match H.readN a i.size with
   | some vs=>some (.agg vs.toArray)
   | none=>none
  | none=>none
 | some false=>H.cell a
 | none=>none
theorem HRel.loadV_run (h:HRel P N0 β H w) {t:TypeId} {a c:Addr} {v:Value} (hv:H.loadV P t a=some v) (ha:ARel β a c) :
    ∃ v',(loadVar t c).run P w=.ok v' w∧VRel β v v':=by
 unfold AHeap.loadV at hv
 cases hb:Zu4 P t with
 | none=>rw [hb] at hv;simp at hv
 | some b =>
  rw [hb] at hv
  unfold loadVar
  cases b with
  | true =>
   dsimp only at hv
   cases hi:P.info? t with
   | none=>rw [hi] at hv;simp at hv
   | some i =>
    rw [hi] at hv
    dsimp only at hv
    cases hr:H.readN a i.size with
    | none=>rw [hr] at hv;simp at hv
    | some vs =>
     rw [hr] at hv
     simp at hv;subst hv
     obtain ⟨vs',h1,h2⟩:=h.loadCells_run ha hr
     refine ⟨.agg vs'.toArray,?_,.agg (by simpa using h2)⟩
     simp [ZjQ hb,sizeOf,typeInfo,hi,h1]
  | false =>
   obtain ⟨v',h1,h2⟩:=h.cell_run hv ha
   refine ⟨v',?_,h2⟩
   rw [Sem.run_bind,ZjQ hb,Result.andThen_ok,if_neg (by simp)]
   exact ZpQ h1
def AHeap.storeV (H:AHeap) (P:Program) (t:TypeId) (a:Addr) (v:Value):Option AHeap :=
 match P.info? t with
 | some i=>if v.cells.size=i.size then H.setN a v.cells.toList else none
 | none=>none
theorem HRel.storeV_run (h:HRel P N0 β H w) {t:TypeId} {a c:Addr} {v v':Value} {H':AHeap} (hs:H.storeV P t a v=some H') (ha:ARel β a c) (hv:VRel β v v') :
    ∃ w',(storeVar t c v').run P w=.ok () w'∧HRel P N0 β H' w'∧Fr N0 w w':=by
 unfold AHeap.storeV at hs
 cases hi:P.info? t with
 | none=>rw [hi] at hs;simp at hs
 | some i =>
  rw [hi] at hs
  dsimp only at hs
  split at hs
  · rename_i hsz
    have hcl:=hv.cells
    have hl:=VRels.length hcl
    simp only [Array.length_toList] at hl
    obtain ⟨w',h1,h2,h3⟩:=h.storeCells_run ha _ _ 0 (by rw [ZdH];exact hs) hcl
    refine ⟨w',?_,h2,h3⟩
    unfold storeVar
    simp [sizeOf,typeInfo,hi,hl,hsz,h1]
  · simp at hs
theorem Zum {β:Emb} (off:Nat):∀ (l l':List Value) (j:Nat) (cs cs':Array Value),VRels β l l'→VRels β cs.toList cs'.toList →
    VRels β ((l.zipIdx j).foldl (fun cs (c,j)=>cs.setIfInBounds (off+j) c) cs).toList ((l'.zipIdx j).foldl (fun cs (c,j)=>cs.setIfInBounds (off+j) c) cs').toList:=by
 intro l
 induction l with
 | nil=>intro l' j cs cs' h g;cases h;exact g
 | cons v l ih =>
  intro l' j cs cs' h g
  cases h with
  | cons h1 h2 =>
   simp only [List.zipIdx_cons,List.foldl_cons]
   refine ih _ _ _ _ h2 ?_
   simp only [Array.toList_setIfInBounds]
   exact VRels.set g _ h1
def PRels (β:Emb):List (Nat×Value)→List (Nat×Value)→Prop
 | [],[]=>True
 | (i,v)::l,(i',v')::l'=>i=i'∧VRel β v v'∧PRels β l l'
 | _,_=>False
theorem Zg9 {β:Emb} (place:Nat→Option (Nat×Nat)):∀ (l l':List (Nat×Value)) (cs cs' out:Array Value),PRels β l l'→VRels β cs.toList cs'.toList→Instr.fill place cs l=some out →
    ∃ out',Instr.fill place cs' l'=some out'∧VRels β out.toList out'.toList
 | [],[],cs,cs',out,_,g,e=>by simp [Instr.fill] at e;subst e;exact ⟨cs',rfl,g⟩
 | (i,v)::l,(i',v')::l',cs,cs',out,h,g,e=>by
  obtain ⟨rfl,hv,hl⟩:=h
  unfold Instr.fill at e ⊢
  cases hp:place i with
  | none=>rw [hp] at e;simp at e
  | some p =>
   obtain ⟨off,size⟩:=p
   rw [hp] at e
   dsimp only at e ⊢
   have h1:=VRels.length hv.cells
   have h2:=VRels.length g
   simp only [Array.length_toList] at h1 h2
   rw [h1,h2]
   split at e
   · simp at e
   · rename_i hc
     rw [if_neg hc]
     refine Zg9 place l l' _ _ out hl ?_ e
     have:=Zum off v.cells.toList v'.cells.toList 0 cs cs' hv.cells g
     rw [←Array.foldl_toList,←Array.foldl_toList,Array.toList_zipIdx,Array.toList_zipIdx]
     exact this
 | [],_::_,_,_,_,h,_,_=>by simp [PRels] at h
 | _::_,[],_,_,_,h,_,_=>by simp [PRels] at h
theorem PRels.map {β:Emb} {ρ ρ':Operand→Value} (hρ:∀ x,Zaa x=true→VRel β (ρ x) (ρ' x)):∀ (l:List (Nat×Operand)),(l.all fun p=>Zaa p.2)=true →
    PRels β (l.map fun (i,x)=>(i,ρ x)) (l.map fun (i,x)=>(i,ρ' x))
 | [],_=>trivial
 | (i,x)::l,h=>by
  simp only [List.all_cons,Bool.and_eq_true] at h
  exact ⟨rfl,hρ x h.1,PRels.map hρ l h.2⟩
end
end
section
open Go
def Zaz (P:Program) (ρ:Operand→Value) (o:Oper):Option Value :=
 if o.op.operands.all (fun x=>Zab (ρ x)) then
  match Zaf P (execOp ρ o) with
  | some (.value v)=>if Zab v then some v else none
  | _=>none
 else none
def ZjG:TypeDesc→Value→Value→Option Bool
 | .pointer _,.pointer none,.pointer b=>some b.isNone
 | .pointer _,.pointer (some _),.pointer none=>some false
 | .slice _,.slice none _ _,.slice b _ _=>some b.isNone
 | .slice _,.slice (some _) _ _,.slice none _ _=>some false
 | .map _ _,.map none,.map b=>some b.isNone
 | .map _ _,.map (some _),.map none=>some false
 | .func _ _ _,.nilFunc,.func _ _ _=>some false
 | .func _ _ _,.func _ _ _,.nilFunc=>some false
 | .interface _,.nilIface,.iface _ _=>some false
 | .interface _,.iface _ _,.nilIface=>some false
 | _,_,_=>none
def Za6 (d:Nat):Option Value→Option Nat
 | none=>some d
 | some (.int _ n)=>if 0≤n then some n.toNat else none
 | _=>none
def AHeap.elemOk (H:AHeap) (i:Nat) (e:TypeId):Bool:=match H.view i with
 | some r=>r.ro||r.e == e
 | none=>false
def Zdu (H:AHeap) (ee:TypeId) (sz:Nat) (s:Value) (lo hi:Option Value):Option Value :=
 match s with
 | .slice a len cap=>match Za6 0 lo,Za6 len hi with
  | some l,some h=>if l≤h∧h≤cap then
      match a with
      | some a=>if l=0∨H.elemOk a.block ee=true then some (.slice (some (Zck a (l*sz))) (h-l) (cap-l)) else none
      | none=>if len=0∧cap=0 then some (.slice none 0 0) else none
   else none
  | _,_=>none
 | _=>none
def ZkX (P:Program) (t:TypeId) (cs:List Value) (off:Nat):Option Value :=
 match Zu4 P t with
 | some true=>match P.info? t with
  | some i=>if off+i.size≤cs.length then some (.agg ((cs.drop off).take i.size).toArray) else none
  | none=>none
 | some false=>cs[off]?
 | none=>none
def Zbw (z:Value) (len size:Nat):Array Value:=(Array.range (len*size)).map (z.cells[· % z.cells.size]!)
def ZAH (P:Program) (H:AHeap) (t:TypeId) (l c:Value):Option (Value×AHeap):=match l,c with
 | .int .i64 (.ofNat n),.int .i64 (.ofNat m)=>if n=m then match P.underlying t with
  | some (.slice e)=>match P.info? e with
   | some i=>match i.zero with
    | some z=>match z.cells.toList with
     | [v]=>if Zab v&&Zba v&&Nat.beq i.size 1&&Nat.ble n 9223372036854775807&&Nat.ble (n*i.bytes) 140737488355328 then
         some (.slice (some ⟨H.next,0,some 0⟩) n n,H.push (.arr (List.replicate n v) (List.replicate n 0) 0 e false)) else none
     | _=>none
    | none=>none
   | none=>none
  | _=>none
  else none
 | _,_=>none
def ZaG (P:Program) (H:AHeap) (ρ:Operand→Value) (o:Oper):Option ARes :=
 if o.op.operands.all Zaa then
 match o.op with
 | .move x=>some (.val (ρ x) H)
 | .assign x=>some (.val (ρ x) H)
 | .pick c a b=>match ρ c with
  | .bool true=>some (.val (ρ a) H)
  | .bool false=>some (.val (ρ b) H)
  | _=>none
 | .alloc t=>match P.info? t with
  | some i=>match i.zero with
   | some z=>if Zab z&&z.cells.toList.all Zba then some (.val (.pointer (some ⟨H.next,0,none⟩)) (H.push (.box z.cells.toList t))) else none
   | none=>none
  | none=>none
 | .box t x=>match P.info? t with
  | some _=>if (ρ x).cells.toList.all Zba then some (.val (.pointer (some ⟨H.next,0,none⟩)) (H.push (.box (ρ x).cells.toList t))) else none
  | none=>none
 | .build t parts=>match P.info? t with
  | some i=>match i.zero with
   | some z=>if Zab z&&(parts.toList.all fun p=>Zaa p.2) then
       match P.built t (parts.map fun (i,x)=>(i,ρ x)).toList with
       | some cs=>some (.val (.agg cs) H)
       | none=>none
    else none
   | none=>none
  | none=>none
 | .buildSlice t len parts=>match P.underlying t with
  | some (.slice e)=>match P.info? e with
   | some i=>match i.zero with
    | some z=>if len*i.size≤16777216∧len*i.size≠0∧ZcJ (Zbw z len i.size)=true∧(parts.toList.all fun p=>Zaa p.2)=true then
        match Instr.fill (fun j=>some (j*i.size,i.size)) (Zbw z len i.size) (parts.map fun (i,x)=>(i,ρ x)).toList with
        | some cs=>if cs.toList.all Zba∧cs.size=len*i.size then
            some (.val (.slice (some ⟨H.next,0,some 0⟩) len len) (H.push (.arr cs.toList (List.replicate cs.size 0) 0 e false)))
         else none
        | none=>none
     else if len=0∧parts.toList=[] then
      some (.val (.slice (some ⟨H.next,0,some 0⟩) 0 0) (H.push (.arr [] [] 0 e false)))
     else none
    | none=>none
   | none=>none
  | _=>none
 | .load t x=>match ρ x with
  | .pointer (some a)=>match H.loadV P t a with
   | some v=>some (.val v H)
   | none=>none
  | _=>none
 | .store t x y=>match ρ x with
  | .pointer (some a)=>match H.storeV P t a (ρ y) with
   | some H'=>some (.skip H')
   | none=>none
  | _=>none
 | .nilCheck x=>match ρ x with
  | .pointer (some a)=>some (.val (.pointer (some a)) H)
  | .func (.func f) u v=>some (.val (.func (.func f) u v) H)
  | _=>none
 | .binOp op t x y _=>match Zaz P ρ o with
  | some v=>some (.val v H)
  | none=>match P.underlying t with
   | some d=>match ZjG d (ρ x) (ρ y) with
    | some b=>match op with
     | .eql=>some (.val (.bool b) H)
     | .neq=>some (.val (.bool (!b)) H)
     | _=>none
    | none=>none
   | none=>none
 | .unOp _ _ _=>match Zaz P ρ o with
  | some v=>some (.val v H)
  | none=>none
 | .convert _ _ _=>match Zaz P ρ o with
  | some v=>some (.val v H)
  | none=>none
 | .index _ _ _=>match Zaz P ρ o with
  | some v=>some (.val v H)
  | none=>none
 | .makeInterface t x=>if P.concrete t then some (.val (.iface t (ρ x)) H) else none
 | .makeFunc (.func f) u v=>some (.val (.func (.func f) (u.map ρ) (v.map ρ)) H)
 | .makeMap _ none=>some (.val (.map (some H.next)) (H.push (.map [])))
 | .slice t x lo hi none=>match P.underlying t with
  | some .string=>match Zaz P ρ o with
   | some v=>some (.val v H)
   | none=>none
  | some (.slice e)=>match P.info? e with
   | some i=>match Zdu H e i.size (ρ x) (lo.map ρ) (hi.map ρ) with
    | some v=>some (.val v H)
    | none=>none
   | none=>none
  | _=>none
 | .fieldAddr s x f=>match P.underlying s,ρ x with
  | some (.struct fields),.pointer (some a)=>match fields[f]? with
   | some fd=>match P.info? fd.type with
    | some i=>if i.size=0 then none else some (.val (.pointer (some (Zck a fd.offset))) H)
    | none=>none
   | none=>none
  | _,_=>none
 | .field t x f=>match P.underlying t,ρ x with
  | some (.struct fields),.agg cs=>match fields[f]? with
   | some fd=>match ZkX P fd.type cs.toList fd.offset with
    | some v=>some (.val v H)
    | none=>none
   | none=>none
  | _,_=>none
 | .indexAddr t x ix=>match P.underlying t,ρ x,ρ ix with
  | some (.slice e),.slice (some a) len _,.int _ n=>match P.info? e with
   | some i=>if 0≤n∧n<len then some (.val (.pointer (some (Zck a (n.toNat*i.size)))) H) else none
   | none=>none
  | _,_,_=>none
 | .extract x ix=>match ρ x with
  | .tuple vs=>match vs[ix]? with
   | some v=>some (.val v H)
   | none=>none
  | _=>none
 | .typeAssert x _ t ok=>match P.underlying t,ρ x with
  | some (.interface _),_=>none
  | some _,.iface u v=>if u=t then some (.val (if ok then .tuple #[v,.bool true] else v) H) else
      if ok then match P.info? t with
       | some i=>match i.zero with
        | some z=>if Zab z then some (.val (.tuple #[z,.bool false]) H) else none
        | none=>none
       | none=>none
      else none
  | _,_=>none
 | .panic x=>match ρ x with
  | .iface t v=>some (.panic (.iface t v) H)
  | _=>none
 | .makeSlice t l c=>match ZAH P H t (ρ l) (ρ c) with
  | some (v,H')=>some (.val v H')
  | none=>none
 | _=>none
 else none
section
variable {P:Program} {N0:Fz} {β:Emb} {H:AHeap} {w:World} {ρ ρ':Operand→Value} {o:Oper}
theorem Zbu {l:Array Operand} (h:l.all Zaa=true) {x:Operand} (hx:x∈l):Zaa x=true:=by
 rw [Array.all_eq_true'] at h;exact h x hx
theorem Zgb {v:Value} (h:Zaz P ρ o=some v):(∀ x∈o.op.operands,Zab (ρ x)=true)∧Zaf P (execOp ρ o)=some (.value v)∧Zab v=true:=by
 unfold Zaz at h
 split at h
 · rename_i hc
   rw [Array.all_eq_true'] at hc
   split at h
   · rename_i u hu
     split at h
     · rename_i hv
       simp at h;subst h
       exact ⟨hc,hu,hv⟩
     · simp at h
   · simp at h
 · simp at h
theorem Zce (h:HRel P N0 β H w) (hρ:∀ x,Zaa x=true→VRel β (ρ x) (ρ' x)) (hok:o.op.operands.all Zaa=true) {v:Value} (hc:Zaz P ρ o=some v)
    (hcongr:(∀ x∈o.op.operands,ρ' x=ρ x)→execOp ρ' o=execOp ρ o):ResRel P N0 β w (.val v H) ((execOp ρ' o).run P w):=by
 obtain ⟨h1,h2,h3⟩:=Zgb hc
 rw [hcongr fun x hx=>VRel.eq_of_closed (hρ x (Zbu hok hx)) (h1 x hx),ZbQ h2]
 exact ResRel.same h (.closed h3)
end
end
section
open Go
theorem ZqT {P:Program} {β:Emb} {t:TypeId} {cs:List Value} {cs':Array Value} {off:Nat} {v:Value} (h:ZkX P t cs off=some v) (hr:VRels β cs cs'.toList) (w:World) :
    ∃ v',(part t cs' off).run P w=.ok v' w∧VRel β v v':=by
 unfold ZkX at h
 cases hb:Zu4 P t with
 | none=>rw [hb] at h;simp at h
 | some b =>
  rw [hb] at h
  unfold part
  rw [Sem.run_bind,ZjQ hb,Result.andThen_ok]
  cases b with
  | true =>
   dsimp only at h
   cases hi:P.info? t with
   | none=>rw [hi] at h;simp at h
   | some i =>
    rw [hi] at h
    dsimp only at h
    split at h
    · simp at h;subst h
      refine ⟨.agg (cs'.extract off (off+i.size)),by simp [sizeOf,typeInfo,hi],.agg ?_⟩
      have:=VRels.take i.size (VRels.drop off hr)
      simpa [Array.toList_extract,List.extract] using this
    · simp at h
  | false =>
   dsimp only at h
   obtain ⟨v',h1,h2⟩:=VRels.get hr h
   rw [Array.getElem?_toList] at h1
   exact ⟨v',by simp [h1],h2⟩
theorem Zgy {P:Program} {w:World} {d y:Nat} {v:Option Value} {l:Nat} (h:Za6 d v=some l) (hy:l≤y) (code:BoundsCode):∀ x,v=some x→(Instr.sliceBound x y code).run P w=.ok l w:=by
 intro x hx
 subst hx
 unfold Za6 at h
 split at h
 · rename_i e;simp at e
 · rename_i k n e
   simp at e;subst e
   split at h
   · rename_i hn
     simp at h;subst h
     exact run_sliceBound w k n y code hn (by omega)
   · simp at h
 · simp at h
def ZCE (β:Emb):Option Value→Option Value→Prop
 | none,none=>True
 | some x,some x'=>VRel β x x'
 | _,_=>False
theorem Zkf {β:Emb} {d:Nat} {v v':Option Value} {l:Nat} (h:Za6 d v=some l) (hr:ZCE β v v'):Za6 d v'=some l∧v'=v:=by
 cases v with
 | none=>cases v' with
  | none=>exact ⟨h,rfl⟩
  | some _=>exact hr.elim
 | some x=>cases v' with
  | none=>exact hr.elim
  | some x' =>
   have:x'=x:=by
    refine VRel.eq_of_closed hr ?_
    unfold Za6 at h
    split at h
    · rename_i e;simp at e
    · rename_i e;simp at e;subst e;rfl
    · simp at h
   subst this;exact ⟨h,rfl⟩
theorem Zjf {P:Program} {w:World} {len cap l h:Nat} {lo hi:Option Value} (hl:Za6 0 lo=some l) (hh:Za6 len hi=some h) (h1:l≤h) (h2:h≤cap) :
    (Instr.sliceBounds true len cap lo hi none).run P w=.ok (l,h,cap) w:=by
 cases hi with
 | none =>
  simp [Za6] at hh;subst hh
  cases lo with
  | none=>simp [Za6] at hl;subst hl;simp [Instr.sliceBounds]
  | some x=>have:=Zgy (P:=P) (w:=w) hl h1 .sliceB x rfl;simp [Instr.sliceBounds,this]
 | some y =>
  have hy:=Zgy (P:=P) (w:=w) hh h2 .sliceAcap y rfl
  cases lo with
  | none=>simp [Za6] at hl;subst hl;simp [Instr.sliceBounds,hy]
  | some x=>have:=Zgy (P:=P) (w:=w) hl h1 .sliceB x rfl;simp [Instr.sliceBounds,hy,this]
theorem Zog {P:Program} {N0:Fz} {H:AHeap} {β:Emb} {w:World} (h0:HRel P N0 β H w) {ee:TypeId} {i:TypeInfo} {t:TypeId} {x x' v:Value} {lo hi lo' hi':Option Value} (hu:P.underlying t=some (.slice ee)) (hi0:P.info? ee=some i)
    (hs:Zdu H ee i.size x lo hi=some v) (hv:VRel β x x') (hlo:ZCE β lo lo') (hhi:ZCE β hi hi') :
    ∃ v',(Instr.slice t x' lo' hi' none).run P w=.ok v' w∧VRel β v v':=by
 unfold Zdu at hs
 cases x with
 | slice a len cap =>
  dsimp only at hs
  cases hl:Za6 0 lo with
  | none=>rw [hl] at hs;simp at hs
  | some l =>
   cases hb:Za6 len hi with
   | none=>rw [hl,hb] at hs;simp at hs
   | some h =>
    rw [hl,hb] at hs
    dsimp only at hs
    split at hs
    · rename_i hle
      obtain ⟨hl',rfl⟩:=Zkf hl hlo
      obtain ⟨hh',rfl⟩:=Zkf hb hhi
      have run:∀ (d:Option Addr) (c':Nat),h≤c'→(Instr.slice t (.slice d len c') lo' hi' none).run P w =
          .ok (.slice (if c'=l then d else d.map (·.add (l*i.size))) (h-l) (c'-l)) w:=by
       intro d c' hhc
       simp [Instr.slice,run_underlying hu,Zjf hl hb hle.1 hhc,sizeOf,typeInfo,hi0]
      cases a with
      | some a0 =>
       dsimp only at hs
       split at hs
       case isFalse=>simp at hs
       rename_i hel
       simp at hs;subst hs
       obtain ⟨d,c',rfl,hd⟩:=hv.inv_slice
       rcases hd with ⟨ha,h1,h2,h3⟩ | ⟨rfl,rfl,rfl,hres⟩
       · have hres0:β.live a0.block=true:=by
          obtain ⟨b,o,hb,_⟩:=ha
          exact h0.liveR _ _ _ hb
         rw [run (some d) c' (by omega)]
         refine ⟨_,rfl,?_⟩
         by_cases hcl:c'=l
         · rw [if_pos hcl]
           have:h-l=0∧cap-l=0∧c'-l=0:=by omega
           obtain ⟨e1,e2,e3⟩:=this
           rw [e1,e2,e3]
           exact .sliceZ hres0
         · rw [if_neg hcl]
           simp only [Option.map_some]
           by_cases hz:cap-l=0∧c'-l=0
           · rw [hz.1,hz.2,show h-l=0 by omega];exact .sliceZ hres0
           · have hadd:=ha.add (l*i.size)
             refine .slice hadd (by omega) (by omega) ?_
             have hblk:(d.add (l*i.size)).block=d.block:=by unfold Addr.add;split<;>rfl
             have hoff:(d.add (l*i.size)).off=d.off+l*i.size:=by unfold Addr.add;split<;>simp_all
             rw [hblk,hoff]
             intro hpos
             have h3:=h3 hpos
             rcases hel with rfl | hel
             · simpa using h3
             · obtain ⟨b,o,hr,rfl⟩:=ha
               obtain ⟨r,hrv⟩:=h0.dom _ _ _ hr
               obtain ⟨_,_,hok⟩:=h0.row _ _ _ _ _ hr hrv
               unfold AHeap.elemOk at hel
               rw [hrv] at hel
               simp only [Bool.or_eq_true,beq_iff_eq] at hel
               have hro:r.ro=false:=by
                cases hro:r.ro with
                | false=>rfl
                | true=>have:=hok.robes hro;dsimp only at hpos;omega
               obtain ⟨i',hi',hbes⟩:=hok.elem hro
               have hel:=hel.resolve_left (by rw [hro];simp)
               rw [hel,hi0] at hi'
               obtain rfl:i=i':=by simpa using hi'
               dsimp only at h3 ⊢
               rw [←hbes] at h3 ⊢
               have e4:l*i.size+(c'-l)*i.size=c'*i.size:=by rw [←Nat.add_mul];congr 1;omega
               omega
       · have h0:h=0:=by omega
         have l0:l=0:=by omega
         subst h0;subst l0
         rw [run (some d) 0 (by omega)]
         exact ⟨_,rfl,by simpa [ZdH] using VRel.sliceZ hres⟩
      | none =>
       dsimp only at hs
       split at hs
       · rename_i hz
         simp at hs;subst hs
         obtain ⟨rfl,rfl⟩:=hz
         obtain rfl:=VRel.eq_of_closed hv rfl
         have h0:h=0:=by omega
         have l0:l=0:=by omega
         subst h0;subst l0
         rw [run none 0 (by omega)]
         exact ⟨_,rfl,.closed (by simp [Zab])⟩
       · simp at hs
    · simp at hs
 | _=>simp at hs
structure EqRuns (P:Program) (t:TypeId) (x y:Value) (b:Bool) (w:World):Prop where
 guard:∀ (op:BinOp) (a c:Operand),(eqGuard op t a c x y).run P w=.ok () w
 eql:(binOp .eql t x y).run P w=.ok (.bool b) w
 neq:(binOp .neq t x y).run P w=.ok (.bool (!b)) w
theorem EqRuns.mk' {P:Program} {t:TypeId} {x y:Value} {b:Bool} {w:World} (h1:(Op.equal t x y).run P w=.ok b w) (h2:∀ (op:BinOp) (a c:Operand),(eqGuard op t a c x y).run P w=.ok () w)
    (h3:binOp .eql t x y=(do pure (.bool (← Op.equal t x y)))) (h4:binOp .neq t x y=(do pure (.bool (!(← Op.equal t x y))))):EqRuns P t x y b w :=
 ⟨h2,by rw [h3];simp [h1],by rw [h4];simp [h1]⟩
theorem Zc1 {P:Program} {t:TypeId} {x y:Value} {b:Bool} {w:World} (h:∀ d,(Op.equalIn (d+1) t x y).run P w=.ok b w):(Op.equal t x y).run P w=.ok b w:=h 9999
set_option maxHeartbeats 2000000 in
theorem ZtK {P:Program} {β:Emb} {t:TypeId} {d:TypeDesc} {x y x' y':Value} {b:Bool} (hu:P.underlying t=some d) (h:ZjG d x y=some b) (hx:VRel β x x') (hy:VRel β y y') (w:World) :
    EqRuns P t x' y' b w:=by
 unfold ZjG at h
 split at h
 · obtain rfl:=VRel.eq_of_closed hx rfl
   obtain ⟨c,rfl,hc,_⟩:=hy.inv_nil
   simp at h;subst h
   exact .mk' (Zc1 fun d=>by simp [Op.equalIn,run_underlying hu,hc]) (by intro op a c;unfold eqGuard;split<;>rfl) rfl rfl
 · obtain ⟨c,rfl,hc⟩:=hx.inv_pointer
   obtain rfl:=VRel.eq_of_closed hy rfl
   simp at h;subst h
   exact .mk' (Zc1 fun d=>by simp [Op.equalIn,run_underlying hu]) (by intro op a c;unfold eqGuard;split<;>rfl) rfl rfl
 · rename_i b' _ _
   cases hx
   simp at h;subst h
   cases hy<;>exact .mk' (Zc1 fun d=>by simp [Op.equalIn,run_underlying hu]) (by intro op a c;unfold eqGuard;split<;>rfl) rfl rfl
 · simp at h;subst h
   cases hy
   cases hx<;>exact .mk' (Zc1 fun d=>by simp [Op.equalIn,run_underlying hu]) (by intro op a c;unfold eqGuard;split<;>rfl) rfl rfl
 · obtain rfl:=VRel.eq_of_closed hx rfl
   simp at h;subst h
   cases hy<;>exact .mk' (Zc1 fun d=>by simp [Op.equalIn,run_underlying hu]) (by intro op a c;unfold eqGuard;split<;>rfl) rfl rfl
 · obtain rfl:=VRel.eq_of_closed hy rfl
   simp at h;subst h
   obtain ⟨c,rfl,_⟩:=hx.inv_map
   exact .mk' (Zc1 fun d=>by simp [Op.equalIn,run_underlying hu]) (by intro op a c;unfold eqGuard;split<;>rfl) rfl rfl
 · obtain rfl:=VRel.eq_of_closed hx rfl
   simp at h;subst h
   cases hy<;>exact .mk' (Zc1 fun d=>by simp [Op.equalIn,run_underlying hu]) (by intro op a c;unfold eqGuard;split<;>rfl) rfl rfl
 · obtain rfl:=VRel.eq_of_closed hy rfl
   simp at h;subst h
   cases hx<;>exact .mk' (Zc1 fun d=>by simp [Op.equalIn,run_underlying hu]) (by intro op a c;unfold eqGuard;split<;>rfl) rfl rfl
 · obtain rfl:=VRel.eq_of_closed hx rfl
   simp at h;subst h
   obtain ⟨v',rfl,_⟩:=hy.inv_iface
   exact .mk' (Zc1 fun d=>by simp [Op.equalIn,run_underlying hu]) (by intro op a c;unfold eqGuard;split<;>rfl) rfl rfl
 · obtain rfl:=VRel.eq_of_closed hy rfl
   simp at h;subst h
   obtain ⟨v',rfl,_⟩:=hx.inv_iface
   exact .mk' (Zc1 fun d=>by simp [Op.equalIn,run_underlying hu]) (by intro op a c;unfold eqGuard;split<;>rfl) rfl rfl
 · simp at h
end
section
open Go
section
variable {P:Program} {N0:Fz} {β:Emb} {H:AHeap} {w:World} {ρ ρ':Operand→Value} {o:Oper}
theorem Zdf {α γ:Type} {f g:α→γ} {l:Option α} (h:∀ x,l=some x→f x=g x):l.map f=l.map g:=by
 cases l with
 | none=>rfl
 | some x=>simp [h x rfl]
theorem Zkq {a:Addr} {f:Field} {i:TypeInfo} (hi:P.info? f.type=some i) (hz:i.size≠0) (w:World):(fieldPlace a f).run P w=.ok (a.add f.offset) w:=by
 simp [fieldPlace,sizeOf,typeInfo,hi,hz]
theorem VRels.mapOps {β:Emb} (hρ:∀ x,Zaa x=true→VRel β (ρ x) (ρ' x)):∀ (l:List Operand),(l.all Zaa)=true→VRels β (l.map ρ) (l.map ρ')
 | [],_=>.nil
 | x::l,h=>by
  simp only [List.all_cons,Bool.and_eq_true] at h
  exact .cons (hρ x h.1) (VRels.mapOps hρ l h.2)
theorem ZlN (v:Value) (n:Nat):madeCells #[v] n=(List.replicate n v).toArray:=by
 unfold madeCells
 apply Array.ext'
 simp [Nat.mod_one,List.map_const']
set_option maxHeartbeats 4000000 in
theorem Zro (h:HRel P N0 β H w) (hρ:∀ x,Zaa x=true→VRel β (ρ x) (ρ' x)) {r:ARes} (e:ZaG P H ρ o=some r):ResRel P N0 β w r ((execOp ρ' o).run P w):=by
 unfold ZaG at e
 split at e
 case isFalse=>simp at e
 rename_i hok
 have hop:∀ x∈o.op.operands,VRel β (ρ x) (ρ' x):=fun x hx=>hρ x (Zbu hok hx)
 split at e
 ·
  rename_i x ho
  simp at e;subst e
  have:execOp ρ' o=pure (.value (ρ' x)):=by unfold execOp;rw [ho]
  rw [this]
  exact ResRel.same h (hop x (by rw [ho];simp [Op.operands]))
 · rename_i x ho
   simp at e;subst e
   have:execOp ρ' o=pure (.value (ρ' x)):=by unfold execOp;rw [ho]
   rw [this]
   exact ResRel.same h (hop x (by rw [ho];simp [Op.operands]))
 ·
  rename_i c a b ho
  have hx:execOp ρ' o=(do pure (.value (if ← asBool (ρ' c) then ρ' a else ρ' b))):=by unfold execOp;rw [ho]
  rw [hx]
  have hc:=hop c (by rw [ho];simp [Op.operands])
  split at e
  · rename_i hcv
    simp at e;subst e
    rw [hcv] at hc
    rw [hc.inv_bool]
    simp [asBool]
    exact ResRel.same h (hop a (by rw [ho];simp [Op.operands]))
  · rename_i hcv
    simp at e;subst e
    rw [hcv] at hc
    rw [hc.inv_bool]
    simp [asBool]
    exact ResRel.same h (hop b (by rw [ho];simp [Op.operands]))
  · simp at e
 ·
  rename_i t ho
  have hx:execOp ρ' o=(do pure (.value (← Instr.alloc t true (.tuple #[])))):=by unfold execOp;rw [ho]
  rw [hx]
  split at e
  · rename_i i hi
    split at e
    · rename_i z hz
      split at e
      · rename_i hc
        simp at e;subst e
        rw [Bool.and_eq_true] at hc
        have hcl:VRels β z.cells.toList z.cells.toList:=(VRel.closed (β:=β) hc.1).cells
        obtain ⟨le,hr,hf,hrow,_,_⟩:=h.pushRow (o:=.box z.cells.toList t) (r:=⟨z.cells.toList,fun _=>0,0,t,false⟩) rfl rfl (fun _=>Nat.le_refl _) rfl (c:=z.cells) hi
         (fun j v hj=>by obtain ⟨v',h1,h2⟩:=VRels.get hcl hj;exact ⟨v',by rw [←Array.getElem?_toList];exact h1,h2⟩) (w.alloc (.cells z.cells t)) ⟨rfl,rfl,rfl⟩
        have:(Instr.alloc t true (.tuple #[])).run P w=.ok (.pointer (some ⟨w.heap.size,0,none⟩)) (w.alloc (.cells z.cells t)):=by
         simp [Instr.alloc,zeroValue,typeInfo,hi,hz,newVar,newRow]
        simp only [Sem.run_bind,this,Result.andThen_ok]
        exact ⟨_,le,hr,.pointer ⟨w.heap.size,0,hrow,by simp⟩,hf⟩
      · simp at e
    · simp at e
  · simp at e
 ·
  rename_i t x ho
  have hx:execOp ρ' o=(do pure (.value (← Instr.box t (ρ' x)))):=by unfold execOp;rw [ho]
  rw [hx]
  split at e
  · rename_i i hi
    split at e
    · simp at e;subst e
      have hv:=hop x (by rw [ho];simp [Op.operands])
      have hcl:=hv.cells
      obtain ⟨le,hr,hf,hrow,_,_⟩:=h.pushRow (o:=.box (ρ x).cells.toList t) (r:=⟨(ρ x).cells.toList,fun _=>0,0,t,false⟩) rfl rfl (fun _=>Nat.le_refl _) rfl (c:=(ρ' x).cells) hi
       (fun j v hj=>by obtain ⟨v',h1,h2⟩:=VRels.get hcl hj;exact ⟨v',by rw [←Array.getElem?_toList];exact h1,h2⟩) (w.alloc (.cells (ρ' x).cells t)) ⟨rfl,rfl,rfl⟩
      have:(Instr.box t (ρ' x)).run P w=.ok (.pointer (some ⟨w.heap.size,0,none⟩)) (w.alloc (.cells (ρ' x).cells t)):=by
       simp [Instr.box,newVar,newRow]
      simp only [Sem.run_bind,this,Result.andThen_ok]
      exact ⟨_,le,hr,.pointer ⟨w.heap.size,0,hrow,by simp⟩,hf⟩
    · simp at e
  · simp at e
 ·
  rename_i t parts ho
  have hx:execOp ρ' o=(do pure (.value (← Instr.build t (parts.map fun (i,x)=>(i,ρ' x))))):=by unfold execOp;rw [ho]
  rw [hx]
  split at e
  · rename_i i hi
    split at e
    · rename_i z hz
      split at e
      · rename_i hc
        rw [Bool.and_eq_true] at hc
        split at e
        · rename_i cs hcs
          simp at e;subst e
          have hp:PRels β (parts.map fun (i,x)=>(i,ρ x)).toList (parts.map fun (i,x)=>(i,ρ' x)).toList:=by
           simpa using PRels.map hρ parts.toList hc.2
          have hzc:VRels β z.cells.toList z.cells.toList:=(VRel.closed (β:=β) hc.1).cells
          have hb:∃ cs',P.built t (parts.map fun (i,x)=>(i,ρ' x)).toList=some cs'∧VRels β cs.toList cs'.toList:=by
           unfold Program.built at hcs ⊢
           rw [hi] at hcs ⊢
           split at hcs
           · rename_i e1 e2;simp at e1;subst e1
             rw [hz] at hcs
             rename_i ee
             cases hie:P.info? ee with
             | none=>rw [hie] at hcs;simp at hcs
             | some ie =>
              rw [hie] at hcs
              obtain ⟨out',h1,h2⟩:=Zg9 _ _ _ _ _ _ hp hzc hcs
              exact ⟨out',by simp only [hz,hie,e2];exact h1,h2⟩
           · rename_i fields e1 e2;simp at e1;subst e1
             rw [hz] at hcs
             split at hcs
             · rename_i z2 places hz2 hpl
               obtain rfl:z=z2:=by simpa using hz2
               obtain ⟨out',h1,h2⟩:=Zg9 _ _ _ _ _ _ hp hzc hcs
               exact ⟨out',by simp only [hz,hpl,e2];exact h1,h2⟩
             · simp at hcs
           · simp at hcs
          obtain ⟨cs',h1,h2⟩:=hb
          simp only [Sem.run_bind,run_build w t _ cs' h1,Result.andThen_ok]
          exact ResRel.same h (.agg h2)
        · simp at e
      · simp at e
    · simp at e
  · simp at e
 ·
  rename_i t len parts ho
  have hx:execOp ρ' o=(do pure (.value (← Instr.buildSlice t len (parts.map fun (i,x)=>(i,ρ' x))))):=by unfold execOp;rw [ho]
  rw [hx]
  split at e
  · rename_i ee hu
    split at e
    · rename_i i hi
      split at e
      · rename_i z hz
        split at e
        · rename_i hc
          obtain ⟨hc1,hc2,hc3,hc4⟩:=hc
          split at e
          · rename_i cs hcs
            split at e
            · rename_i hcc
              simp at e;subst e
              have hp:PRels β (parts.map fun (i,x)=>(i,ρ x)).toList (parts.map fun (i,x)=>(i,ρ' x)).toList:=by
               simpa using PRels.map hρ parts.toList hc4
              have hzc:VRels β (Zbw z len i.size).toList (Zbw z len i.size).toList:=by
               rw [ZaP] at hc3;exact VRels.closed hc3
              obtain ⟨cs',h1,h2⟩:=Zg9 _ _ _ _ _ _ hp hzc hcs
              have hsz:cs'.size=cs.size:=by have:=VRels.length h2;simpa using this
              obtain ⟨le,hr,hf,hrow,hbs,hbe⟩:=h.pushRow (o:=.arr cs.toList (List.replicate cs.size 0) 0 ee false) (r:=⟨cs.toList,fun j=>(List.replicate cs.size 0).getD j 0,0,ee,false⟩) rfl rfl
               (fun j=>Zbt _ _ _) rfl (c:=cs') hi
               (fun j v hj=>by obtain ⟨v',h1,h2⟩:=VRels.get h2 hj;exact ⟨v',by rw [←Array.getElem?_toList];exact h1,h2⟩) (w.alloc (.cells cs' ee)) ⟨rfl,rfl,rfl⟩
              have:(Instr.buildSlice t len (parts.map fun (i,x)=>(i,ρ' x))).run P w=.ok (.slice (some ⟨w.heap.size,0,none⟩) len len) (w.alloc (.cells cs' ee)):=by
               unfold Zbw at h1
               simp [Instr.buildSlice,run_underlying hu,sizeOf,typeInfo,hi,zeroValue,hz,hc2,Nat.not_lt.2 hc1,newRow]
               simp only [Array.toList_map] at h1
               rw [h1]
               rfl
              simp only [Sem.run_bind,this,Result.andThen_ok]
              refine ⟨_,le,hr,.slice ⟨w.heap.size,0,hrow,by simp⟩ (Nat.le_refl _) (Nat.le_refl _) fun _=>?_,hf⟩
              rw [hbs,hbe,hsz,hcc.2];simp
            · simp at e
          · simp at e
        · split at e
          · rename_i hc
            simp at e;subst e
            obtain ⟨hl,hpz⟩:=hc
            subst hl
            obtain ⟨le,hr,hf,hrow,hbs,hbe⟩:=h.pushRow (o:=.arr [] [] 0 ee false) (r:=⟨[],fun j=>([]:List Nat).getD j 0,0,ee,false⟩) rfl rfl
             (fun j=>by simp) rfl (c:=#[]) hi (fun j v hj=>by simp at hj) (w.alloc (.cells #[] ee)) ⟨rfl,rfl,rfl⟩
            have:(Instr.buildSlice t 0 (parts.map fun (i,x)=>(i,ρ' x))).run P w=.ok (.slice (some ⟨w.heap.size,0,none⟩) 0 0) (w.alloc (.cells #[] ee)):=by
             have hp0:parts = #[]:=by cases parts;simp at hpz;subst hpz;rfl
             subst hp0
             have e0:∀ (f:Nat→Value),(Array.range 0).map f = #[]:=fun f=>Array.eq_empty_of_size_eq_zero (by simp)
             simp [Instr.buildSlice,run_underlying hu,sizeOf,typeInfo,hi,newRow,Instr.fill]
             rw [e0]
            simp only [Sem.run_bind,this,Result.andThen_ok]
            exact ⟨_,le,hr,.sliceZ (by simp [Emb.addRow]),hf⟩
          · simp at e
      · simp at e
    · simp at e
  · simp at e
 ·
  rename_i t x ho
  have hx:execOp ρ' o=(do pure (.value (← Instr.loadAt t (ρ' x)))):=by unfold execOp;rw [ho]
  rw [hx]
  have hv:=hop x (by rw [ho];simp [Op.operands])
  split at e
  · rename_i a hxa
    rw [hxa] at hv
    obtain ⟨c,hc,ha⟩:=hv.inv_pointer
    rw [hc]
    split at e
    · rename_i v hl
      simp at e;subst e
      obtain ⟨v',h1,h2⟩:=h.loadV_run hl ha
      have:(Instr.loadAt t (.pointer (some c))).run P w=.ok v' w:=by simp [Instr.loadAt,Instr.sureAddr,h1]
      simp only [Sem.run_bind,this,Result.andThen_ok]
      exact ResRel.same h h2
    · simp at e
  · simp at e
 ·
  rename_i t x y ho
  have hx:execOp ρ' o=(do Instr.storeAt t (ρ' x) (ρ' y);pure .skip):=by unfold execOp;rw [ho]
  rw [hx]
  have hv:=hop x (by rw [ho];simp [Op.operands])
  have hvy:=hop y (by rw [ho];simp [Op.operands])
  split at e
  · rename_i a hxa
    rw [hxa] at hv
    obtain ⟨c,hc,ha⟩:=hv.inv_pointer
    rw [hc]
    split at e
    · rename_i H' hl
      simp at e;subst e
      obtain ⟨w',h1,h2,h3⟩:=h.storeV_run hl ha hvy
      have:(Instr.storeAt t (.pointer (some c)) (ρ' y)).run P w=.ok () w':=by simp [Instr.storeAt,Instr.sureAddr,h1]
      simp only [Sem.run_bind,this,Result.andThen_ok]
      exact ⟨β,Emb.le.refl _,h2,h3⟩
    · simp at e
  · simp at e
 ·
  rename_i x ho
  have hv:=hop x (by rw [ho];simp [Op.operands])
  split at e
  · rename_i a hxa
    simp at e;subst e
    rw [hxa] at hv
    obtain ⟨c,hc,ha⟩:=hv.inv_pointer
    have hx:execOp ρ' o=pure (.value (.pointer (some c))):=by unfold execOp;rw [ho];simp only [hc]
    rw [hx]
    exact ResRel.same h (.pointer ha)
  · rename_i f u v hxa
    simp at e;subst e
    rw [hxa] at hv
    obtain ⟨x',y',hc,h1,h2⟩:=hv.inv_func
    have hx:execOp ρ' o=pure (.value (.func (.func f) x' y')):=by unfold execOp;rw [ho];simp only [hc]
    rw [hx]
    exact ResRel.same h (.func h1 h2)
  · simp at e
 ·
  rename_i op t x y t2 ho
  have hx:∀ ρ'',execOp ρ'' o=(do pure (.value (← (do eqGuard op t x y (ρ'' x) (ρ'' y);binOp op t (ρ'' x) (ρ'' y))))):=by intro ρ'';unfold execOp;rw [ho]
  split at e
  · rename_i v hc
    simp at e;subst e
    refine Zce h hρ hok hc fun hh=>?_
    rw [hx,hx,hh x (by rw [ho];simp [Op.operands]),hh y (by rw [ho];simp [Op.operands])]
  · split at e
    · rename_i d hu
      split at e
      · rename_i b hn
        have hr:=ZtK hu hn (hop x (by rw [ho];simp [Op.operands])) (hop y (by rw [ho];simp [Op.operands])) w
        rw [hx]
        split at e
        · simp at e;subst e
          simp only [Sem.run_bind,hr.guard,Result.andThen_ok,hr.eql]
          exact ResRel.same h (.closed rfl)
        · simp at e;subst e
          simp only [Sem.run_bind,hr.guard,Result.andThen_ok,hr.neq]
          exact ResRel.same h (.closed rfl)
        · simp at e
      · simp at e
    · simp at e
 ·
  rename_i op t x ho
  have hx:∀ ρ'',execOp ρ'' o=(do pure (.value (← Op.unary op (ρ'' x)))):=by intro ρ'';unfold execOp;rw [ho]
  split at e
  · rename_i v hc
    simp at e;subst e
    refine Zce h hρ hok hc fun hh=>?_
    rw [hx,hx,hh x (by rw [ho];simp [Op.operands])]
  · simp at e
 ·
  rename_i t u x ho
  have hx:∀ ρ'',execOp ρ'' o=(do pure (.value (← convert t u (ρ'' x)))):=by intro ρ'';unfold execOp;rw [ho]
  split at e
  · rename_i v hc
    simp at e;subst e
    refine Zce h hρ hok hc fun hh=>?_
    rw [hx,hx,hh x (by rw [ho];simp [Op.operands])]
  · simp at e
 ·
  rename_i t x y ho
  have hx:∀ ρ'',execOp ρ'' o=(do pure (.value (← Instr.index t (ρ'' x) (ρ'' y)))):=by intro ρ'';unfold execOp;rw [ho]
  split at e
  · rename_i v hc
    simp at e;subst e
    refine Zce h hρ hok hc fun hh=>?_
    rw [hx,hx,hh x (by rw [ho];simp [Op.operands]),hh y (by rw [ho];simp [Op.operands])]
  · simp at e
 ·
  rename_i t x ho
  have hx:execOp ρ' o=(do pure (.value (← Instr.makeInterface t (ρ' x)))):=by unfold execOp;rw [ho]
  rw [hx]
  split at e
  · rename_i hc
    simp at e;subst e
    simp only [Sem.run_bind,run_makeInterface _ _ _ hc,Result.andThen_ok]
    exact ResRel.same h (.iface (hop x (by rw [ho];simp [Op.operands])))
  · simp at e
 ·
  rename_i f u v ho
  have hx:execOp ρ' o=(do pure (.value (← Instr.makeFunc (.func f) (u.map ρ') (v.map ρ')))):=by unfold execOp;rw [ho]
  rw [hx]
  simp at e;subst e
  rw [ho] at hok
  simp only [Op.operands,Array.all_append,Bool.and_eq_true] at hok
  have h1:=VRels.mapOps hρ u.toList (by simpa using hok.1)
  have h2:=VRels.mapOps hρ v.toList (by simpa using hok.2)
  simp only [Instr.makeFunc]
  exact ResRel.same h (.func (by simpa using h1) (by simpa using h2))
 ·
  rename_i t ho
  have hx:execOp ρ' o=(do pure (.value (← Instr.makeMap t none))):=by unfold execOp;rw [ho];rfl
  rw [hx]
  simp at e;subst e
  have hm0:(Instr.makeMap t none).run P w=.ok (.map (some w.heap.size)) (w.alloc (.map #[] 0)):=rfl
  simp only [Sem.run_bind,hm0,Result.andThen_ok]
  obtain ⟨le,hr,hf,hm⟩:=h.pushMap (w.alloc (.map #[] 0)) ⟨rfl,rfl,rfl⟩
  exact ⟨_,le,hr,.map hm,hf⟩
 ·
  rename_i t x lo hi ho
  have hx:∀ ρ'',execOp ρ'' o=(do pure (.value (← Instr.sliceAt t (ρ'' x) (lo.map ρ'') (hi.map ρ'') none))):=by intro ρ'';unfold execOp;rw [ho];rfl
  split at e
  · split at e
    · rename_i v hc
      simp at e;subst e
      refine Zce h hρ hok hc fun hh=>?_
      rw [hx,hx,hh x (by rw [ho];simp [Op.operands]),Zdf (f:=ρ') (g:=ρ) (fun z hz=>hh z (by rw [ho];simp [Op.operands,hz])),
       Zdf (f:=ρ') (g:=ρ) (l:=hi) (fun z hz=>hh z (by rw [ho];simp [Op.operands,hz]))]
    · simp at e
  · rename_i ee hu
    split at e
    · rename_i i hi'
      split at e
      · rename_i v hs
        simp at e;subst e
        rw [hx]
        have hv:=hop x (by rw [ho];simp [Op.operands])
        have hlo:ZCE β (lo.map ρ) (lo.map ρ'):=by
         cases lo with
         | none=>trivial
         | some z=>exact hop z (by rw [ho];simp [Op.operands])
        have hhi:ZCE β (hi.map ρ) (hi.map ρ'):=by
         cases hi with
         | none=>trivial
         | some z=>exact hop z (by rw [ho];simp [Op.operands])
        have hxs:=Zog h hu hi' hs hv hlo hhi
        obtain ⟨v',h1,h2⟩:=hxs
        have h3:(Instr.sliceAt t (ρ' x) (lo.map ρ') (hi.map ρ') none).run P w=.ok v' w:=by
         unfold Instr.sliceAt
         rw [Sem.run_bind,run_underlying hu,Result.andThen_ok]
         exact h1
        simp only [Sem.run_bind,h3,Result.andThen_ok]
        exact ResRel.same h h2
      · simp at e
    · simp at e
  · simp at e
 ·
  rename_i s x f ho
  have hx:execOp ρ' o=(do pure (.value (← Instr.fieldAt s (ρ' x) f))):=by unfold execOp;rw [ho]
  rw [hx]
  have hv:=hop x (by rw [ho];simp [Op.operands])
  split at e
  · rename_i fields a hu hxa
    rw [hxa] at hv
    obtain ⟨c,hc,ha⟩:=hv.inv_pointer
    rw [hc]
    split at e
    · rename_i fd hfd
      split at e
      · rename_i i hi
        split at e
        · simp at e
        · rename_i hz
          simp at e;subst e
          have h1:(Instr.fieldAt s (.pointer (some c)) f).run P w=.ok (.pointer (some (c.add fd.offset))) w:=by
           simp [Instr.fieldAt,run_underlying hu,hfd,Instr.sureAddr,Zkq hi hz]
          simp only [Sem.run_bind,h1,Result.andThen_ok]
          exact ResRel.same h (.pointer (ha.add _))
      · simp at e
    · simp at e
  · simp at e
 ·
  rename_i t x f ho
  have hx:execOp ρ' o=(do pure (.value (← Instr.field t (ρ' x) f))):=by unfold execOp;rw [ho]
  rw [hx]
  have hv:=hop x (by rw [ho];simp [Op.operands])
  split at e
  · rename_i fields cs hu hxa
    rw [hxa] at hv
    obtain ⟨cs',hc,hcs⟩:=hv.inv_agg
    rw [hc]
    split at e
    · rename_i fd hfd
      split at e
      · rename_i v hp
        simp at e;subst e
        obtain ⟨v',h1,h2⟩:=ZqT hp hcs w
        have h3:(Instr.field t (.agg cs') f).run P w=.ok v' w:=by
         simp [Instr.field,run_underlying hu,hfd,asAgg,h1]
        simp only [Sem.run_bind,h3,Result.andThen_ok]
        exact ResRel.same h h2
      · simp at e
    · simp at e
  · simp at e
 ·
  rename_i t x ix ho
  have hx:execOp ρ' o=(do pure (.value (← Instr.indexAt t (ρ' x) (ρ' ix)))):=by unfold execOp;rw [ho]
  rw [hx]
  have hv:=hop x (by rw [ho];simp [Op.operands])
  have hvi:=hop ix (by rw [ho];simp [Op.operands])
  split at e
  · rename_i ee a len cp k n hu hxa hxi
    rw [hxa] at hv
    rw [hxi] at hvi
    rw [hvi.inv_int]
    obtain ⟨c,c',hc,hd⟩:=hv.inv_slice
    rw [hc]
    split at e
    · rename_i i hi
      split at e
      · rename_i hn
        simp at e;subst e
        rcases hd with ⟨ha,_⟩ | ⟨hl,_,_⟩
        · have h1:(Instr.indexAt t (.slice (some c) len c') (.int k n)).run P w=.ok (.pointer (some (c.add (n.toNat*i.size)))) w:=by
           simp [Instr.indexAt,run_underlying hu,asIntOf,hn.1,hn.2,sizeOf,typeInfo,hi]
          simp only [Sem.run_bind,h1,Result.andThen_ok]
          exact ResRel.same h (.pointer (ha.add _))
        · omega
      · simp at e
    · simp at e
  · simp at e
 ·
  rename_i x ix ho
  have hx:execOp ρ' o=(do pure (.value (← Instr.extract (ρ' x) ix))):=by unfold execOp;rw [ho]
  rw [hx]
  have hv:=hop x (by rw [ho];simp [Op.operands])
  split at e
  · rename_i vs hxa
    rw [hxa] at hv
    obtain ⟨vs',hc,hvs⟩:=hv.inv_tuple
    rw [hc]
    split at e
    · rename_i v hp
      simp at e;subst e
      rw [←Array.getElem?_toList] at hp
      obtain ⟨v',h1,h2⟩:=VRels.get hvs hp
      rw [Array.getElem?_toList] at h1
      have h3:(Instr.extract (.tuple vs') ix).run P w=.ok v' w:=by simp [Instr.extract,h1]
      simp only [Sem.run_bind,h3,Result.andThen_ok]
      exact ResRel.same h h2
    · simp at e
  · simp at e
 ·
  rename_i x xt t ok ho
  have hx:execOp ρ' o=(do pure (.value (← Instr.typeAssert (ρ' x) xt t ok))):=by unfold execOp;rw [ho]
  rw [hx]
  have hv:=hop x (by rw [ho];simp [Op.operands])
  split at e
  · simp at e
  · rename_i d u v hni hu hxa
    rw [hxa] at hv
    obtain ⟨v',hc,hvr⟩:=hv.inv_iface
    rw [hc]
    split at e
    · rename_i hut
      simp at e;subst e
      subst hut
      have h3:(Instr.typeAssert (.iface u v') xt u ok).run P w=.ok (if ok then .tuple #[v',.bool true] else v') w:=by
       unfold Instr.typeAssert
       rw [Sem.run_bind,run_underlying hu,Result.andThen_ok]
       cases d<;>first | (exact (hni _ rfl).elim) | simp
      simp only [Sem.run_bind,h3,Result.andThen_ok]
      refine ResRel.same h ?_
      cases ok
      · simpa using hvr
      · simp only [if_true];exact .tuple (.cons hvr (.cons (.closed rfl) .nil))
    · rename_i hut
      split at e
      · rename_i hk
        split at e
        · rename_i i hi
          split at e
          · rename_i z hz
            split at e
            · rename_i hcz
              simp at e;subst e
              have h3:(Instr.typeAssert (.iface u v') xt t ok).run P w=.ok (.tuple #[z,.bool false]) w:=by
               unfold Instr.typeAssert
               rw [Sem.run_bind,run_underlying hu,Result.andThen_ok]
               subst hk
               cases d<;>first | (exact (hni _ rfl).elim) | simp [hut,zeroValue,typeInfo,hi,hz]
              simp only [Sem.run_bind,h3,Result.andThen_ok]
              exact ResRel.same h (.tuple (.cons (.closed hcz) (.cons (.closed rfl) .nil)))
            · simp at e
          · simp at e
        · simp at e
      · simp at e
  · simp at e
 ·
  rename_i x ho
  have hx:execOp ρ' o=(do pure (.value (← Instr.panic (ρ' x)))):=by unfold execOp;rw [ho]
  rw [hx]
  have hv:=hop x (by rw [ho];simp [Op.operands])
  split at e
  · rename_i t v hxa
    simp at e;subst e
    rw [hxa] at hv
    obtain ⟨v',hc,hvr⟩:=hv.inv_iface
    rw [hc]
    have h3:(Instr.panic (.iface t v')).run P w=.halt (.panic (.iface t v')) w:=by simp [Instr.panic,goPanic,Sem.run]
    simp only [Sem.run_bind,h3,Result.andThen_halt]
    exact ⟨β,Emb.le.refl _,h,.iface hvr,Fr.refl _ _⟩
  · simp at e
 ·
  rename_i t l c ho
  have hx:execOp ρ' o=(do pure (.value (← Instr.makeSlice t (ρ' l) (ρ' c)))):=by unfold execOp;rw [ho]
  rw [hx]
  have hvl:=hop l (by rw [ho];simp [Op.operands])
  have hvc:=hop c (by rw [ho];simp [Op.operands])
  split at e
  case h_2=>simp at e
  rename_i v H' hm
  simp at e;subst e
  unfold ZAH at hm
  split at hm
  case h_2=>cases hm
  rename_i n m hl hc
  split at hm
  case isFalse=>cases hm
  rename_i hnm
  subst hnm
  split at hm
  case h_2=>cases hm
  rename_i ee hu
  split at hm
  case h_2=>cases hm
  rename_i i hi
  split at hm
  case h_2=>cases hm
  rename_i z hz
  split at hm
  case h_2=>cases hm
  rename_i u hzu
  split at hm
  case isFalse=>cases hm
  rename_i hcc
  simp only [Bool.and_eq_true] at hcc
  obtain ⟨⟨⟨⟨c1,c2⟩,c3⟩,c4⟩,c5⟩:=hcc
  have c3':i.size=1:=Nat.eq_of_beq_eq_true c3
  have c4':=Nat.le_of_ble_eq_true c4
  have c5':=Nat.le_of_ble_eq_true c5
  simp only [Option.some.injEq,Prod.mk.injEq] at hm
  obtain ⟨rfl,rfl⟩:=hm
  rw [hl] at hvl;rw [hc] at hvc
  have el:ρ' l=.int .i64 (.ofNat n):=VRel.eq_of_closed hvl rfl
  have ec:ρ' c=.int .i64 (.ofNat n):=VRel.eq_of_closed hvc rfl
  rw [el,ec]
  have hz1:z.cells = #[u]:=by cases hcz:z.cells;rw [hcz] at hzu;simp at hzu;rw [hzu]
  have hmade:madeCells #[u] n=(List.replicate n u).toArray:=ZlN u n
  have hb5:(i.bytes:Int)*(Int.ofNat n)≤281474976710656:=by
   have h6:i.bytes*n≤140737488355328:=by rw [Nat.mul_comm];exact c5'
   have h7:(i.bytes:Int)*(Int.ofNat n)=((i.bytes*n:Nat):Int):=(Int.natCast_mul _ _).symm
   rw [h7];omega
  have hr:=run_make (P:=P) w t ee i z hu hi hz .i64 .i64 (Int.ofNat n) (Int.ofNat n) (Int.natCast_nonneg n) (Int.le_refl _) hb5 (by simp only [Int.ofNat_eq_natCast];omega)
  have e0:(Int.ofNat n).toNat=n:=rfl
  rw [e0,hz1,c3',Nat.mul_one,hmade] at hr
  simp only [Sem.run_bind,hr,Result.andThen_ok]
  obtain ⟨le,hrr,hf,hrow,hbs,hbe⟩:=h.pushRow (o:=.arr (List.replicate n u) (List.replicate n 0) 0 ee false) (r:=⟨List.replicate n u,fun j=>(List.replicate n 0).getD j 0,0,ee,false⟩) rfl rfl
   (fun j=>Zbt _ _ _) rfl (c:=(List.replicate n u).toArray) hi
   (fun j y hj=>by
    have hy:y=u:=List.eq_of_mem_replicate (List.mem_of_getElem? hj)
    subst hy
    exact ⟨y,by rw [List.getElem?_toArray];exact hj,.closed c1⟩) (w.alloc (.cells (List.replicate n u).toArray ee)) ⟨rfl,rfl,rfl⟩
  refine ⟨_,le,hrr,.slice ⟨w.heap.size,0,hrow,by simp⟩ (Nat.le_refl _) (Nat.le_refl _) fun _=>?_,hf⟩
  rw [hbs,hbe,c3'];simp
 · simp at e
end
end
section
open Go
def ZaI (es:List (Value×Value)):List MapEntry:=es.map fun (k,v)=>{ key:=k,val:=v,born:=0 }
def ZwA (β:Emb):Option (Nat×Value)→Option (Nat×Value)→Prop
 | none,none=>True
 | some (i,v),some (j,v')=>i=j∧VRel β v v'
 | _,_=>False
theorem ZjV {β:Emb} (kind:TypeDesc) (k:Value):∀ (es:List (Value×Value)) (ces:List MapEntry) (i:Nat),ERels β es ces →
    match Instr.findNow kind k (ZaI es) i,Instr.findNow kind k ces i with
    | none,none=>True
    | some a,some b=>ZwA β a b
    | _,_=>False
 | [],[],i,_=>by simp [ZaI,Instr.findNow,ZwA]
 | (key,v)::es,e::ces,i,h=>by
  cases h with
  | cons hk he hv g =>
   have ih:=ZjV kind k es ces (i+1) g
   simp only [ZaI,List.map_cons,Instr.findNow,he]
   simp only [ZaI] at ih
   cases hs:Instr.sameNow kind k key with
   | none=>simp
   | some b=>cases b with
    | true=>simp [ZwA,hv]
    | false=>simpa using ih
 | [],_::_,_,h=>by cases h
 | _::_,[],_,h=>by cases h
theorem Zb4 {α γ:Type} {P:Program}:∀ {s:Sem α} {f:α→Sem γ} {c:γ},Zaf P (s >>= f)=some c→∃ a,Zaf P s=some a∧Zaf P (f a)=some c
 | .pure a,f,c,h=>⟨a,rfl,h⟩
 | .program k,f,c,h=>by
  have h':Zaf P (k P >>= f)=some c:=h
  obtain ⟨a,h1,h2⟩:=Zb4 h'
  exact ⟨a,h1,h2⟩
 | .mark m k,f,c,h=>by
  have h':Zaf P (k >>= f)=some c:=h
  obtain ⟨a,h1,h2⟩:=Zb4 h'
  exact ⟨a,h1,h2⟩
 | .load ..,_,_,h=>by simp [bind,Sem.bind,Zaf] at h
 | .store ..,_,_,h=>by simp [bind,Sem.bind,Zaf] at h
 | .new ..,_,_,h=>by simp [bind,Sem.bind,Zaf] at h
 | .shape ..,_,_,h=>by simp [bind,Sem.bind,Zaf] at h
 | .freeze ..,_,_,h=>by simp [bind,Sem.bind,Zaf] at h
 | .frozen ..,_,_,h=>by simp [bind,Sem.bind,Zaf] at h
 | .getObj ..,_,_,h=>by simp [bind,Sem.bind,Zaf] at h
 | .setObj ..,_,_,h=>by simp [bind,Sem.bind,Zaf] at h
 | .choose ..,_,_,h=>by simp [bind,Sem.bind,Zaf] at h
 | .sys ..,_,_,h=>by simp [bind,Sem.bind,Zaf] at h
 | .halt _,_,_,h=>by simp [bind,Sem.bind,Zaf] at h
theorem Zf8 {P:Program} {β:Emb} (kt:TypeId) (k:Value) (w:World):∀ (es:List (Value×Value)) (ces:List MapEntry) (i:Nat) (r:Option (Nat×Value)),ERels β es ces →
    Zaf P (Instr.findAsking kt k (ZaI es) i)=some r→∃ r',(Instr.findAsking kt k ces i).run P w=.ok r' w∧ZwA β r r'
 | [],[],i,r,_,h=>by
  simp only [ZaI,List.map_nil,Instr.findAsking,pure,Zaf,Option.some.injEq] at h
  subst h
  exact ⟨none,rfl,trivial⟩
 | (key,v)::es,e::ces,i,r,h,hp=>by
  cases h with
  | cons hk he hv g =>
   simp only [ZaI,List.map_cons,Instr.findAsking] at hp
   obtain ⟨b,h1,h2⟩:=Zb4 hp
   simp only [Instr.findAsking,he,Sem.run_bind,ZbQ h1,Result.andThen_ok]
   cases b with
   | true =>
    simp only [if_true,pure,Zaf,Option.some.injEq] at h2
    subst h2
    exact ⟨some (i,e.val),by simp,rfl,hv⟩
   | false =>
    simp only [Bool.false_eq_true,if_false] at h2 ⊢
    exact Zf8 kt k w es ces (i+1) r g h2
 | [],_::_,_,_,h,_=>by cases h
 | _::_,[],_,_,h,_=>by cases h
theorem ZjX {P:Program} {β:Emb} (kt:TypeId) (k:Value) (w:World) {es:List (Value×Value)} {ces:List MapEntry} {r:Option (Nat×Value)} (h:ERels β es ces)
    (hp:Zaf P (Instr.findKey kt k (ZaI es))=some r):∃ r',(Instr.findKey kt k ces).run P w=.ok r' w∧ZwA β r r':=by
 unfold Instr.findKey at hp ⊢
 obtain ⟨d,h1,h2⟩:=Zb4 hp
 simp only [Sem.run_bind,ZbQ h1,Result.andThen_ok]
 have hf:=ZjV d k es ces 0 h
 split at h2
 · rename_i a ha
   rw [ha] at hf
   simp only [pure,Zaf,Option.some.injEq] at h2
   subst h2
   cases hc:Instr.findNow d k ces 0 with
   | none=>rw [hc] at hf;exact hf.elim
   | some b=>rw [hc] at hf;exact ⟨b,rfl,hf⟩
 · rename_i ha
   rw [ha] at hf
   cases hc:Instr.findNow d k ces 0 with
   | none=>exact Zf8 kt k w es ces 0 r h h2
   | some b=>rw [hc] at hf;exact hf.elim
theorem ERels.length {β:Emb} {es:List (Value×Value)} {ces:List MapEntry} (h:ERels β es ces):ces.length=es.length:=by
 induction h with
 | nil=>rfl
 | cons _ _ _ _ ih=>simp [ih]
def ZjM (P:Program) (t:TypeId):Bool:=match P.underlying t with
 | some .string=>true
 | _=>false
def Zg2 (P:Program) (kt:TypeId) (k:Value) (es:List (Value×Value)):Bool:=es.isEmpty||!(Zch es)||(Zib k&&ZjM P kt)
theorem Zq8 {P:Program} {t:TypeId} (h:ZjM P t=true):P.underlying t=some .string:=by
 unfold ZjM at h
 split at h
 · assumption
 · simp at h
def Zc7 (k:ByteArray):List (Value×Value)→Nat→Option (Nat×Value)
 | [],_=>none
 | (.string s,v)::es,i=>if k=s then some (i,v) else Zc7 k es (i+1)
 | _::es,i=>Zc7 k es (i+1)
theorem Zhh {a b:ByteArray}:(a == b)=true↔a=b:=by
 constructor
 · intro h
   have h2:(a.data == b.data)=true:=h
   exact ByteArray.ext (by simpa using h2)
 · rintro rfl
   show (a.data == a.data)=true
   simp
theorem Zm9 (k:ByteArray):∀ (es:List (Value×Value)) (i:Nat),Zch es=true→Instr.findNow .string (.string k) (ZaI es) i=some (Zc7 k es i)
 | [],_,_=>rfl
 | (key,v)::es,i,h=>by
  simp only [Zch,List.all_cons,Bool.and_eq_true] at h
  have ih:=Zm9 k es (i+1) h.2
  cases key with
  | string s =>
   simp only [ZaI,List.map_cons,Instr.findNow,Instr.sameNow,Zc7]
   simp only [ZaI] at ih
   by_cases hs:k=s
   · subst hs
     rw [Zhh.2 rfl]
     simp
   · rw [show (k == s)=false from Bool.eq_false_iff.2 fun h=>hs (Zhh.1 h)]
     simp only [if_neg hs]
     exact ih
  | _=>simp [Zib] at h
theorem ZdQ {α γ:Type} {P:Program}:∀ {s:Sem α} {f:α→Sem γ} {a:α},Zaf P s=some a→Zaf P (s >>= f)=Zaf P (f a)
 | .pure a,f,c,h=>by simp [Zaf] at h;subst h;rfl
 | .program k,f,c,h=>by
  have h':Zaf P (k P)=some c:=h
  exact ZdQ (s:=k P) h'
 | .mark m k,f,c,h=>by
  have h':Zaf P k=some c:=h
  exact ZdQ (s:=k) h'
 | .load ..,_,_,h=>by simp [Zaf] at h
 | .store ..,_,_,h=>by simp [Zaf] at h
 | .new ..,_,_,h=>by simp [Zaf] at h
 | .shape ..,_,_,h=>by simp [Zaf] at h
 | .freeze ..,_,_,h=>by simp [Zaf] at h
 | .frozen ..,_,_,h=>by simp [Zaf] at h
 | .getObj ..,_,_,h=>by simp [Zaf] at h
 | .setObj ..,_,_,h=>by simp [Zaf] at h
 | .choose ..,_,_,h=>by simp [Zaf] at h
 | .sys ..,_,_,h=>by simp [Zaf] at h
 | .halt _,_,_,h=>by simp [Zaf] at h
theorem Zna {P:Program} {kt:TypeId} {k:ByteArray} {es:List (Value×Value)} (hk:ZjM P kt=true) (hs:Zch es=true):Zaf P (Instr.findKey kt (.string k) (ZaI es))=some (Zc7 k es 0):=by
 unfold Instr.findKey
 have h1:Zaf P (underlying kt)=some .string:=by
  unfold underlying
  have e:Zaf P (program:Sem Program)=some P:=rfl
  rw [ZdQ e,Zq8 hk]
  rfl
 rw [ZdQ h1,Zm9 k es 0 hs]
 rfl
theorem ZfR {k:ByteArray}:∀ {es:List (Value×Value)} {i j:Nat} {v:Value},Zc7 k es i=some (j,v)→i≤j∧es[j-i]?=some (.string k,v)
 | [],_,_,_,h=>by simp [Zc7] at h
 | (key,u)::es,i,j,v,h=>by
  have step:Zc7 k es (i+1)=some (j,v)→i≤j∧((key,u)::es)[j-i]?=some (.string k,v):=by
   intro h
   obtain ⟨h1,h2⟩:=ZfR h
   refine ⟨by omega,?_⟩
   rw [show j-i=(j-(i+1))+1 by omega,List.getElem?_cons_succ]
   exact h2
  cases key with
  | string s =>
   unfold Zc7 at h
   split at h
   · rename_i e
     subst e
     simp at h
     obtain ⟨rfl,rfl⟩:=h
     simp
   · exact step h
  | _=>exact step (by simpa [Zc7] using h)
theorem ZfS {k:ByteArray}:∀ {es:List (Value×Value)} {i:Nat},Zc7 k es i=none→∀ p∈es,p.1≠.string k
 | [],_,_,p,hp=>by simp at hp
 | (key,u)::es,i,h,p,hp=>by
  have step:Zc7 k es (i+1)=none→key≠.string k→p.1≠.string k:=by
   intro h h2
   rcases List.mem_cons.1 hp with rfl | hp
   · exact h2
   · exact ZfS h p hp
  cases key with
  | string s =>
   unfold Zc7 at h
   split at h
   · simp at h
   · rename_i e
     exact step h (fun h=>e (by injection h with h;exact h.symm))
  | _=>exact step (by simpa [Zc7] using h) (by simp)
theorem ZtE {es:List (Value×Value)} (h:(es.map (·.1)).Nodup) {k v u:Value} (h1:(k,v)∈es) (h2:(k,u)∈es):v=u:=by
 induction es with
 | nil=>simp at h1
 | cons p es ih =>
  simp only [List.map_cons,List.nodup_cons] at h
  rcases List.mem_cons.1 h1 with e1 | e1
  · rcases List.mem_cons.1 h2 with e2 | e2
    · rw [←e1] at e2;injection e2 with _ e2;exact e2.symm
    · exact absurd (List.mem_map_of_mem (f:=(·.1)) e2) (by rw [←e1] at h;exact h.1)
  · rcases List.mem_cons.1 h2 with e2 | e2
    · exact absurd (List.mem_map_of_mem (f:=(·.1)) e1) (by rw [←e2] at h;exact h.1)
    · exact ih h.2 e1 e2
theorem Zk8 {k:ByteArray} {es es0:List (Value×Value)} (hp:es0.Perm es) (hn:(es.map (·.1)).Nodup):match Zc7 k es 0,Zc7 k es0 0 with
    | none,none=>True
    | some (i,v),some (j,u)=>v=u∧es[i]?=some (.string k,v)∧es0[j]?=some (.string k,v)
    | _,_=>False:=by
 cases h1:Zc7 k es 0 with
 | none =>
  cases h2:Zc7 k es0 0 with
  | none=>trivial
  | some q =>
   obtain ⟨j,u⟩:=q
   obtain ⟨_,h3⟩:=ZfR h2
   have:=(hp.mem_iff).1 (List.mem_of_getElem? h3)
   exact (ZfS h1 _ this rfl).elim
 | some p =>
  obtain ⟨i,v⟩:=p
  obtain ⟨_,h3⟩:=ZfR h1
  rw [Nat.sub_zero] at h3
  cases h2:Zc7 k es0 0 with
  | none=>exact (ZfS h2 _ ((hp.mem_iff).2 (List.mem_of_getElem? h3)) rfl).elim
  | some q =>
   obtain ⟨j,u⟩:=q
   obtain ⟨_,h4⟩:=ZfR h2
   rw [Nat.sub_zero] at h4
   have h5:=(hp.mem_iff).1 (List.mem_of_getElem? h4)
   obtain rfl:=ZtE hn (List.mem_of_getElem? h3) h5
   exact ⟨rfl,h3,h4⟩
theorem Zmx {es es0:List (Value×Value)} (hp:es0.Perm es) (h:Zch es=true):Zch es0=true:=by
 unfold Zch at h ⊢
 rw [List.all_eq_true] at h ⊢
 exact fun p hp'=>h p ((hp.mem_iff).1 hp')
def ZCF (β:Emb):Option (Nat×Value)→Option (Nat×Value)→Prop
 | none,none=>True
 | some (_,v),some (_,v')=>VRel β v v'
 | _,_=>False
theorem ZjY {P:Program} {β:Emb} (kt:TypeId) (k:Value) (w:World) {es:List (Value×Value)} {ces:List MapEntry} {clock:Nat} {r:Option (Nat×Value)} (h:MRel β es ces clock) (hfit:Zg2 P kt k es=true)
    (hp:Zaf P (Instr.findKey kt k (ZaI es))=some r):∃ es0 r0 r',ERels β es0 ces∧(Instr.findKey kt k ces).run P w=.ok r' w∧ZwA β r0 r'∧ZCF β r r' ∧
     ((es0=es∧r0=r)∨(es0.Perm es∧Zch es=true∧(es.map (·.1)).Nodup∧∃ s,k=.string s∧r=Zc7 s es 0∧r0=Zc7 s es0 0)):=by
 obtain ⟨⟨es0,h1,h2⟩,_,_⟩:=h
 have same:es0=es→∃ es0 r0 r',ERels β es0 ces∧(Instr.findKey kt k ces).run P w=.ok r' w∧ZwA β r0 r'∧ZCF β r r' ∧
     ((es0=es∧r0=r)∨(es0.Perm es∧Zch es=true∧(es.map (·.1)).Nodup∧∃ s,k=.string s∧r=Zc7 s es 0∧r0=Zc7 s es0 0)):=by
  rintro rfl
  obtain ⟨r',h3,h4⟩:=ZjX kt k w h1 hp
  refine ⟨_,r,r',h1,h3,h4,?_,.inl ⟨rfl,rfl⟩⟩
  unfold ZwA at h4
  unfold ZCF
  split at h4
  · trivial
  · exact h4.2
  · exact h4.elim
 rcases h2 with h2 | ⟨h2,h3,h4⟩
 · exact same h2
 · cases hes:es with
   | nil =>
    subst hes
    exact same (List.perm_nil.1 h2)
   | cons q es' =>
    rw [←hes]
    have:Zib k=true∧ZjM P kt=true:=by
     unfold Zg2 at hfit
     rw [h3,hes] at hfit
     simpa using hfit
    obtain ⟨hk,hkt⟩:=this
    cases k with
    | string s =>
     rw [Zna hkt h3] at hp
     obtain rfl:=(by simpa using hp:_=r)
     have hp0:=Zna (k:=s) hkt (Zmx h2 h3)
     obtain ⟨r',h5,h6⟩:=ZjX kt (.string s) w h1 hp0
     refine ⟨es0,_,r',h1,h5,h6,?_,.inr ⟨h2,h3,h4,s,rfl,rfl,rfl⟩⟩
     have hpm:=Zk8 (k:=s) h2 h4
     revert hpm h6
     generalize Zc7 s es 0=a
     generalize Zc7 s es0 0=b
     intro h6 hpm
     unfold ZwA at h6
     unfold ZCF
     split at hpm
     · split at h6
       · trivial
       · simp_all
       · exact h6.elim
     · rename_i i v j u
       obtain ⟨rfl,_,_⟩:=hpm
       split at h6
       · simp_all
       · rename_i he
         injection he with he
         injection he with _ he
         subst he
         exact h6.2
       · exact h6.elim
     · exact hpm.elim
    | _=>simp [Zib] at hk
theorem MRel.length {β:Emb} {es:List (Value×Value)} {ces:List MapEntry} {clock:Nat} (h:MRel β es ces clock):ces.length=es.length:=by
 obtain ⟨⟨es0,h1,h2⟩,_,_⟩:=h
 rw [ERels.length h1]
 rcases h2 with rfl | ⟨h2,_⟩
 · rfl
 · exact h2.length_eq
theorem ZbI {α:Type}:∀ {l:List α} {i:Nat} {x:α},l[i]?=some x→(x::l.eraseIdx i).Perm l
 | [],i,x,h=>by simp at h
 | y::l,0,x,h=>by simp at h;subst h;exact List.Perm.refl _
 | y::l,i+1,x,h=>by
  simp only [List.getElem?_cons_succ] at h
  have:=ZbI h
  simp only [List.eraseIdx_cons_succ]
  exact (List.Perm.swap y x _).trans (this.cons y)
theorem Zvv {α:Type} {l l0:List α} (h:l0.Perm l) {i j:Nat} {x y:α} (hi:l[i]?=some x) (hj:l0[j]?=some x):(l0.set j y).Perm (l.set i y):=by
 obtain ⟨hi1,hi2⟩:=List.getElem?_eq_some_iff.1 hi
 obtain ⟨hj1,hj2⟩:=List.getElem?_eq_some_iff.1 hj
 have a1:(x::l.eraseIdx i).Perm l:=ZbI hi
 have a2:(x::l0.eraseIdx j).Perm l0:=ZbI hj
 have a3:(l0.eraseIdx j).Perm (l.eraseIdx i):=((a2.trans h).trans a1.symm).cons_inv
 have b1:(y::l.eraseIdx i).Perm (l.set i y):=by
  have:=ZbI (l:=l.set i y) (i:=i) (x:=y) (by simp [hi1])
  rwa [List.eraseIdx_set_eq] at this
 have b2:(y::l0.eraseIdx j).Perm (l0.set j y):=by
  have:=ZbI (l:=l0.set j y) (i:=j) (x:=y) (by simp [hj1])
  rwa [List.eraseIdx_set_eq] at this
 exact b2.symm.trans ((a3.cons y).trans b1)
def AHeap.entries (H:AHeap):Value→Option (List (Value×Value))
 | .map none=>some []
 | .map (some r)=>match H.get r with
  | some (.map es)=>some es
  | _=>none
 | _=>none
def AHeap.look (H:AHeap) (P:Program) (t:TypeId) (m k:Value):Option (Value×Bool) :=
 match P.underlying t with
 | some (.map kt et)=>match H.entries m with
  | some es=>if (Zab k&&Zg2 P kt k es)=true then
      match Zaf P (Instr.checkKey es.isEmpty 10000 kt k),Zaf P (Instr.findKey kt k (ZaI es)) with
      | some (),some (some (_,v))=>some (v,true)
      | some (),some none=>match P.info? et with
       | some i=>match i.zero with
        | some z=>if Zab z then some (z,false) else none
        | none=>none
       | none=>none
      | _,_=>none
   else none
  | none=>none
 | _=>none
def AHeap.mapPut (H:AHeap) (P:Program) (t:TypeId) (m k v:Value):Option AHeap :=
 match P.underlying t,m with
 | some (.map kt _),.map (some r)=>match H.get r with
  | some (.map es)=>if (Zab k&&Zg2 P kt k es)=true then
      match Zaf P (Instr.checkKey false 10000 kt k),Zaf P (Instr.findKey kt k (ZaI es)) with
      | some (),some (some (i,_))=>match es[i]? with
       | some (old,_)=>if Instr.sameBits 10000 old k then some (H.set r (.map (es.set i (k,v)))) else none
       | none=>none
      | some (),some none=>some (H.set r (.map (es++[(k,v)])))
      | _,_=>none
   else none
  | _=>none
 | _,_=>none
section
variable {P:Program} {N0:Fz} {β:Emb} {H:AHeap} {w:World}
theorem HRel.entries_run (h:HRel P N0 β H w) {m m':Value} {es:List (Value×Value)} (he:H.entries m=some es) (hm:VRel β m m') :
    (m'=.map none∧es=[])∨∃ b ces clock,m'=.map (some b)∧w.heap[b]?=some (.map ces clock)∧MRel β es ces.toList clock:=by
 unfold AHeap.entries at he
 split at he
 · simp at he;subst he;exact .inl ⟨VRel.eq_of_closed hm rfl,rfl⟩
 · rename_i r
   obtain ⟨b,rfl,hb⟩:=hm.inv_map
   split at he
   · rename_i es' hg
     simp at he;subst he
     obtain ⟨_,ces,clock,h1,h2⟩:=h.map _ _ _ hb hg
     exact .inr ⟨b,ces,clock,rfl,h1,h2⟩
   · simp at he
 · simp at he
theorem Zeb {b:Nat} {ces:Array MapEntry} {clock:Nat} (h:w.heap[b]?=some (.map ces clock)):(getObj b).run P w=.ok (.map ces clock) w:=by
 simp [getObj,Sem.run,h]
theorem HRel.look_run (h:HRel P N0 β H w) {t:TypeId} {m k m' k' v:Value} {b:Bool} (hl:H.look P t m k=some (v,b)) (hm:VRel β m m') (hk:VRel β k k') (ok:Bool) :
    ∃ v',(Instr.lookup t m' k' ok).run P w=.ok (if ok then .tuple #[v',.bool b] else v') w∧VRel β v v':=by
 unfold AHeap.look at hl
 split at hl
 case h_2=>simp at hl
 rename_i kt et hu
 split at hl
 case h_2=>simp at hl
 rename_i es hes
 split at hl
 case isFalse=>simp at hl
 rename_i hck
 rw [Bool.and_eq_true] at hck
 obtain ⟨hck,hfit⟩:=hck
 obtain rfl:=VRel.eq_of_closed hk hck
 have hex:∃ (ces:Array MapEntry) (clk:Nat),MRel β es ces.toList clk∧ces.isEmpty=es.isEmpty∧((m'=.map none∧ces = #[])∨∃ b clock,m'=.map (some b)∧w.heap[b]?=some (.map ces clock)):=by
  rcases h.entries_run hes hm with ⟨rfl,rfl⟩ | ⟨b,ces,clock,rfl,h1,h2⟩
  · exact ⟨#[],0,.nil,rfl,.inl ⟨rfl,rfl⟩⟩
  · refine ⟨ces,clock,h2,?_,.inr ⟨b,clock,rfl,h1⟩⟩
    have:=MRel.length h2
    cases es<;>simp_all [Array.isEmpty,Array.length_toList]
 obtain ⟨ces,clk,hE,hemp,hcase⟩:=hex
 have head:(∃ r',Zaf P (Instr.findKey kt k' (ZaI es))=some r'∧Zaf P (Instr.checkKey es.isEmpty 10000 kt k')=some ())→∃ r r',Zaf P (Instr.findKey kt k' (ZaI es))=some r ∧
     (Instr.findKey kt k' ces.toList).run P w=.ok r' w∧ZCF β r r'∧(Instr.checkKey ces.isEmpty 10000 kt k').run P w=.ok () w:=by
  rintro ⟨r,h1,h2⟩
  obtain ⟨_,_,r',_,h3,_,h4,_⟩:=ZjY kt k' w hE hfit h1
  exact ⟨r,r',h1,h3,h4,by rw [hemp];exact ZbQ h2 w⟩
 split at hl
 · rename_i i0 v0 hck1 hfk
   simp at hl
   obtain ⟨rfl,rfl⟩:=hl
   obtain ⟨r,r',hr,h1,h2,h3⟩:=head ⟨_,hfk,hck1⟩
   rw [hfk] at hr
   obtain rfl:=(by simpa using hr:_=r)
   cases r' with
   | none=>exact h2.elim
   | some p =>
    obtain ⟨j,v'⟩:=p
    refine ⟨v',?_,h2⟩
    rcases hcase with ⟨rfl,rfl⟩ | ⟨b,clock,rfl,hb⟩
    · unfold Instr.lookup
      simp only [Sem.run_bind,run_underlying hu,Result.andThen_ok,Sem.run_pure,h3,h1]
    · unfold Instr.lookup
      simp only [Sem.run_bind,run_underlying hu,Result.andThen_ok,Zeb hb,Sem.run_pure,h3,h1]
 · rename_i hck1 hfk
   split at hl
   case h_2=>simp at hl
   rename_i i hi
   split at hl
   case h_2=>simp at hl
   rename_i z hz
   split at hl
   case isFalse=>simp at hl
   rename_i hcz
   simp at hl
   obtain ⟨rfl,rfl⟩:=hl
   obtain ⟨r,r',hr,h1,h2,h3⟩:=head ⟨_,hfk,hck1⟩
   rw [hfk] at hr
   obtain rfl:=(by simpa using hr:_=r)
   cases r' with
   | some p=>exact h2.elim
   | none =>
    have hzr:(zeroValue et).run P w=.ok z w:=by simp [zeroValue,typeInfo,hi,hz]
    refine ⟨z,?_,.closed hcz⟩
    rcases hcase with ⟨rfl,rfl⟩ | ⟨b,clock,rfl,hb⟩
    · unfold Instr.lookup
      simp only [Sem.run_bind,run_underlying hu,Result.andThen_ok,Sem.run_pure,h3,h1,hzr]
    · unfold Instr.lookup
      simp only [Sem.run_bind,run_underlying hu,Result.andThen_ok,Zeb hb,Sem.run_pure,h3,h1,hzr]
 · simp at hl
theorem HRel.setMap (h:HRel P N0 β H w) {r b:Nat} {es:List (Value×Value)} {ces:Array MapEntry} {clock:Nat} (hb:β.map r=some b) (hE:MRel β es ces.toList clock) {es0:List (Value×Value)} (hg:H.get r=some (.map es0)) :
    let w':World:={ w with heap:=w.heap.setIfInBounds b (.map ces clock) }
    HRel P N0 β (H.set r (.map es)) w'∧Fr N0 w w':=by
 intro w'
 have hlt:=h.mapblk_lt hb
 obtain ⟨hN,_,_,hbm,_⟩:=h.map _ _ _ hb hg
 have hnew:w'.heap[b]?=some (.map ces clock):=by simp [w',hlt]
 have hold:∀ b',b'≠b→w'.heap[b']?=w.heap[b']?:=fun b' hb'=>by simp [w',Array.getElem?_setIfInBounds_ne (Ne.symm hb')]
 have hview:∀ j,j≠r→(H.set r (.map es)).view j=H.view j:=fun j hj=>by simp [AHeap.view,AHeap.set,hj]
 have hvr:(H.set r (.map es)).view r=none:=by simp [AHeap.view,AHeap.set,AObj.view]
 have hvr0:H.view r=none:=by unfold AHeap.view;rw [hg];rfl
 have hrb:∀ i k b' o',β.row i k=some (b',o')→b'≠b:=by
  intro i k b' o' h1 e
  subst e
  obtain ⟨rr,hrr⟩:=h.dom _ _ _ h1
  obtain ⟨c,fz,hok⟩:=h.row _ _ _ _ _ h1 hrr
  have:=hok.blk
  rw [hbm] at this;simp at this
 refine ⟨?_,⟨by simp [w'],fun b' hb'=>hold b' (fun e=>hN (e▸hb')),rfl,rfl⟩⟩
 constructor
 · intro i k b' o rr h1 h2
   have hi:i≠r:=by rintro rfl;rw [hvr] at h2;simp at h2
   rw [hview _ hi] at h2
   obtain ⟨c,fz,hok⟩:=h.row _ _ _ _ _ h1 h2
   exact ⟨c,fz,hok.mono (Emb.leU.refl _) (hold _ (hrb _ _ _ _ h1)) rfl rfl⟩
 · intro i b' es' h1 h2
   by_cases hi:i=r
   · subst hi
     rw [hb] at h1
     obtain rfl:b=b':=by simpa using h1
     obtain rfl:es=es':=by simpa [AHeap.set] using h2
     exact ⟨hN,_,_,hnew,hE⟩
   · have h2':H.get i=some (.map es'):=by simpa [AHeap.set,hi] using h2
     obtain ⟨a,ces',cl,c,d⟩:=h.map _ _ _ h1 h2'
     have hbb:b'≠b:=by intro e;subst e;exact hi (h.injM _ _ _ h1 hb)
     exact ⟨a,ces',cl,by rw [hold _ hbb];exact c,d⟩
 · intro i k p h1
   have hi:i≠r:=by
    rintro rfl
    obtain ⟨rr,hrr⟩:=h.dom _ _ _ h1
    rw [hvr0] at hrr;simp at hrr
   rw [hview _ hi];exact h.dom _ _ _ h1
 · intro i b' h1
   by_cases hi:i=r
   · subst hi;exact ⟨es,by simp [AHeap.set]⟩
   · obtain ⟨es',he⟩:=h.domM _ _ h1
     exact ⟨es',by simp [AHeap.set,hi,he]⟩
 · intro i hi
   have hlt':=h.lt_of_get hg
   have hi':H.next≤i:=hi
   have:i≠r:=by omega
   simp only [AHeap.set,if_neg this];exact h.fresh _ hi'
 · intro i rr h1 j
   have hi:i≠r:=by rintro rfl;rw [hvr] at h1;simp at h1
   rw [hview _ hi] at h1;exact h.stle _ _ h1 j
 · intro i k b1 o1 i' k' o1' r1 r2 h1 h2 h3 h4
   have hi:i≠r:=by rintro rfl;rw [hvr] at h3;simp at h3
   have hi':i'≠r:=by rintro rfl;rw [hvr] at h4;simp at h4
   rw [hview _ hi] at h3;rw [hview _ hi'] at h4
   exact h.inj _ _ _ _ _ _ _ _ _ h1 h2 h3 h4
 · exact h.injM
 · simpa [w'] using h.base
 · exact h.nx
 · exact h.liveR
 · exact h.liveM
 · exact h.live
 · intro i b' h1
   obtain ⟨q,q',h2,h3,h4,h5⟩:=h.lp _ _ h1
   have hi:i≠r:=by rintro rfl;rw [hg] at h2;simp at h2
   have hbb:b'≠b:=by rintro rfl;simp_all
   exact ⟨q,q',by simp [AHeap.set,hi,h2],h3,by rw [hold _ hbb];exact h4,h5⟩
 · exact h.injL
theorem ERels.get {es:List (Value×Value)} {ces:List MapEntry} (h:ERels β es ces):∀ {i:Nat} {k v:Value},es[i]?=some (k,v)→∃ e,ces[i]?=some e∧e.key=k∧VRel β v e.val:=by
 induction h with
 | nil=>intro i k v hi;simp at hi
 | cons hk he hv g ih =>
  intro i k' v' hi
  cases i with
  | zero=>simp at hi;obtain ⟨rfl,rfl⟩:=hi;exact ⟨_,by simp,he,hv⟩
  | succ i=>simpa using ih (by simpa using hi)
theorem ERels.modify {es:List (Value×Value)} {ces:List MapEntry} (h:ERels β es ces) {k v v':Value} (hk:Zab k=true) (hv:VRel β v v'):∀ (i:Nat),
    ERels β (es.set i (k,v)) (ces.modify i fun e=>{ e with key:=k,val:=v' }):=by
 induction h with
 | nil=>intro i;simp;exact .nil
 | cons hk' he hv' g ih =>
  intro i
  cases i with
  | zero=>simp;exact .cons hk rfl hv g
  | succ i=>simp;exact .cons hk' he hv' (ih i)
theorem ERels.push {es:List (Value×Value)} {ces:List MapEntry} (h:ERels β es ces) {k v v':Value} (hk:Zab k=true) (hv:VRel β v v') (n:Nat) :
    ERels β (es++[(k,v)]) (ces++[{ key:=k,val:=v',born:=n }]):=by
 induction h with
 | nil=>exact .cons hk rfl hv .nil
 | cons hk' he hv' g ih=>exact .cons hk' he hv' ih
theorem Zgz (f:MapEntry→MapEntry) (hf:∀ e,(f e).born=e.born):∀ (l:List MapEntry) (j:Nat),(l.modify j f).map (·.born)=l.map (·.born)
 | [],j=>by simp
 | e::l,0=>by simp [hf]
 | e::l,j+1=>by simp [Zgz f hf l j]
theorem MRel.set {es es0:List (Value×Value)} {ces:List MapEntry} {clock:Nat} (h:MRel β es ces clock) {f:MapEntry→MapEntry} (hf:∀ e,(f e).born=e.born) {j:Nat} {es' es0':List (Value×Value)} (hE:ERels β es0' (ces.modify j f))
    (h2:es0'=es'∨(es0'.Perm es'∧Zch es'=true∧(es'.map (·.1)).Nodup)):MRel β es' (ces.modify j f) clock:=by
 refine ⟨⟨es0',hE,h2⟩,by rw [Zgz f hf];exact h.nd,fun e he=>?_⟩
 have h3:e.born∈(ces.modify j f).map (·.born):=List.mem_map_of_mem (f:=(·.born)) he
 rw [Zgz f hf] at h3
 obtain ⟨e',h4,h5⟩:=List.mem_map.1 h3
 rw [←h5];exact h.lt _ h4
theorem MRel.more {es:List (Value×Value)} {ces:List MapEntry} {clock:Nat} (h:MRel β es ces clock) {k v v':Value} {es' es0':List (Value×Value)} (hE:ERels β es0' (ces++[{ key:=k,val:=v',born:=clock }]))
    (h2:es0'=es'∨(es0'.Perm es'∧Zch es'=true∧(es'.map (·.1)).Nodup)):MRel β es' (ces++[{ key:=k,val:=v',born:=clock }]) (clock+1):=by
 refine ⟨⟨es0',hE,h2⟩,?_,fun e he=>?_⟩
 · rw [List.map_append,List.nodup_append]
   refine ⟨h.nd,by simp,?_⟩
   intro a ha b hb
   simp at hb
   obtain ⟨e,he,rfl⟩:=List.mem_map.1 ha
   have:=h.lt e he
   show e.born≠b
   omega
 · rcases List.mem_append.1 he with he | he
   · exact Nat.lt_succ_of_lt (h.lt e he)
   · simp at he;subst he;exact Nat.lt_succ_self _
theorem HRel.mapPut_run2 (h:HRel P N0 β H w) {t:TypeId} {m k v m' k' v':Value} {H':AHeap} (hp:H.mapPut P t m k v=some H') (hm:VRel β m m') (hk:VRel β k k') (hv:VRel β v v') :
    ∃ w',(Instr.mapUpdate t m' k' v').run P w=.ok () w'∧HRel P N0 β H' w'∧Fr N0 w w'∧∀ r b,m=.map (some r)→β.map r=some b→∀ b',b'≠b→w'.heap[b']?=w.heap[b']?:=by
 unfold AHeap.mapPut at hp
 split at hp
 case h_2=>simp at hp
 rename_i kt et r hu
 split at hp
 case h_2=>simp at hp
 rename_i es hg
 split at hp
 case isFalse=>simp at hp
 rename_i hck
 rw [Bool.and_eq_true] at hck
 obtain ⟨hck,hfit⟩:=hck
 obtain rfl:=VRel.eq_of_closed hk hck
 obtain ⟨b,rfl,hb⟩:=hm.inv_map
 obtain ⟨_,ces,clock,hbm,hE⟩:=h.map _ _ _ hb hg
 split at hp
 · rename_i i v0 hck1 hfk
   obtain ⟨es0,r0,r',hE0,h1,h2,h3,h4⟩:=ZjY kt k' w hE hfit hfk
   cases r' with
   | none=>exact h3.elim
   | some p =>
    obtain ⟨j,u'⟩:=p
    split at hp
    case h_2=>simp at hp
    rename_i old u hes
    split at hp
    case isFalse=>simp at hp
    rename_i hsame
    simp at hp;subst hp
    have hmain:∃ e,ces.toList[j]?=some e∧e.key=old∧MRel β (es.set i (k',v)) (ces.toList.modify j fun e=>{ e with key:=k',val:=v' }) clock:=by
     rcases h4 with ⟨rfl,rfl⟩ | ⟨hpm,hs,hnd,s,rfl,hr,hr0⟩
     · obtain ⟨rfl,_⟩:=h2
       obtain ⟨e,he,hek,_⟩:=hE0.get hes
       exact ⟨e,he,hek,hE.set (es0:=es0) (f:=fun e=>{ e with key:=_,val:=v' }) (fun _=>rfl) (hE0.modify hck hv i) (.inl rfl)⟩
     · have h5:=Zk8 (k:=s) hpm hnd
       rw [←hr,←hr0] at h5
       cases r0 with
       | none=>exact h5.elim
       | some q =>
        obtain ⟨j0,u0⟩:=q
        obtain ⟨rfl,h6,h7⟩:=h5
        obtain ⟨rfl,_⟩:=h2
        rw [hes] at h6
        obtain ⟨rfl,rfl⟩:=(by simpa using h6:old=Value.string s∧u=v0)
        obtain ⟨e,he,hek,_⟩:=hE0.get h7
        have hkeys:(es.set i (.string s,v)).map (·.1)=es.map (·.1):=by
         rw [List.map_set]
         apply List.ext_getElem?
         intro n
         rw [List.getElem?_set]
         split
         · rename_i e;subst e
           obtain ⟨hi1,hi2⟩:=List.getElem?_eq_some_iff.1 hes
           rw [if_pos (by simpa using hi1)]
           simp [hes]
         · rfl
        refine ⟨e,he,hek,hE.set (es0:=es0) (f:=fun e=>{ e with key:=_,val:=v' }) (fun _=>rfl) (hE0.modify hck hv j0) (.inr ⟨Zvv hpm hes h7,?_,by rw [hkeys];exact hnd⟩)⟩
        unfold Zch at hs ⊢
        rw [List.all_eq_true] at hs ⊢
        intro p hp'
        rcases List.mem_or_eq_of_mem_set hp' with h8 | rfl
        · exact hs p h8
        · rfl
    obtain ⟨e,he,hek,hM⟩:=hmain
    rw [Array.getElem?_toList] at he
    obtain ⟨hr,hf⟩:=h.setMap hb (es:=es.set i (k',v)) (ces:=ces.modify j fun e=>{ e with key:=k',val:=v' }) (clock:=clock)
     (by rw [Array.toList_modify];exact hM) hg
    refine ⟨_,?_,hr,hf,fun r2 b2 e1 e2 b' hb'=>by
     injection e1 with e1
     injection e1 with e1
     subst e1
     rw [hb] at e2
     obtain rfl:=(by simpa using e2:b=b2)
     simp [Array.getElem?_setIfInBounds_ne (Ne.symm hb')]⟩
    have hkeep:(Instr.keyThatStays (((ces[j]?).map (·.key)).getD k') k').run P w=.ok k' w:=by
     simp [Instr.keyThatStays,he,hek,hsame]
    unfold Instr.mapUpdate
    simp only [Sem.run_bind,run_underlying hu,Result.andThen_ok,Zeb hbm,ZbQ hck1,h1,hkeep]
    simp [setObj,Sem.run,hbm]
 · rename_i hck1 hfk
   simp at hp;subst hp
   obtain ⟨es0,r0,r',hE0,h1,h2,h3,h4⟩:=ZjY kt k' w hE hfit hfk
   cases r' with
   | some p=>exact h3.elim
   | none =>
    have hM:MRel β (es++[(k',v)]) (ces.toList++[{ key:=k',val:=v',born:=clock }]) (clock+1):=by
     refine hE.more (v:=v) (hE0.push hck hv clock) ?_
     rcases h4 with ⟨rfl,_⟩ | ⟨hpm,hs,hnd,s,rfl,hr,_⟩
     · exact .inl rfl
     · refine .inr ⟨hpm.append_right _,?_,?_⟩
       · unfold Zch at hs ⊢
         rw [List.all_append,hs];rfl
       · rw [List.map_append,List.nodup_append]
         refine ⟨hnd,by simp,?_⟩
         intro a ha b hb
         simp at hb
         obtain ⟨p,hp',rfl⟩:=List.mem_map.1 ha
         subst hb
         exact ZfS hr.symm p hp'
    obtain ⟨hr,hf⟩:=h.setMap hb (es:=es++[(k',v)]) (ces:=ces.push { key:=k',val:=v',born:=clock }) (clock:=clock+1)
     (by rw [Array.toList_push];exact hM) hg
    refine ⟨_,?_,hr,hf,fun r2 b2 e1 e2 b' hb'=>by
     injection e1 with e1
     injection e1 with e1
     subst e1
     rw [hb] at e2
     obtain rfl:=(by simpa using e2:b=b2)
     simp [Array.getElem?_setIfInBounds_ne (Ne.symm hb')]⟩
    unfold Instr.mapUpdate
    simp only [Sem.run_bind,run_underlying hu,Result.andThen_ok,Zeb hbm,ZbQ hck1,h1]
    simp [setObj,Sem.run,hbm]
 · simp at hp
theorem HRel.mapPut_run (h:HRel P N0 β H w) {t:TypeId} {m k v m' k' v':Value} {H':AHeap} (hp:H.mapPut P t m k v=some H') (hm:VRel β m m') (hk:VRel β k k') (hv:VRel β v v') :
    ∃ w',(Instr.mapUpdate t m' k' v').run P w=.ok () w'∧HRel P N0 β H' w'∧Fr N0 w w':=by
 obtain ⟨w',h1,h2,h3,_⟩:=h.mapPut_run2 hp hm hk hv
 exact ⟨w',h1,h2,h3⟩
end
end
section
open Go
def ZdA (P:Program) (t:TypeId):Bool:=match P.underlying t with
 | some (.slice _)=>true
 | _=>false
def Zua (P:Program) (t:TypeId):Bool:=match P.underlying t with
 | some (.map _ _)=>true
 | _=>false
def Zd7 (P:Program) (H:AHeap) (t:TypeId):Value→Option Int
 | .slice none n _=>if ZdA P t then some n else none
 | .slice (some _) n _=>if ZdA P t then some n else none
 | .map m=>if Zua P t then match H.entries (.map m) with
     | some es=>some es.length
     | none=>none
  else none
 | _=>none
def Func.enters (fn:Func):Bool:=fn.body.isSome&&!(fn.name == "runtime.NumGoroutine")
def ZC0 (P:Program) (g:FuncId) (args:List Value):Option Value :=
 if args.all Zab then match Zaf P (callFunc g args.toArray) with
  | some (.value v)=>if Zab v then some v else none
  | _=>none
 else none
def Zo9 (P:Program) (H:AHeap) (g:FuncId) (args:List Value):Option ARes:=match P.funcs[g]? with
 | some fn=>if Func.enters fn then some (.enter g args H) else match ZC0 P g args with
  | some v=>some (.val v H)
  | none=>none
 | none=>none
def ZoE (P:Program) (H:AHeap) (t t':TypeId) (s x:Value):Option (Value×AHeap):=match s,x with
 | .slice none 0 0,.int .i64 (.ofNat (n+1))=>match P.underlying t,P.underlying t' with
  | some (.slice e),some (.int _)=>match P.info? e with
   | some i=>match i.zero with
    | some z=>match z.cells.toList with
     | [v]=>if Zab v&&Zba v&&Nat.beq i.size 1&&Nat.ble (n+1) 9223372036854775807&&Nat.ble ((n+1)*i.bytes) Zbx then
         some (.slice (some ⟨H.next,0,some 0⟩) (n+1) (n+1),H.push (.arr (List.replicate (n+1) v) (List.replicate (n+1) 0) 0 e false)) else none
     | _=>none
    | none=>none
   | none=>none
  | _,_=>none
 | _,_=>none
theorem Zli (v:Value) (n:Nat):Builtin.zeroCells #[v] n=(List.replicate n v).toArray:=by
 unfold Builtin.zeroCells
 apply Array.ext'
 simp [Nat.mod_one,List.map_const']
theorem HRel.make_run {P:Program} {N0:Fz} {β:Emb} {H:AHeap} {w:World} (h:HRel P N0 β H w) (t t' ty:TypeId) {s s' x x' v:Value} {H':AHeap} (hs:VRel β s s') (hx:VRel β x x') (ha:ZoE P H t t' s x=some (v,H')) :
    ∃ γ v' w',(Builtin.append_ #[t,t'] ty #[s',x']).run P w=.ok v' w'∧Emb.le β γ∧HRel P N0 γ H' w'∧VRel γ v v'∧Fr N0 w w':=by
 unfold ZoE at ha
 split at ha
 case h_2=>cases ha
 rename_i n
 split at ha
 case h_2=>cases ha
 rename_i e kn hu hu'
 split at ha
 case h_2=>cases ha
 rename_i i hi
 split at ha
 case h_2=>cases ha
 rename_i z hz
 split at ha
 case h_2=>cases ha
 rename_i u hzu
 split at ha
 case isFalse=>cases ha
 rename_i hc
 simp only [Bool.and_eq_true] at hc
 obtain ⟨⟨⟨⟨c1,c2⟩,c3⟩,c4⟩,c5⟩:=hc
 have c3':i.size=1:=Nat.eq_of_beq_eq_true c3
 have c4':=Nat.le_of_ble_eq_true c4
 have c5':=Nat.le_of_ble_eq_true c5
 unfold Zbx at c5'
 simp only [Option.some.injEq,Prod.mk.injEq] at ha
 obtain ⟨rfl,rfl⟩:=ha
 obtain rfl:s'=.slice none 0 0:=VRel.eq_of_closed hs rfl
 obtain rfl:x'=.int .i64 (.ofNat (n+1)):=VRel.eq_of_closed hx rfl
 have hz1:z.cells = #[u]:=by cases hcz:z.cells;rw [hcz] at hzu;simp at hzu;rw [hzu]
 have hr:=Go.Lib.run_append_nil_zeros (P:=P) w t t' ty e i z .i64 kn hu hu' hi hz (n+1) (by omega) (by omega) (by omega) (by omega)
 have hge:=grownCap_ge w (n+1) 0 e
 rw [hz1] at hr
 obtain ⟨le,hrel,hfr,hrow,hbs,hbe⟩:=h.pushRow (o:=.arr (List.replicate (n+1) u) (List.replicate (n+1) 0) 0 e false) (r:=⟨List.replicate (n+1) u,fun j=>(List.replicate (n+1) 0).getD j 0,0,e,false⟩) rfl rfl
  (fun j=>Zbt _ _ _) rfl (c:=Builtin.zeroCells #[u] (n+1)++Builtin.zeroCells #[u] (grownCap w (n+1) 0 e-(n+1))) hi
  (fun j y hj=>by
   have hjl:=(List.getElem?_eq_some_iff.1 hj).1
   have hy:y=u:=by
    have:=List.mem_of_getElem? hj
    exact List.eq_of_mem_replicate this
   subst hy
   refine ⟨y,?_,.closed c1⟩
   rw [Zli,Array.getElem?_append_left (by simpa using hjl),List.getElem?_toArray]
   exact hj)
  (w.drew.alloc (.cells (Builtin.zeroCells #[u] (n+1)++Builtin.zeroCells #[u] (grownCap w (n+1) 0 e-(n+1))) e)) ⟨rfl,rfl,rfl⟩
 refine ⟨_,_,_,hr,le,hrel,?_,hfr⟩
 refine .slice ⟨w.heap.size,0,by simpa [ZnV] using hrow,by simp⟩ (Nat.le_refl _) hge fun _=>?_
 rw [hbs,hbe]
 simp only [Array.size_append,size_zeroCells,List.size_toArray,List.length_cons,List.length_nil,Nat.zero_add,Nat.mul_one,c3']
 omega
def Zbm (P:Program) (H:AHeap) (ρ:Operand→Value) (o:Oper) (c:Call):Option ARes :=
 match c.callee with
 | .builtin .len=>match c.args.toList,c.argTypes.toList with
  | [x],[t]=>match Zd7 P H t (ρ x) with
   | some n=>some (.val (.int .i64 n) H)
   | none=>match Zaz P ρ o with
    | some v=>some (.val v H)
    | none=>none
  | _,_=>none
 | .builtin .append=>match c.args.toList,c.argTypes.toList with
  | [s,x],[t,t']=>if t=t' then match P.underlying t with
      | some (.slice e)=>match P.info? e with
       | some i=>match H.append i e (ρ s) (ρ x) with
        | some (v,H')=>some (.val v H')
        | none=>none
       | none=>none
      | _=>none
   else match ZoE P H t t' (ρ s) (ρ x) with
    | some (v,H')=>some (.val v H')
    | none=>none
  | _,_=>none
 | .builtin .cap=>match Zaz P ρ o with
  | some v=>some (.val v H)
  | none=>none
 | .builtin .min=>match Zaz P ρ o with
  | some v=>some (.val v H)
  | none=>none
 | .builtin .max=>match Zaz P ρ o with
  | some v=>some (.val v H)
  | none=>none
 | .value f=>match ρ f with
  | .func (.func g) first captured=>Zo9 P H g (first.toList++c.args.toList.map ρ++captured.toList)
  | .func (.yield K) first captured=>if first.isEmpty&&captured.isEmpty then match H.get K with
      | some (.loop r)=>if c.args.size=r.params.size then some (.enter (P.funcs.size+K) (c.args.toList.map ρ) H) else none
      | _=>none
   else none
  | _=>none
 | _=>none
def Zao (P:Program) (H:AHeap) (ρ:Operand→Value) (o:Oper):Option ARes :=
 match o.op with
 | .call c=>if o.op.operands.all Zaa then Zbm P H ρ o c else none
 | .lookup t m k ok=>if o.op.operands.all Zaa then match H.look P t (ρ m) (ρ k) with
     | some (v,b)=>some (.val (if ok then .tuple #[v,.bool b] else v) H)
     | none=>none
  else none
 | .mapUpdate t m k v=>if o.op.operands.all Zaa then match H.mapPut P t (ρ m) (ρ k) (ρ v) with
     | some H'=>some (.skip H')
     | none=>none
  else none
 | .insert t m k v=>if o.op.operands.all Zaa then match H.mapPut P t (ρ m) (ρ k) (ρ v) with
     | some H'=>some (.skip H')
     | none=>none
  else none
 | _=>ZaG P H ρ o
section
variable {P:Program} {N0:Fz} {β:Emb} {H:AHeap} {w:World} {ρ ρ':Operand→Value} {o:Oper}
theorem ZjO {t:TypeId} (h:ZdA P t=true):∃ e,P.underlying t=some (.slice e):=by
 unfold ZdA at h;split at h
 · rename_i e hu;exact ⟨e,hu⟩
 · simp at h
theorem Zt9 {t:TypeId} (h:Zua P t=true):∃ k e,P.underlying t=some (.map k e):=by
 unfold Zua at h;split at h
 · rename_i k e hu;exact ⟨k,e,hu⟩
 · simp at h
theorem ZtX (h:HRel P N0 β H w) {t:TypeId} {x x':Value} {n:Int} (hl:Zd7 P H t x=some n) (hx:VRel β x x') (ty:TypeId) :
    (Builtin.len_ #[t] ty #[x']).run P w=.ok (.int .i64 n) w:=by
 unfold Zd7 at hl
 split at hl
 · split at hl
   · rename_i n' c hs
     obtain ⟨e,hu⟩:=ZjO hs
     simp at hl;subst hl
     cases hx
     simp [Builtin.len_,run_underlying hu,goInt]
   · simp at hl
 · split at hl
   · rename_i a n' c hs
     obtain ⟨e,hu⟩:=ZjO hs
     simp at hl;subst hl
     obtain ⟨d,c',rfl,_⟩:=hx.inv_slice
     simp [Builtin.len_,run_underlying hu,goInt]
   · simp at hl
 · rename_i m
   split at hl
   · rename_i hm
     obtain ⟨k,e,hu⟩:=Zt9 hm
     split at hl
     · rename_i es hes
       simp at hl;subst hl
       rcases h.entries_run hes hx with ⟨rfl,rfl⟩ | ⟨b,ces,clock,rfl,h1,h2⟩
       · simp [Builtin.len_,run_underlying hu,goInt]
       · have:=MRel.length h2
         simp only [Array.length_toList] at this
         simp [Builtin.len_,run_underlying hu,goInt,Zeb h1,this]
     · simp at hl
   · simp at hl
 · simp at hl
theorem Array.two_of_toList {α:Type} {l:Array α} {x y:α} (h:l.toList=[x,y]):l = #[x,y]:=by
 apply Array.toList_inj.1;simpa using h
theorem Array.one_of_toList {α:Type} {l:Array α} {x:α} (h:l.toList=[x]):l = #[x]:=by
 apply Array.toList_inj.1;simpa using h
theorem Zfu {g:FuncId} {fn:Func} (hf:P.funcs[g]?=some fn) (he:Func.enters fn=true) (args:Array Value) (w:World):(callFunc g args).run P w=.ok (.enter g args) w:=by
 unfold Func.enters at he
 simp only [Bool.and_eq_true,Bool.not_eq_true',beq_eq_false_iff_ne] at he
 obtain ⟨hb,hn⟩:=he
 have hb':fn.body≠none:=by cases h:fn.body<;>simp_all
 unfold callFunc
 simp [hf,hn,hb']
theorem VRels.eq_closed {β:Emb}:∀ {l m:List Value},VRels β l m→l.all Zab=true→m=l
 | _,_,.nil,_=>rfl
 | _,_,.cons h g,hc=>by
  rw [List.all_cons,Bool.and_eq_true] at hc
  rw [VRel.eq_of_closed h hc.1,VRels.eq_closed g hc.2]
theorem Zns (h:HRel P N0 β H w) (hρ:∀ x,Zaa x=true→VRel β (ρ x) (ρ' x)) {c:Call} (ho:o.op=.call c) (hok:o.op.operands.all Zaa=true) {r:ARes} (e:Zbm P H ρ o c=some r) :
    ResRel P N0 β w r ((execOp ρ' o).run P w):=by
 have hop:∀ x∈o.op.operands,VRel β (ρ x) (ρ' x):=fun x hx=>hρ x (Zbu hok hx)
 have hx:∀ ρ'',execOp ρ'' o=(do let d ← resolve ρ'' c o.type;invoke d.target d.args):=by intro ρ'';unfold execOp;rw [ho]
 have harg:∀ x∈c.args,x∈o.op.operands:=by
  intro x hx';rw [ho];simp only [Op.operands,Call.operands,Array.mem_append];exact .inr hx'
 have hcongr:∀ b,c.callee=.builtin b→(∀ x∈o.op.operands,ρ' x=ρ x)→execOp ρ' o=execOp ρ o:=by
  intro b hb hh
  rw [hx,hx]
  have:c.args.map ρ'=c.args.map ρ:=Array.map_congr_left fun x hx'=>hh x (harg x hx')
  simp only [resolve,hb,this]
 unfold Zbm at e
 split at e
 ·
  rename_i hc
  split at e
  case h_2=>simp at e
  rename_i x t ha ht
  have ha':=Array.one_of_toList ha
  have ht':=Array.one_of_toList ht
  split at e
  · rename_i n hl
    simp at e;subst e
    have:=ZtX h hl (hop x (harg x (by rw [ha'];simp))) o.type
    rw [hx]
    simp only [resolve,hc,ha',ht',invoke,builtin,Sem.run_bind,Sem.run_pure,Result.andThen_ok,List.map_toArray,List.map_cons,List.map_nil,this]
    exact ResRel.same h (.closed rfl)
  · split at e
    · rename_i v hcr
      simp at e;subst e
      exact Zce h hρ hok hcr (hcongr _ hc)
    · simp at e
 ·
  rename_i hc
  split at e
  case h_2=>simp at e
  rename_i s x t t' ha ht
  have ha':=Array.two_of_toList ha
  have ht':=Array.two_of_toList ht
  split at e
  case isFalse =>
   split at e
   case h_2=>simp at e
   rename_i v H' happ
   simp at e;subst e
   obtain ⟨γ,v',w',h1,h2,h3,h4,h5⟩:=h.make_run t t' o.type (hop s (harg s (by rw [ha'];simp))) (hop x (harg x (by rw [ha'];simp))) happ
   rw [hx]
   simp only [resolve,hc,ha',ht',invoke,builtin,Sem.run_bind,Sem.run_pure,Result.andThen_ok,List.map_toArray,List.map_cons,List.map_nil,h1]
   exact ⟨γ,h2,h3,h4,h5⟩
  rename_i htt
  subst htt
  split at e
  case h_2=>simp at e
  rename_i el hu
  split at e
  case h_2=>simp at e
  rename_i i hi
  split at e
  case h_2=>simp at e
  rename_i v H' happ
  simp at e;subst e
  obtain ⟨γ,v',w',h1,h2,h3,h4,h5⟩:=h.append_run t o.type el i hu hi (hop s (harg s (by rw [ha'];simp))) (hop x (harg x (by rw [ha'];simp))) happ
  rw [hx]
  simp only [resolve,hc,ha',ht',invoke,builtin,Sem.run_bind,Sem.run_pure,Result.andThen_ok,List.map_toArray,List.map_cons,List.map_nil,h1]
  exact ⟨γ,h2,h3,h4,h5⟩
 · rename_i hc
   split at e
   · rename_i v hcr
     simp at e;subst e
     exact Zce h hρ hok hcr (hcongr _ hc)
   · simp at e
 · rename_i hc
   split at e
   · rename_i v hcr
     simp at e;subst e
     exact Zce h hρ hok hcr (hcongr _ hc)
   · simp at e
 · rename_i hc
   split at e
   · rename_i v hcr
     simp at e;subst e
     exact Zce h hρ hok hcr (hcongr _ hc)
   · simp at e
 ·
  rename_i f hc
  split at e
  case h_3=>simp at e
  case h_2 =>
   rename_i K first captured hf
   split at e
   case isFalse=>simp at e
   rename_i hem
   simp only [Bool.and_eq_true,Array.isEmpty_iff] at hem
   obtain ⟨rfl,rfl⟩:=hem
   split at e
   case h_2=>simp at e
   rename_i r hr
   split at e
   case isFalse=>simp at e
   rename_i hsz
   simp at e;subst e
   have hfo:f∈o.op.operands:=by rw [ho];simp [Op.operands,Call.operands,hc]
   have hv:=hop f hfo
   rw [hf] at hv
   obtain ⟨l,hl,hf'⟩:∃ l,β.loop K=some l∧ρ' f=.func (.yield l) #[] #[]:=by
    generalize ρ' f=q at hv
    cases hv with
    | closed hcl=>simp [Zab] at hcl
    | yield hl=>exact ⟨_,hl,rfl⟩
   obtain ⟨q,q',h1,h2,h3,h4⟩:=h.lp _ _ hl
   rw [hr] at h1
   obtain rfl:r=q:=by simpa using h1
   have hargs:VRels β (c.args.toList.map ρ) (c.args.toList.map ρ'):=VRels.mapOps hρ _ (by
    rw [List.all_eq_true];intro x hx';exact Zbu hok (harg x (by simpa using hx')))
   have hsz':(c.args.map ρ').size=q'.params.size:=by rw [h4.params,Array.size_map];exact hsz
   rw [hx]
   simp only [resolve,hc,hf',Deferred.ofValue,invoke,Sem.run_bind,Sem.run_pure,Result.andThen_ok,Array.empty_append,run_yield h3 hsz']
   exact ⟨β,Emb.le.refl _,h,.round rfl hl h3 hsz' (by simpa using hargs),Fr.refl _ _⟩
  rename_i g first captured hf
  unfold Zo9 at e
  split at e
  case h_2=>simp at e
  rename_i fn hfn
  have hfo:f∈o.op.operands:=by rw [ho];simp [Op.operands,Call.operands,hc]
  have hv:=hop f hfo
  rw [hf] at hv
  obtain ⟨first',captured',hf',h1,h2⟩:=hv.inv_func
  have hargs:VRels β (c.args.toList.map ρ) (c.args.toList.map ρ'):=VRels.mapOps hρ _ (by
   rw [List.all_eq_true];intro x hx';exact Zbu hok (harg x (by simpa using hx')))
  rw [hx]
  have hall:=VRels.append (VRels.append h1 hargs) h2
  split at e
  · rename_i hen
    simp at e;subst e
    simp only [resolve,hc,hf',Deferred.ofValue,invoke,Sem.run_bind,Sem.run_pure,Result.andThen_ok,Zfu hfn hen]
    refine ⟨β,Emb.le.refl _,h,.fn hfn ?_,Fr.refl _ _⟩
    simpa [List.append_assoc] using hall
  · split at e
    case h_2=>simp at e
    rename_i v hv
    simp at e;subst e
    unfold ZC0 at hv
    split at hv
    case isFalse=>simp at hv
    rename_i hcl
    split at hv
    case h_2=>simp at hv
    rename_i u hu
    split at hv
    case isFalse=>simp at hv
    rename_i hcv
    simp at hv;subst hv
    have heq:(first'++c.args.map ρ'++captured').toList=first.toList++c.args.toList.map ρ++captured.toList:=by
     have:=VRels.eq_closed hall hcl
     simpa [List.append_assoc] using this
    have harr:first'++c.args.map ρ'++captured'=(first.toList++c.args.toList.map ρ++captured.toList).toArray:=by rw [←heq]
    simp only [resolve,hc,hf',Deferred.ofValue,invoke,Sem.run_bind,Sem.run_pure,Result.andThen_ok]
    rw [harr,ZbQ hu]
    exact ResRel.same h (.closed hcv)
 · simp at e
theorem Zbe (h:HRel P N0 β H w) (hρ:∀ x,Zaa x=true→VRel β (ρ x) (ρ' x)) {r:ARes} (e:Zao P H ρ o=some r):ResRel P N0 β w r ((execOp ρ' o).run P w):=by
 unfold Zao at e
 split at e
 · rename_i c ho
   split at e
   · rename_i hok;exact Zns h hρ ho hok e
   · simp at e
 · rename_i t m k ok ho
   split at e
   · rename_i hok
     have hop:∀ x∈o.op.operands,VRel β (ρ x) (ρ' x):=fun x hx=>hρ x (Zbu hok hx)
     have hx:execOp ρ' o=(do pure (.value (← Instr.lookup t (ρ' m) (ρ' k) ok))):=by unfold execOp;rw [ho]
     split at e
     · rename_i v b hl
       simp at e;subst e
       obtain ⟨v',h1,h2⟩:=h.look_run hl (hop m (by rw [ho];simp [Op.operands])) (hop k (by rw [ho];simp [Op.operands])) ok
       rw [hx]
       simp only [Sem.run_bind,h1,Result.andThen_ok]
       refine ResRel.same h ?_
       cases ok
       · simpa using h2
       · simp only [if_true];exact .tuple (.cons h2 (.cons (.closed rfl) .nil))
     · simp at e
   · simp at e
 · rename_i t m k v ho
   split at e
   · rename_i hok
     have hop:∀ x∈o.op.operands,VRel β (ρ x) (ρ' x):=fun x hx=>hρ x (Zbu hok hx)
     have hx:execOp ρ' o=(do Instr.mapUpdate t (ρ' m) (ρ' k) (ρ' v);pure .skip):=by unfold execOp;rw [ho]
     split at e
     · rename_i H' hl
       simp at e;subst e
       obtain ⟨w',h1,h2,h3⟩:=h.mapPut_run hl (hop m (by rw [ho];simp [Op.operands])) (hop k (by rw [ho];simp [Op.operands])) (hop v (by rw [ho];simp [Op.operands]))
       rw [hx]
       simp only [Sem.run_bind,h1,Result.andThen_ok]
       exact ⟨β,Emb.le.refl _,h2,h3⟩
     · simp at e
   · simp at e
 · rename_i t m k v ho
   split at e
   · rename_i hok
     have hop:∀ x∈o.op.operands,VRel β (ρ x) (ρ' x):=fun x hx=>hρ x (Zbu hok hx)
     have hx:execOp ρ' o=(do Instr.mapUpdate t (ρ' m) (ρ' k) (ρ' v);pure .skip):=by unfold execOp;rw [ho]
     split at e
     · rename_i H' hl
       simp at e;subst e
       obtain ⟨w',h1,h2,h3⟩:=h.mapPut_run hl (hop m (by rw [ho];simp [Op.operands])) (hop k (by rw [ho];simp [Op.operands])) (hop v (by rw [ho];simp [Op.operands]))
       rw [hx]
       simp only [Sem.run_bind,h1,Result.andThen_ok]
       exact ⟨β,Emb.le.refl _,h2,h3⟩
     · simp at e
   · simp at e
 · exact Zro h hρ e
end
end
end B
end Go.Proofs.YtmocfnfnhgognaaGreat
