/-
  Joined by program out of B50, B51, G1, G2, G3, G4, H1, H1a, H2, H2a, H3, G5.
-/
import Derived.Test.YtmocfnfnhgognaaGreatM4
namespace Go.Proofs.YtmocfnfnhgognaaGreat
namespace B
section
open Go
def ZzN:CallT:=fun _ _ _=>none
structure Nw (α:Type) where
 a0:α
 a1:α
 a2:α
 a3:α
 a4:α
 a5:α
 a6:α
 a7:α
 a8:α
 a9:α
 a10:α
 a11:α
 a12:α
 a13:α
 a14:α
 a15:α
noncomputable def Nw.fill {α:Type} (x:α):Nw α:=⟨x,x,x,x,x,x,x,x,x,x,x,x,x,x,x,x⟩
noncomputable def Nw.get {α:Type} (d:α) (t:Nw α) (i:Nat):α:=bif Nat.beq i 0 then t.a0 else bif Nat.beq i 1 then t.a1 else bif Nat.beq i 2 then t.a2 else bif Nat.beq i 3 then t.a3 else bif Nat.beq i 4 then t.a4 else bif Nat.beq i 5 then t.a5 else bif Nat.beq i 6 then t.a6 else bif Nat.beq i 7 then t.a7 else bif Nat.beq i 8 then t.a8 else bif Nat.beq i 9 then t.a9 else bif Nat.beq i 10 then t.a10 else bif Nat.beq i 11 then t.a11 else bif Nat.beq i 12 then t.a12 else bif Nat.beq i 13 then t.a13 else bif Nat.beq i 14 then t.a14 else bif Nat.beq i 15 then t.a15 else d
noncomputable def Nw.upd {α:Type} (t:Nw α) (i:Nat) (f:α→α):Nw α:=bif Nat.beq i 0 then ⟨f t.a0,t.a1,t.a2,t.a3,t.a4,t.a5,t.a6,t.a7,t.a8,t.a9,t.a10,t.a11,t.a12,t.a13,t.a14,t.a15⟩ else bif Nat.beq i 1 then ⟨t.a0,f t.a1,t.a2,t.a3,t.a4,t.a5,t.a6,t.a7,t.a8,t.a9,t.a10,t.a11,t.a12,t.a13,t.a14,t.a15⟩ else bif Nat.beq i 2 then ⟨t.a0,t.a1,f t.a2,t.a3,t.a4,t.a5,t.a6,t.a7,t.a8,t.a9,t.a10,t.a11,t.a12,t.a13,t.a14,t.a15⟩ else bif Nat.beq i 3 then ⟨t.a0,t.a1,t.a2,f t.a3,t.a4,t.a5,t.a6,t.a7,t.a8,t.a9,t.a10,t.a11,t.a12,t.a13,t.a14,t.a15⟩ else bif Nat.beq i 4 then ⟨t.a0,t.a1,t.a2,t.a3,f t.a4,t.a5,t.a6,t.a7,t.a8,t.a9,t.a10,t.a11,t.a12,t.a13,t.a14,t.a15⟩ else bif Nat.beq i 5 then ⟨t.a0,t.a1,t.a2,t.a3,t.a4,f t.a5,t.a6,t.a7,t.a8,t.a9,t.a10,t.a11,t.a12,t.a13,t.a14,t.a15⟩ else bif Nat.beq i 6 then ⟨t.a0,t.a1,t.a2,t.a3,t.a4,t.a5,f t.a6,t.a7,t.a8,t.a9,t.a10,t.a11,t.a12,t.a13,t.a14,t.a15⟩ else bif Nat.beq i 7 then ⟨t.a0,t.a1,t.a2,t.a3,t.a4,t.a5,t.a6,f t.a7,t.a8,t.a9,t.a10,t.a11,t.a12,t.a13,t.a14,t.a15⟩ else bif Nat.beq i 8 then ⟨t.a0,t.a1,t.a2,t.a3,t.a4,t.a5,t.a6,t.a7,f t.a8,t.a9,t.a10,t.a11,t.a12,t.a13,t.a14,t.a15⟩ else bif Nat.beq i 9 then ⟨t.a0,t.a1,t.a2,t.a3,t.a4,t.a5,t.a6,t.a7,t.a8,f t.a9,t.a10,t.a11,t.a12,t.a13,t.a14,t.a15⟩ else bif Nat.beq i 10 then ⟨t.a0,t.a1,t.a2,t.a3,t.a4,t.a5,t.a6,t.a7,t.a8,t.a9,f t.a10,t.a11,t.a12,t.a13,t.a14,t.a15⟩ else bif Nat.beq i 11 then ⟨t.a0,t.a1,t.a2,t.a3,t.a4,t.a5,t.a6,t.a7,t.a8,t.a9,t.a10,f t.a11,t.a12,t.a13,t.a14,t.a15⟩ else bif Nat.beq i 12 then ⟨t.a0,t.a1,t.a2,t.a3,t.a4,t.a5,t.a6,t.a7,t.a8,t.a9,t.a10,t.a11,f t.a12,t.a13,t.a14,t.a15⟩ else bif Nat.beq i 13 then ⟨t.a0,t.a1,t.a2,t.a3,t.a4,t.a5,t.a6,t.a7,t.a8,t.a9,t.a10,t.a11,t.a12,f t.a13,t.a14,t.a15⟩ else bif Nat.beq i 14 then ⟨t.a0,t.a1,t.a2,t.a3,t.a4,t.a5,t.a6,t.a7,t.a8,t.a9,t.a10,t.a11,t.a12,t.a13,f t.a14,t.a15⟩ else bif Nat.beq i 15 then ⟨t.a0,t.a1,t.a2,t.a3,t.a4,t.a5,t.a6,t.a7,t.a8,t.a9,t.a10,t.a11,t.a12,t.a13,t.a14,f t.a15⟩ else t
theorem Nw.get_fill {α:Type} (x:α) (i:Nat):(Nw.fill x).get x i=x:=by
 unfold Nw.fill Nw.get
 simp only [Bool.cond_self]
theorem Nw.get_upd {α:Type} (d:α) (t:Nw α) (i j:Nat) (f:α→α) (hi:i<16):(t.upd i f).get d j=if j=i then f (t.get d i) else t.get d j:=by
 have key:∀ k,k<16→((t.upd k f).get d k=f (t.get d k))∧∀ j,Nat.beq j k=false→(t.upd k f).get d j=t.get d j:=by
  intro k hk
  have hc:k=0∨k=1∨k=2∨k=3∨k=4∨k=5∨k=6∨k=7∨k=8∨k=9∨k=10∨k=11∨k=12∨k=13∨k=14∨k=15:=by omega
  rcases hc with rfl | rfl | rfl | rfl | rfl | rfl | rfl | rfl | rfl | rfl | rfl | rfl | rfl | rfl | rfl | rfl
  all_goals (refine ⟨rfl,fun j hj=>?_⟩;unfold Nw.get Nw.upd;simp only [hj,cond_false,cond_true,Nat.beq])
 by_cases h:j=i
 · subst h;rw [if_pos rfl];exact (key j hi).1
 · rw [if_neg h];exact (key i hi).2 j (Zez h)
abbrev VT:Type:=Nw (Nw Value)
noncomputable def VT.nil:VT:=Nw.fill (Nw.fill undef)
noncomputable def VT.get (t:VT) (n:Nat):Value:=Nw.get undef (Nw.get (Nw.fill undef) t (n / 16)) (n % 16)
noncomputable def VT.put (x:Value) (_d:Nat) (t:VT) (n:Nat):VT:=Nw.upd t (n / 16) fun s=>Nw.upd s (n % 16) fun _=>x
theorem VT.get_nil (n:Nat):VT.nil.get n=undef:=by
 unfold VT.get VT.nil
 rw [Nw.get_fill,Nw.get_fill]
theorem VT.get_put (x:Value) (d:Nat) (t:VT) (n m:Nat) (h:n<256):(VT.put x d t n).get m=if m=n then x else t.get m:=by
 unfold VT.get VT.put
 rw [Nw.get_upd _ _ _ _ _ (by omega)]
 by_cases h1:m / 16=n / 16
 · rw [if_pos h1,Nw.get_upd _ _ _ _ _ (Nat.mod_lt _ (by omega))]
   by_cases h2:m % 16=n % 16
   · rw [if_pos h2,if_pos (by omega)]
   · rw [if_neg h2,if_neg (fun e=>h2 (by rw [e])),h1]
 · rw [if_neg h1,if_neg (fun e=>h1 (by rw [e]))]
noncomputable def tmL (n:Nat) (t:VT):List Value:=(List.range n).map t.get
theorem tmL_get? {n i:Nat} {t:VT}:(tmL n t)[i]?=if i<n then some (t.get i) else none:=by
 unfold tmL
 rw [List.getElem?_map]
 by_cases h:i<n
 · rw [List.getElem?_range h,if_pos h];rfl
 · rw [List.getElem?_eq_none (by simpa using h),if_neg h];rfl
theorem Zvm {n i:Nat} {t:VT}:(tmL n t).getD i undef=if i<n then t.get i else undef:=by
 rw [List.getD_eq_getElem?_getD,tmL_get?]
 split<;>rfl
theorem ZxW {n d:Nat} {t:VT} {v:Value} (h:d<n) (hd:d<256):(tmL n t).set d v=tmL n (t.put v 20 d):=by
 apply List.ext_getElem?
 intro i
 rw [tmL_get?,VT.get_put _ _ _ _ _ (by omega)]
 by_cases hi:i=d
 · subst hi
   rw [List.getElem?_set_self (by unfold tmL;simpa using h),if_pos h,if_pos rfl]
 · rw [List.getElem?_set_ne (by omega),tmL_get?,if_neg hi]
structure FSt where
 n:Nat
 t:VT
 dfs:List ADef
 F:FH
noncomputable def FSt.abs (s:FSt):St:=⟨tmL s.n s.t,s.dfs,s.F.abs⟩
noncomputable def ZeN (n:Nat) (t:VT):Operand→Value
 | .tmp i=>bif Nat.blt i n then t.get i else undef
 | .const v=>v
 | .global g=>.pointer (some ⟨g,0,none⟩)
 | .func f=>.func (.func f) #[] #[]
theorem Zqk {a b:Nat} (h:a<b):Nat.blt a b=true:=by rw [Nat.blt_eq];exact h
theorem ZnL {a b:Nat} (h:¬a<b):Nat.blt a b=false:=by
 cases hb:Nat.blt a b with
 | false=>rfl
 | true=>rw [Nat.blt_eq] at hb;exact absurd hb h
theorem Zbj (n:Nat) (t:VT):ZeN n t=aev (tmL n t):=by
 funext x
 cases x with
 | tmp i =>
  show (bif Nat.blt i n then t.get i else undef)=(tmL n t).getD i undef
  rw [Zvm]
  by_cases h:i<n
  · rw [Zqk h,if_pos h];rfl
  · rw [ZnL h,if_neg h];rfl
 | _=>rfl
noncomputable def putF (dst:Option Nat) (v:Value) (n:Nat) (t:VT):Option VT:=match dst with
 | some d=>bif Nat.blt d n&&Nat.blt d 256 then some (t.put v 20 d) else none
 | none=>some t
theorem ZcQ {dst:Option Nat} {v:Value} {n:Nat} {t t':VT} (h:putF dst v n t=some t'):ZbX dst v (tmL n t)=tmL n t':=by
 unfold putF at h
 cases dst with
 | none=>simp only [Option.some.injEq] at h;subst h;rfl
 | some d =>
  dsimp only at h
  cases hc:Nat.blt d n&&Nat.blt d 256 with
  | false=>rw [hc] at h;simp at h
  | true =>
   rw [hc,cond_true] at h
   simp only [Option.some.injEq] at h
   subst h
   rw [Bool.and_eq_true,Nat.blt_eq,Nat.blt_eq] at hc
   exact ZxW hc.1 hc.2
noncomputable def Ziy:Nat→List Value→VT→VT
 | _,[],t=>t
 | k,a::l,t=>Ziy (k+1) l (t.put a 20 k)
theorem Znd:∀ (l:List Value) (k:Nat) (t:VT) (i:Nat),k+l.length≤256→(Ziy k l t).get i=if k≤i∧i<k+l.length then l.getD (i-k) undef else t.get i
 | [],k,t,i,_=>by rw [if_neg (by simp only [List.length_nil];omega)];rfl
 | a::l,k,t,i,h=>by
  simp only [List.length_cons] at h ⊢
  unfold Ziy
  rw [Znd l (k+1) _ i (by omega),VT.get_put _ _ _ _ _ (by omega)]
  by_cases h1:k+1≤i∧i<k+1+l.length
  · rw [if_pos h1,if_pos (by omega),show i-k=(i-(k+1))+1 by omega,List.getD_cons_succ]
  · rw [if_neg h1]
    by_cases h2:i=k
    · subst h2;rw [if_pos rfl,if_pos (by omega),Nat.sub_self];rfl
    · rw [if_neg h2,if_neg (by omega)]
theorem Zpm {args:List Value} {n:Nat} (h:args.length≤n) (h2:args.length≤256):tmL n (Ziy 0 args .nil)=args++List.replicate (n-args.length) undef:=by
 apply List.ext_getElem?
 intro i
 rw [tmL_get?,Znd _ _ _ _ (by omega)]
 rcases Nat.lt_or_ge i args.length with hi | hi
 · rw [if_pos (by omega),if_pos (by omega),List.getElem?_append_left hi,List.getD_eq_getElem?_getD,Nat.sub_zero,List.getElem?_eq_getElem hi];rfl
 · rw [List.getElem?_append_right hi,List.getElem?_replicate]
   by_cases hn:i<n
   · rw [if_pos hn,if_neg (by omega),if_pos (by omega),VT.get_nil]
   · rw [if_neg hn,if_neg (by omega)]
noncomputable def Zjb (fn:Func) (args:List Value) (F:FH):Option FSt:=bif Nat.ble args.length fn.ntmps&&Nat.ble args.length 256 then some ⟨fn.ntmps,Ziy 0 args .nil,[],F⟩ else none
theorem Zmy {fn:Func} {args:List Value} {F:FH} {s:FSt} (h:Zjb fn args F=some s):ZdT fn args F.abs=s.abs:=by
 unfold Zjb at h
 cases hc:Nat.ble args.length fn.ntmps&&Nat.ble args.length 256 with
 | false=>rw [hc] at h;simp at h
 | true =>
  rw [hc,cond_true] at h
  simp only [Option.some.injEq] at h
  subst h
  rw [Bool.and_eq_true] at hc
  unfold ZdT FSt.abs
  rw [←Zpm (Nat.le_of_ble_eq_true hc.1) (Nat.le_of_ble_eq_true hc.2)]
noncomputable def ZdV (all:List Oper) (n:Nat) (t:VT) (o:Oper):Bool:=match o.guard with
 | none=>true
 | some (j,want)=>match all[j]? with
  | some o=>match o.dst with
   | some d=>bif Nat.blt d n then (match t.get d with
    | .bool b=>b == want
    | _=>false) else false
   | none=>false
  | none=>false
theorem Zdn (all:List Oper) (n:Nat) (t:VT) (o:Oper):ZdV all n t o=Zat all (tmL n t) o:=by
 unfold ZdV Zat ZcL
 cases o.guard with
 | none=>rfl
 | some p =>
  obtain ⟨j,want⟩:=p
  dsimp only
  cases all[j]? with
  | none=>rfl
  | some o' =>
   dsimp only
   cases o'.dst with
   | none=>rfl
   | some d =>
    dsimp only
    rw [tmL_get?]
    by_cases h:d<n
    · rw [Zqk h,if_pos h,cond_true]
      dsimp only
      cases t.get d<;>rfl
    · rw [ZnL h,if_neg h];rfl
abbrev ZAv:=FuncId→List Value→FH→Option (Value×FH)
def ZnA (T:Tabs) (ρ:Operand→Value) (c:Call):Option ADef :=
 match c.callee with
 | .value f=>match ρ f with
  | .func (.func g) first captured=>match T.func g with
   | some _=>some ⟨g,first.toList++c.args.toList.map ρ++captured.toList⟩
   | none=>none
  | _=>none
 | _=>none
noncomputable def ZoR (P:Program) (T:Tabs) (call:ZAv) (df:Bool) (all:List Oper):List Oper→FSt→Option FSt
 | [],s=>some s
 | o::rest,s=>bif ZdV all s.n s.t o then
    bif Zbd o.op then match o.op with
     | .defer c=>bif df&&ZaO o.op.operands.toList then match ZnA T (ZeN s.n s.t) c,putF o.dst undef s.n s.t with
         | some d,some t=>ZoR P T call df all rest ⟨s.n,t,d::s.dfs,s.F⟩
         | _,_=>none
      else none
     | _=>none
    else match fop P T s.F.abs (ZeN s.n s.t) o.op with
     | some (.val v c)=>match c.onF s.F,putF o.dst v s.n s.t with
      | some F,some t=>ZoR P T call df all rest ⟨s.n,t,s.dfs,F⟩
      | _,_=>none
     | some (.skip c)=>match c.onF s.F,putF o.dst undef s.n s.t with
      | some F,some t=>ZoR P T call df all rest ⟨s.n,t,s.dfs,F⟩
      | _,_=>none
     | some (.enter f args)=>match call f args s.F with
      | some (v,F)=>match putF o.dst v s.n s.t with
       | some t=>ZoR P T call df all rest ⟨s.n,t,s.dfs,F⟩
       | none=>none
      | none=>none
     | _=>none
  else match putF o.dst undef s.n s.t with
   | some t=>ZoR P T call df all rest ⟨s.n,t,s.dfs,s.F⟩
   | none=>none
def ZpK:Option Nat→Option Nat→Bool
 | none,none=>true
 | some a,some b=>Nat.beq a b
 | _,_=>false
theorem ZmS {a b:Option Nat} (h:ZpK a b=true):a=b:=by
 unfold ZpK at h
 split at h
 · rfl
 · rw [Nat.eq_of_beq_eq_true h]
 · simp at h
def Zmh:Option Addr→Option Addr→Bool
 | none,none=>true
 | some a,some b=>Nat.beq a.block b.block&&Nat.beq a.off b.off&&ZpK a.spot b.spot
 | _,_=>false
theorem Zlh {a b:Option Addr} (h:Zmh a b=true):a=b:=by
 unfold Zmh at h
 split at h
 · rfl
 · rename_i a b
   simp only [Bool.and_eq_true] at h
   obtain ⟨⟨h1,h2⟩,h3⟩:=h
   have e1:=Nat.eq_of_beq_eq_true h1
   have e2:=Nat.eq_of_beq_eq_true h2
   have e3:=ZmS h3
   cases a;cases b
   simp only at e1 e2 e3
   subst e1;subst e2;subst e3;rfl
 · simp at h
def Zdy (eq:Value→Value→Bool):List Value→List Value→Bool
 | [],[]=>true
 | v::l,w::m=>bif eq v w then Zdy eq l m else false
 | _,_=>false
theorem ZcS {eq:Value→Value→Bool} (he:∀ v w,eq v w=true→v=w):∀ {l m:List Value},Zdy eq l m=true→l=m
 | [],[],_=>rfl
 | [],_::_,h=>by simp [Zdy] at h
 | _::_,[],h=>by simp [Zdy] at h
 | v::l,w::m,h=>by
  unfold Zdy at h
  cases hc:eq v w with
  | false=>rw [hc] at h;simp at h
  | true=>rw [hc,cond_true] at h;rw [he _ _ hc,ZcS he h]
def ZlT:Value→Value→Bool
 | .int k a,.int k' b=>decide (k=k')&&decide (a=b)
 | .bool a,.bool b=>bif a then b else !b
 | .string a,.string b=>Zax a b
 | .pointer a,.pointer b=>Zmh a b
 | .slice a n c,.slice b m d=>Zmh a b&&Nat.beq n m&&Nat.beq c d
 | .map a,.map b=>ZpK a b
 | .nilFunc,.nilFunc=>true
 | .nilIface,.nilIface=>true
 | _,_=>false
theorem Zk7 {v w:Value} (h:ZlT v w=true):v=w:=by
 unfold ZlT at h
 split at h
 · simp only [Bool.and_eq_true,decide_eq_true_eq] at h;rw [h.1,h.2]
 · rename_i a b;cases a<;>cases b<;>first | rfl | cases h
 · rw [ZbE] at h;rw [of_decide_eq_true h]
 · rw [Zlh h]
 · simp only [Bool.and_eq_true] at h
   rw [Zlh h.1.1,Nat.eq_of_beq_eq_true h.1.2,Nat.eq_of_beq_eq_true h.2]
 · rw [ZmS h]
 · rfl
 · rfl
 · simp at h
def Zkc (eq:Value→Value→Bool):Value→Value→Bool
 | .func (.func f) u v,.func (.func g) u' v'=>Nat.beq f g&&Zdy eq u.toList u'.toList&&Zdy eq v.toList v'.toList
 | .agg u,.agg v=>Zdy eq u.toList v.toList
 | .tuple u,.tuple v=>Zdy eq u.toList v.toList
 | v,w=>ZlT v w
theorem ZhM {eq:Value→Value→Bool} (he:∀ v w,eq v w=true→v=w) {v w:Value} (h:Zkc eq v w=true):v=w:=by
 unfold Zkc at h
 split at h
 · simp only [Bool.and_eq_true] at h
   rw [Nat.eq_of_beq_eq_true h.1.1,Array.toList_inj.1 (ZcS he h.1.2),Array.toList_inj.1 (ZcS he h.2)]
 · rw [Array.toList_inj.1 (ZcS he h)]
 · rw [Array.toList_inj.1 (ZcS he h)]
 · exact Zk7 h
def ZkJ:Value→Value→Bool:=Zkc (Zkc (Zkc ZlT))
theorem ZeX (v w:Value) (h:ZkJ v w=true):v=w:=ZhM (fun _ _ h=>ZhM (fun _ _ h=>ZhM (fun _ _ h=>Zk7 h) h) h) h
inductive RdF where
 | rd (j:Nat) (op:Op) (n:Nat) (t:VT) (v:Value)
 | al (j:Nat) (i:Nat) (o:AObj)
def RdF.j:RdF→Nat
 | .rd j _ _ _ _=>j
 | .al j _ _=>j
def ZtA:Option AObj→AObj→Bool
 | some (.box cs e),.box cs' e'=>Zdy ZkJ cs cs'&&Nat.beq e e'
 | some (.arr cs st g e ro),.arr cs' st' g' e' ro'=>Zdy ZkJ cs cs'&&decide (st=st')&&Nat.beq g g'&&Nat.beq e e'&&decide (ro=ro')
 | _,_=>false
theorem Ztz {a:Option AObj} {b:AObj} (h:ZtA a b=true):a=some b:=by
 unfold ZtA at h
 split at h
 · simp only [Bool.and_eq_true] at h
   rw [ZcS ZeX h.1,Nat.eq_of_beq_eq_true h.2]
 · simp only [Bool.and_eq_true,decide_eq_true_eq] at h
   obtain ⟨⟨⟨⟨h1,h2⟩,h3⟩,h4⟩,h5⟩:=h
   rw [ZcS ZeX h1,h2,Nat.eq_of_beq_eq_true h3,Nat.eq_of_beq_eq_true h4,h5]
 · simp at h
noncomputable def ZsR (P:Program) (T:Tabs) (F:FH):RdF→Bool
 | .rd _ op n t v=>match fop P T F.abs (ZeN n t) op with
  | some (.val w .same)=>ZkJ v w
  | _=>false
 | .al _ i o=>ZtA (F.abs.get i) o
noncomputable def ZbB (P:Program) (T:Tabs) (F:FH):List RdF→Bool
 | []=>true
 | r::l=>bif ZsR P T F r then ZbB P T F l else false
noncomputable def Zf1 (B:List Nat) (j:Nat) (R:List RdF):List RdF:=R.filter fun r=>!(bit B j r.j)
noncomputable def ZlZ (P:Program) (T:Tabs) (call:ZAv) (l:List Oper) (B:List Nat):List RdF→List Nat→FSt→Option FSt
 | R,[],s=>bif ZbB P T s.F R then some s else none
 | R,j::rest,s=>match l[j]? with
  | some o=>bif ZdV l s.n s.t o then match ZaS o.op with
   | .pure=>match fop P T s.F.abs (ZeN s.n s.t) o.op with
    | some (.val v .same)=>match putF o.dst v s.n s.t with
     | some t=>ZlZ P T call l B R rest ⟨s.n,t,s.dfs,s.F⟩
     | none=>none
    | _=>none
   | .read=>match fop P T s.F.abs (ZeN s.n s.t) o.op with
    | some (.val v .same)=>match putF o.dst v s.n s.t with
     | some t=>ZlZ P T call l B (.rd j o.op s.n s.t v::R) rest ⟨s.n,t,s.dfs,s.F⟩
     | none=>none
    | _=>none
   | .alloc=>match fop P T s.F.abs (ZeN s.n s.t) o.op with
    | some (.val v (.push ob))=>match (Chg.push ob).onF s.F,putF o.dst v s.n s.t with
     | some F,some t=>ZlZ P T call l B (.al j s.F.next ob::R) rest ⟨s.n,t,s.dfs,F⟩
     | _,_=>none
    | _=>none
   | .effect=>bif ZbB P T s.F R then match fop P T s.F.abs (ZeN s.n s.t) o.op with
       | some (.val v c)=>match c.onF s.F,putF o.dst v s.n s.t with
        | some F,some t=>ZlZ P T call l B (Zf1 B j R) rest ⟨s.n,t,s.dfs,F⟩
        | _,_=>none
       | some (.skip c)=>match c.onF s.F,putF o.dst undef s.n s.t with
        | some F,some t=>ZlZ P T call l B (Zf1 B j R) rest ⟨s.n,t,s.dfs,F⟩
        | _,_=>none
       | some (.enter f args)=>match call f args s.F with
        | some (v,F)=>match putF o.dst v s.n s.t with
         | some t=>ZlZ P T call l B (Zf1 B j R) rest ⟨s.n,t,s.dfs,F⟩
         | none=>none
        | none=>none
       | _=>none
    else none
   else match putF o.dst undef s.n s.t with
    | some t=>bif ZaM o then bif ZbB P T s.F R then ZlZ P T call l B (Zf1 B j R) rest ⟨s.n,t,s.dfs,s.F⟩ else none
     else ZlZ P T call l B R rest ⟨s.n,t,s.dfs,s.F⟩
    | none=>none
  | none=>none
def ZtF:Code→Bool
 | .seq a b=>ZtF a&&ZtF b
 | .cond _ a b=>ZtF a&&ZtF b
 | .region _ ops _=>!(ops.toList.any Zbv)
 | _=>true
def Zzt (T:Tabs) (H:AHeap) (t:TypeId) (a:Addr):Option Value:=match ZdK T t with
 | some false=>H.cell a
 | some true=>match T.info t with
  | some i=>match H.readN a i.size with
   | some vs=>some (.agg vs.toArray)
   | none=>none
  | none=>none
 | none=>none
noncomputable def ZcB (T:Tabs) (H:AHeap) (n:Nat) (tm:VT):List ResultVar→Option (List Value)
 | []=>some []
 | .tmp t::rs=>match ZcB T H n tm rs with
  | some vs=>some (ZeN n tm (.tmp t)::vs)
  | none=>none
 | .cell a t::rs=>match ZeN n tm (.tmp a) with
  | .pointer (some ad)=>match Zzt T H t ad with
   | some v=>match ZcB T H n tm rs with
    | some vs=>some (v::vs)
    | none=>none
   | none=>none
  | _=>none
noncomputable def Zll (T:Tabs) (code:Code→FSt→Option (AExit×FSt)):List ADef→FH→Option FH
 | [],F=>some F
 | d::ds,F=>match T.func d.f with
  | some fn=>match fn.body,Zjb fn d.args F with
   | some c,some s0=>bif ZtF c then match code c s0 with
       | some (.normal,⟨n,tm,[],F1⟩)=>match ZcB T F1.abs n tm fn.results.toList with
        | some _=>Zll T code ds F1
        | none=>none
       | some (.ret,⟨n,tm,[],F1⟩)=>match ZcB T F1.abs n tm fn.results.toList with
        | some _=>Zll T code ds F1
        | none=>none
       | _=>none
    else none
   | _,_=>none
  | none=>none
noncomputable def ZFG (T:Tabs) (rs:List ResultVar) (n:Nat) (tm:VT):Option FH→Option (Value×FH)
 | some F=>match ZcB T F.abs n tm rs with
  | some vs=>some (Zly vs,F)
  | none=>none
 | none=>none
noncomputable def ZBQ (T:Tabs) (code:Code→FSt→Option (AExit×FSt)) (rs:List ResultVar):Option (AExit×FSt)→Option (Value×FH)
 | some (.normal,⟨n,tm,ds,F⟩)=>ZFG T rs n tm (Zll T code ds F)
 | some (.ret,⟨n,tm,ds,F⟩)=>ZFG T rs n tm (Zll T code ds F)
 | _=>none
noncomputable def Zz0 (T:Tabs) (code:Code→FSt→Option (AExit×FSt)):ZAv:=fun f args F=>match T.func f with
 | some fn=>match fn.body,Zjb fn args F with
  | some c,some s0=>ZBQ T code fn.results.toList (code c s0)
  | _,_=>none
 | none=>none
def Zzb:Option FSt→Option (AExit×FSt)
 | some s=>some (.normal,s)
 | none=>none
noncomputable def ZGz (P:Program) (T:Tabs) (rec:Code→FSt→Option (AExit×FSt)) (c:Code) (s:FSt):Option (AExit×FSt) :=
 match c with
 | .skip=>some (.normal,s)
 | .region _ ops draw=>match draw with
  | false=>Zzb (ZoR P T (Zz0 T rec) true ops.toList ops.toList s)
  | true=>bif ZdX ops.toList (Zbo ops.toList) then Zzb (ZoR P T (Zz0 T rec) false ops.toList ((Zbo ops.toList).filterMap fun j=>ops.toList[j]?) s)
   else bif ZbD ops.toList (Zbo ops.toList) then Zzb (ZlZ P T (Zz0 T rec) ops.toList (Zbf ops.toList) [] (Zbo ops.toList) s) else none
 | .seq a b=>match rec a s with
  | some (.normal,s1)=>rec b s1
  | r=>r
 | .cond q a b=>bif Zaa q then match ZeN s.n s.t q with
     | .bool true=>rec a s
     | .bool false=>rec b s
     | _=>none
  else none
 | .block id a=>match rec a s with
  | some (.exit i,s1)=>bif Nat.beq i id then some (.normal,s1) else some (.exit i,s1)
  | r=>r
 | .loop a=>match rec a s with
  | some (.normal,s1)=>rec (.loop a) s1
  | r=>r
 | .exit id=>some (.exit id,s)
 | .ret=>some (.ret,s)
 | .label _=>some (.normal,s)
 | _=>none
section
variable {P:Program} {T:Tabs}
theorem ZuD (hT:TabOK P T) (he:∀ f fn,T.func f=some fn→ZcP P f=true) {ρ:Operand→Value} {c:Call} {d:ADef} (h:ZnA T ρ c=some d):Zd1 P ρ c=some d:=by
 unfold ZnA at h
 unfold Zd1
 split at h
 case h_2=>simp at h
 rename_i f hc
 rw [hc]
 dsimp only
 split at h
 case h_2=>simp at h
 rename_i g first captured hf
 rw [hf]
 dsimp only
 split at h
 case h_2=>simp at h
 rename_i fn hfn
 rw [hT.func _ _ hfn]
 dsimp only
 have:=he _ _ hfn
 unfold ZcP at this
 rw [hT.func _ _ hfn] at this
 rw [if_pos this]
 exact h
section
variable {call:CallT} {l:List Oper} {dfs:List ADef} {B:List Nat} {R R':List Tr} {j:Nat} {rest:List Nat} {tm:List Value} {H H':AHeap} {x:AExit} {s':St} {o:Oper} {v:Value}
theorem Ze8 {Tt:List Tr} {r:AHeap×AExit×St} (ho:l[j]?=some o) (hw:Zat l tm o=true)
    (hv:opA P H (aev tm) o.op o.type=some (.val v H')) (h:ZaB P call l dfs rest (ZbX o.dst v tm) H'=some (Tt,r)):ZaB P call l dfs (j::rest) tm H=some (⟨j,o,tm,H,v,H',true⟩::Tt,r):=by
 unfold ZaB
 rw [ho]
 dsimp only
 rw [if_pos hw,ZaE,hv]
 dsimp only
 rw [h]
 rfl
theorem Zlv {H1:AHeap} {f:FuncId} {args:List Value} {Tt:List Tr} {r:AHeap×AExit×St} (ho:l[j]?=some o) (hw:Zat l tm o=true)
    (hv:opA P H (aev tm) o.op o.type=some (.enter f args H1)) (hc:call f args H1=some (.ret v,H')) (h:ZaB P call l dfs rest (ZbX o.dst v tm) H'=some (Tt,r)):ZaB P call l dfs (j::rest) tm H=some (⟨j,o,tm,H,v,H',true⟩::Tt,r):=by
 unfold ZaB
 rw [ho]
 dsimp only
 rw [if_pos hw,ZaE,hv]
 dsimp only
 rw [hc]
 dsimp only
 rw [h]
 rfl
theorem Zlu {Tt:List Tr} {r:AHeap×AExit×St} (ho:l[j]?=some o) (hw:Zat l tm o=true)
    (hv:opA P H (aev tm) o.op o.type=some (.skip H')) (h:ZaB P call l dfs rest (ZbX o.dst undef tm) H'=some (Tt,r)):ZaB P call l dfs (j::rest) tm H=some (⟨j,o,tm,H,undef,H',true⟩::Tt,r):=by
 unfold ZaB
 rw [ho]
 dsimp only
 rw [if_pos hw,ZaE,hv]
 dsimp only
 rw [h]
 rfl
theorem Zjk {Tt:List Tr} {r:AHeap×AExit×St} (ho:l[j]?=some o) (hw:Zat l tm o=false)
    (h:ZaB P call l dfs rest (ZbX o.dst undef tm) H=some (Tt,r)):ZaB P call l dfs (j::rest) tm H=some (⟨j,o,tm,H,undef,H,false⟩::Tt,r):=by
 unfold ZaB
 rw [ho]
 dsimp only
 rw [if_neg (by rw [hw];simp),h]
 rfl
theorem Zhw (ho:l[j]?=some o) (hw:Zat l tm o=true) (hk:ZaS o.op=.pure) (hv:opA P H (aev tm) o.op o.type=some (.val v H)) (h:Zdm P call l dfs B R rest (ZbX o.dst v tm) H x s'):Zdm P call l dfs B R (j::rest) tm H x s':=by
 obtain ⟨T,He,h1,h2,h3⟩:=h
 exact ⟨_,He,Ze8 ho hw hv h1,ZqQ hk h2,fun t ht=>Zgj (Zkt hk) (h3 t ht)⟩
theorem Zdp (ho:l[j]?=some o) (hw:Zat l tm o=true) (hk:ZaS o.op=.read∨ZaS o.op=.alloc) (hv:opA P H (aev tm) o.op o.type=some (.val v H')) (h:Zdm P call l dfs B (⟨j,o,tm,H,v,H',true⟩::R) rest (ZbX o.dst v tm) H' x s'):Zdm P call l dfs B R (j::rest) tm H x s':=by
 obtain ⟨T,He,h1,h2,h3⟩:=h
 have he:ZaM o=false:=by unfold ZaM;rcases hk with hk | hk<;>(rw [hk];rfl)
 exact ⟨_,He,Ze8 ho hw hv h1,ZvG (h3 _ (List.mem_cons_self ..)) h2,fun t ht=>Zgj he (h3 t (List.mem_cons_of_mem _ ht))⟩
theorem Zhy (ho:l[j]?=some o) (hw:Zat l tm o=true) (hk:ZaS o.op=.effect) {f:FuncId} {args:List Value} {H1:AHeap} (hv:opA P H (aev tm) o.op o.type=some (.enter f args H1)) (hc:call f args H1=some (.ret v,H'))
    (hR:∀ t∈R,same P t H∧(bit B j t.j=true∨t∈R')) (h:Zdm P call l dfs B R' rest (ZbX o.dst v tm) H' x s'):Zdm P call l dfs B R (j::rest) tm H x s':=by
 obtain ⟨T,He,h1,h2,h3⟩:=h
 have he:ZaM o=true:=by unfold ZaM;rw [hk];rfl
 exact ⟨_,He,Zlv ho hw hv hc h1,Zjs he h2,fun t ht=>ZfD he (hR t ht).1 ((hR t ht).2.imp id (h3 t))⟩
theorem Zjv (ho:l[j]?=some o) (hw:Zat l tm o=true) (hk:ZaS o.op=.effect) (hv:opA P H (aev tm) o.op o.type=some (.val v H'))
    (hR:∀ t∈R,same P t H∧(bit B j t.j=true∨t∈R')) (h:Zdm P call l dfs B R' rest (ZbX o.dst v tm) H' x s'):Zdm P call l dfs B R (j::rest) tm H x s':=by
 obtain ⟨T,He,h1,h2,h3⟩:=h
 have he:ZaM o=true:=by unfold ZaM;rw [hk];rfl
 exact ⟨_,He,Ze8 ho hw hv h1,Zjs he h2,fun t ht=>ZfD he (hR t ht).1 ((hR t ht).2.imp id (h3 t))⟩
theorem Zhv (ho:l[j]?=some o) (hw:Zat l tm o=true) (hk:ZaS o.op=.effect) (hv:opA P H (aev tm) o.op o.type=some (.skip H'))
    (hR:∀ t∈R,same P t H∧(bit B j t.j=true∨t∈R')) (h:Zdm P call l dfs B R' rest (ZbX o.dst undef tm) H' x s'):Zdm P call l dfs B R (j::rest) tm H x s':=by
 obtain ⟨T,He,h1,h2,h3⟩:=h
 have he:ZaM o=true:=by unfold ZaM;rw [hk];rfl
 exact ⟨_,He,Zlu ho hw hv h1,Zjs he h2,fun t ht=>ZfD he (hR t ht).1 ((hR t ht).2.imp id (h3 t))⟩
theorem Zju (ho:l[j]?=some o) (hw:Zat l tm o=false) (hk:ZaM o=false) (h:Zdm P call l dfs B R rest (ZbX o.dst undef tm) H x s'):Zdm P call l dfs B R (j::rest) tm H x s':=by
 obtain ⟨T,He,h1,h2,h3⟩:=h
 exact ⟨_,He,Zjk ho hw h1,⟨fun hf=>by simp at hf,h2⟩,fun t ht=>Zgj hk (h3 t ht)⟩
theorem Zhx (ho:l[j]?=some o) (hw:Zat l tm o=false) (hk:ZaM o=true) (hR:∀ t∈R,same P t H∧(bit B j t.j=true∨t∈R')) (h:Zdm P call l dfs B R' rest (ZbX o.dst undef tm) H x s'):Zdm P call l dfs B R (j::rest) tm H x s':=by
 obtain ⟨T,He,h1,h2,h3⟩:=h
 exact ⟨_,He,Zjk ho hw h1,⟨fun hf=>by simp at hf,h2⟩,fun t ht=>ZfD hk (hR t ht).1 ((hR t ht).2.imp id (h3 t))⟩
end
def RelR (t:Tr):RdF→Prop
 | .rd j op n tt v=>t.j=j∧ZaS t.o.op=.read∧t.o.op=op∧t.tm=tmL n tt∧t.v=v
 | .al j i o=>t.j=j∧ZaS t.o.op=.alloc∧t.H.next=i∧t.H'.get i=some o
theorem ZiE (hT:TabOK P T) (he:∀ f fn,T.func f=some fn→ZcP P f=true) {F:FH} {t:Tr} {r:RdF} (h:ZsR P T F r=true) (hr:RelR t r):same P t F.abs:=by
 cases r with
 | rd j op n tt v =>
  obtain ⟨_,hk,hop,htm,hv⟩:=hr
  refine ZgR hk ?_
  dsimp only [ZsR] at h
  split at h
  · rename_i w hf
    have:=Zp2 (ty:=t.o.type) hT he hf
    rw [htm,hop,←Zbj,this,hv,ZeX _ _ h];rfl
  · simp at h
 | al j i o =>
  obtain ⟨_,hk,hn,hg⟩:=hr
  refine Zhu hk ?_
  rw [hn,hg]
  exact Ztz h
theorem Zel (hT:TabOK P T) (he:∀ f fn,T.func f=some fn→ZcP P f=true) {F:FH}:∀ {R:List RdF},ZbB P T F R=true→∀ r∈R,ZsR P T F r=true
 | [],_,r,hr=>by simp at hr
 | q::l,h,r,hr=>by
  unfold ZbB at h
  cases hc:ZsR P T F q with
  | false=>rw [hc] at h;simp at h
  | true =>
   rw [hc,cond_true] at h
   rcases List.mem_cons.1 hr with rfl | hr
   · exact hc
   · exact Zel hT he h r hr
theorem RelR.jj {t:Tr} {r:RdF} (h:RelR t r):t.j=r.j:=by cases r<;>exact h.1
theorem ZvQ (hT:TabOK P T) {H:AHeap} {t:TypeId} {a:Addr} {v:Value} (h:Zzt T H t a=some v):H.loadV P t a=some v:=by
 unfold Zzt at h
 unfold AHeap.loadV
 split at h
 · rename_i hg;rw [hT.agg hg];exact h
 · rename_i hg
   rw [hT.agg hg]
   dsimp only
   split at h
   case h_2=>simp at h
   rename_i i hi
   rw [hT.info _ _ hi]
   exact h
 · simp at h
theorem Zdw (hT:TabOK P T) {H:AHeap} {n:Nat} {tm:VT}:∀ (rs:List ResultVar) (vs:List Value),ZcB T H n tm rs=some vs→ZaW P H (tmL n tm) rs=some vs
 | [],vs,h=>h
 | .tmp t::rs,vs,h=>by
  unfold ZcB at h
  split at h
  case h_2=>simp at h
  rename_i vs' hv
  simp only [Option.some.injEq] at h
  subst h
  rw [Zbj,ZvF,Zdw hT rs vs' hv];rfl
 | .cell a t::rs,vs,h=>by
  unfold ZcB at h
  rw [Zbj,ZAo] at h
  split at h
  case h_2=>simp at h
  rename_i ad ha
  split at h
  case h_2=>simp at h
  rename_i v hv
  split at h
  case h_2=>simp at h
  rename_i vs' hvs
  simp only [Option.some.injEq] at h
  subst h
  rw [Ztf,ha,Zo5,ZvQ hT hv,Zdw hT rs vs' hvs];rfl
theorem ZfL {code:Code→St→Option (AExit×St)} {rs:List ResultVar} {x:AExit} {s:St} (hx:x=.normal∨x=.ret):Zb6 P code rs (some (x,s))=ZkD P rs s.tmps (ZaL P code s.dfs none s.H):=by
 obtain ⟨tm,ds,H⟩:=s
 rcases hx with rfl | rfl
 · cases ds with
   | nil=>rfl
   | cons d ds=>rfl
 · cases ds with
   | nil=>rfl
   | cons d ds=>rfl
end
end
section
open Go
def Emb.none:Emb:=⟨fun _ _=>Option.none,fun _=>Option.none,fun _=>Option.none,fun _=>0,fun _=>0,fun _=>false,0⟩
theorem HRel.none (P:Program) (w:World):HRel P ⟨fun b=>b<w.heap.size,w.heap.size⟩ Emb.none ⟨0,fun _=>Option.none⟩ w where
 row:=fun _ _ _ _ _ h=>by simp [Emb.none] at h
 map:=fun _ _ _ h=>by simp [Emb.none] at h
 dom:=fun _ _ _ h=>by simp [Emb.none] at h
 domM:=fun _ _ h=>by simp [Emb.none] at h
 fresh:=fun _ _=>rfl
 stle:=fun _ _ h=>by simp [AHeap.view] at h
 inj:=fun _ _ _ _ _ _ _ _ _ h=>by simp [Emb.none] at h
 injM:=fun _ _ _ h=>by simp [Emb.none] at h
 base:=fun _ h=>h
 nx:=rfl
 liveR:=fun _ _ _ h=>by simp [Emb.none] at h
 liveM:=fun _ _ h=>by simp [Emb.none] at h
 live:=fun _ h=>by simp [Emb.none] at h
 lp:=fun _ _ h=>by simp [Emb.none] at h
 injL:=fun _ _ _ h=>by simp [Emb.none] at h
theorem Zuv (P:Program):Zbn P ZzN:=fun _ _ _ _ _ h=>by simp [ZzN] at h
end
end B
end Go.Proofs.YtmocfnfnhgognaaGreat
namespace Go.Proofs.YtmocfnfnhgognaaGreat
namespace G
section
open Go B
section
variable {P:Program} {T:Tabs} {H:AHeap} {ρ:Operand→Value} {ty:TypeId}
def ZhE (T:Tabs) (t:TypeId):Bool:=match T.und t with
 | some (.interface _)=>true
 | none=>true
 | _=>false
theorem ZcE (hT:TabOK P T) {t:TypeId} (h:ZhE T t=false):P.concrete t=true:=by
 unfold ZhE at h
 unfold Program.concrete
 cases hu:T.und t with
 | none=>rw [hu] at h;cases h
 | some d=>rw [hT.und _ _ hu];rw [hu] at h;cases d<;>first | rfl | cases h
theorem Zow {t:TypeId} {x:Operand} (hx:Zaa x=true) (hc:P.concrete t=true):opA P H ρ (.makeInterface t x) ty=some (.val (.iface t (ρ x)) H):=by
 rw [Zcj (by simp) (by simp) (by simp) (by simp)];unfold ZaG;simp [Op.operands,hx,hc]
theorem ZfG {t s u:TypeId} {v:Value} {x:Operand} {ok:Bool} (hx:Zaa x=true) (hc:P.concrete t=true) (hv:ρ x=.iface u v) (he:u=t):opA P H ρ (.typeAssert x s t ok) ty=some (.val (if ok then .tuple #[v,.bool true] else v) H):=by
 rw [Zcj (by simp) (by simp) (by simp) (by simp)];unfold ZaG
 simp only [Op.operands,List.all_toArray,List.all_cons,List.all_nil,hx,Bool.and_true,if_true,hv]
 unfold Program.concrete at hc
 cases hu:P.underlying t with
 | none=>rw [hu] at hc;cases hc
 | some d=>rw [hu] at hc;cases d<;>first | (simp only [he,if_true];done) | cases hc
theorem Zgm {t s u:TypeId} {v z:Value} {i:TypeInfo} {x:Operand} (hx:Zaa x=true) (hc:P.concrete t=true) (hv:ρ x=.iface u v) (he:u≠t) (hi:P.info? t=some i) (hz:i.zero=some z) (hzc:Zab z=true):opA P H ρ (.typeAssert x s t true) ty=some (.val (.tuple #[z,.bool false]) H):=by
 rw [Zcj (by simp) (by simp) (by simp) (by simp)];unfold ZaG
 simp only [Op.operands,List.all_toArray,List.all_cons,List.all_nil,hx,Bool.and_true,if_true,hv]
 unfold Program.concrete at hc
 cases hu:P.underlying t with
 | none=>rw [hu] at hc;cases hc
 | some d=>rw [hu] at hc;cases d<;>first | (simp only [he,if_false,if_true,hi,hz,hzc];done) | cases hc
theorem Zfg {t:TypeId} {ms:Array (String×TypeId)} (hu:P.underlying t=some (.interface ms)) {a:Value} {s:Bool} (ha:(s=true∧a=.nilIface)∨(s=false∧∃ q v,a=.iface q v)):Zaf P (Op.equal t a .nilIface)=some s:=by
 unfold Op.equal
 show Zaf P (Op.equalIn 10000 t a .nilIface)=_
 unfold Op.equalIn
 rw [Zac (Zai hu)]
 rcases ha with ⟨rfl,rfl⟩ | ⟨rfl,q,v,rfl⟩<;>rfl
theorem Zg6 {op:BinOp} {t u:TypeId} {x y:Operand} (hx:Zaa x=true) (hy:Zaa y=true) {ms:Array (String×TypeId)} (hu:P.underlying t=some (.interface ms)) {a:Value} {s:Bool} (hv:ρ x=a) (hw:ρ y=.nilIface) (hc:∃ v,y=.const v) (ha:(s=true∧a=.nilIface)∨(s=false∧∃ q v,a=.iface q v)) {r:Bool} (hr:(op=.eql∧r=s)∨(op=.neq∧r = !s)) :
    opA P H ρ (.binOp op t x y u) ty=some (.val (.bool r) H):=by
 rw [ZlG hx hy,hv,hw]
 obtain ⟨cv,rfl⟩:=hc
 have hp:=Zfg hu ha
 have hg:eqGuard op t x (.const cv) a .nilIface=pure ():=by
  rcases hr with ⟨rfl,_⟩ | ⟨rfl,_⟩<;>rcases ha with ⟨_,rfl⟩ | ⟨_,q,v,rfl⟩<;>cases x<;>rfl
 have hclosed:Zab a=true→Zej P op t x (.const cv) a .nilIface=some (.bool r):=by
  intro hca
  unfold Zej
  rw [if_pos (by rw [hca];rfl),hg,Zac Zal]
  rcases hr with ⟨rfl,rfl⟩ | ⟨rfl,rfl⟩
  · have h2:binOp .eql t a .nilIface=(do pure (.bool (← Op.equal t a .nilIface))):=by rcases ha with ⟨_,rfl⟩ | ⟨_,q,v,rfl⟩<;>rfl
    rw [h2,Zac hp];simp [Zab,Zal]
  · have h2:binOp .neq t a .nilIface=(do pure (.bool (!(← Op.equal t a .nilIface)))):=by rcases ha with ⟨_,rfl⟩ | ⟨_,q,v,rfl⟩<;>rfl
    rw [h2,Zac hp];simp [Zab,Zal]
 cases hca:Zab a with
 | true=>exact Zbi (hclosed hca)
 | false =>
  rcases ha with ⟨_,rfl⟩ | ⟨rfl,q,v,rfl⟩
  · cases hca
  · unfold Zgc
    have:Zej P op t x (.const cv) (.iface q v) .nilIface=none:=by unfold Zej;rw [if_neg];simp [hca]
    rw [this]
    dsimp only
    rw [hu]
    rcases hr with ⟨rfl,rfl⟩ | ⟨rfl,rfl⟩<;>rfl
theorem Zjy {t:TypeId} {v:Value} {x:Operand} (hx:Zaa x=true) (hv:ρ x=.iface t v):opA P H ρ (.panic x) ty=some (.panic (.iface t v) H):=by
 rw [Zcj (by simp) (by simp) (by simp) (by simp)];unfold ZaG;simp [Op.operands,hx,hv]
def Zk4 (T:Tabs) (t:TypeId):Bool:=match T.und t with
 | some (.interface _)=>true
 | _=>false
def Zub:Value→Option Bool
 | .nilIface=>some true
 | .iface _ _=>some false
 | _=>none
abbrev Za9:=FuncId→List Value→Option Value
def Zqq (P:Program) (nb:Za9):Prop:=∀ g args v,nb g args=some v→∃ fn,P.funcs[g]?=some fn∧Func.enters fn=false∧ZC0 P g args=some v
def ZFE (T:Tabs) (ρ:Operand→Value) (t:TypeId) (x:Operand):Option FR:=bif Zaa x&&!(ZhE T t) then fV (.iface t (ρ x)) else none
def Zuk (T:Tabs) (ρ:Operand→Value) (t:TypeId) (x:Operand) (ok:Bool):Option FR:=bif Zaa x&&!(ZhE T t) then match ρ x with
    | .iface u v=>bif Nat.beq u t then fV (bif ok then .tuple #[v,.bool true] else v)
     else bif ok then match ZeQ T t with
      | some z=>fV (.tuple #[z,.bool false])
      | none=>none
     else none
    | _=>none
 else none
def ZxA (T:Tabs) (ρ:Operand→Value) (op:BinOp) (t:TypeId) (x y:Operand):Option FR:=bif Zaa x&&Zk4 T t&&Zaa y then match y,ρ y with
    | .const _,.nilIface=>match Zub (ρ x),op with
     | some s,.eql=>fV (.bool s)
     | some s,.neq=>fV (.bool (!s))
     | _,_=>none
    | _,_=>none
 else none
def Zxz (ρ:Operand→Value) (x:Operand):Option FR:=bif Zaa x then match ρ x with
    | .iface t v=>some (.panic (.iface t v))
    | _=>none
 else none
noncomputable def ZxB (nb:Za9) (N:Nat) (F:FH) (ρ:Operand→Value) (f:Operand) (args:List Operand):Option FR:=bif ZaO (f::args) then match ρ f with
    | .func (.func g) first cap=>match nb g (first.toList++args.map ρ++cap.toList) with
     | some v=>fV v
     | none=>none
    | .func (.yield K) first cap=>bif first.isEmpty&&cap.isEmpty then match F.t.get K with
        | some (.loop r)=>bif Nat.beq args.length r.params.size then some (.enter (N+K) (args.map ρ)) else none
        | _=>none
     else none
    | _=>none
 else none
noncomputable def ZEp (T:Tabs) (nb:Za9) (N:Nat) (F:FH) (ρ:Operand→Value):Op→Option FR
 | .makeInterface t x=>ZFE T ρ t x
 | .typeAssert x _ t ok=>Zuk T ρ t x ok
 | .binOp op t x y _=>ZxA T ρ op t x y
 | .panic x=>Zxz ρ x
 | .call ⟨.value f,args,_⟩=>ZxB nb N F ρ f args.toList
 | _=>none
noncomputable def gop (P:Program) (T:Tabs) (nb:Za9) (N:Nat) (F:FH) (ρ:Operand→Value) (op:Op):Option FR:=match fop P T F.abs ρ op with
 | some r=>some r
 | none=>ZEp T nb N F ρ op
structure GOK (P:Program) (T:Tabs) (nb:Za9) (N:Nat):Prop where
 tab:TabOK P T
 ent:∀ f fn,T.func f=some fn→ZcP P f=true
 nob:Zqq P nb
 size:P.funcs.size=N
theorem ZzD {nb:Za9} {N:Nat} (hG:GOK P T nb N) {F:FH} {op:Op} {r:FR} (h:ZEp T nb N F ρ op=some r):opA P F.abs ρ op ty=some (r.toA F.abs):=by
 unfold ZEp at h
 split at h
 · rename_i t x
   unfold ZFE at h
   cases hc:Zaa x&&!(ZhE T t) with
   | false=>rw [hc] at h;cases h
   | true =>
    rw [hc,cond_true] at h
    rw [Bool.and_eq_true,Bool.not_eq_true'] at hc
    rw [Za4 h]
    exact Zow hc.1 (ZcE hG.tab hc.2)
 · rename_i x s t ok
   unfold Zuk at h
   cases hc:Zaa x&&!(ZhE T t) with
   | false=>rw [hc] at h;cases h
   | true =>
    rw [hc,cond_true] at h
    rw [Bool.and_eq_true,Bool.not_eq_true'] at hc
    have hcc:=ZcE hG.tab hc.2
    split at h
    case h_2=>cases h
    rename_i u v hv
    cases hb:Nat.beq u t with
    | true =>
     rw [hb,cond_true] at h
     rw [Za4 h,ZfG hc.1 hcc hv (Nat.eq_of_beq_eq_true hb)]
     cases ok<;>rfl
    | false =>
     rw [hb,cond_false] at h
     cases ok with
     | false=>cases h
     | true =>
      rw [cond_true] at h
      split at h
      case h_2=>cases h
      rename_i z hz
      rw [Za4 h]
      unfold ZeQ at hz
      split at hz
      case h_2=>cases hz
      rename_i i hi
      split at hz
      case h_2=>cases hz
      rename_i z' hz'
      split at hz
      case isFalse=>cases hz
      rename_i hcl
      simp only [Option.some.injEq] at hz
      subst hz
      rw [Bool.and_eq_true] at hcl
      exact Zgm hc.1 hcc hv (fun e=>by rw [e,Nat.beq_refl] at hb;cases hb) (hG.tab.info _ _ hi) hz' hcl.1
 · rename_i bop t x y u
   unfold ZxA at h
   cases hcc:Zaa x&&Zk4 T t&&Zaa y with
   | false=>rw [hcc] at h;cases h
   | true =>
    rw [hcc,cond_true] at h
    rw [Bool.and_eq_true,Bool.and_eq_true] at hcc
    obtain ⟨hc,hy⟩:=hcc
    split at h
    case h_2=>cases h
    rename_i cv hyv
    obtain ⟨ms,hu⟩:∃ ms,T.und t=some (.interface ms):=by
     have:=hc.2
     unfold Zk4 at this
     split at this
     · rename_i ms hms;exact ⟨ms,hms⟩
     · cases this
    have ha:∀ s,Zub (ρ x)=some s→(s=true∧ρ x=.nilIface)∨(s=false∧∃ q v,ρ x=.iface q v):=by
     intro s hs
     unfold Zub at hs
     split at hs
     · rename_i hx;simp only [Option.some.injEq] at hs;exact .inl ⟨hs.symm,hx⟩
     · rename_i q v hx;simp only [Option.some.injEq] at hs;exact .inr ⟨hs.symm,q,v,hx⟩
     · cases hs
    split at h
    · rename_i s hs
      rw [Za4 h]
      exact Zg6 hc.1 hy (hG.tab.und _ _ hu) rfl hyv ⟨_,rfl⟩ (ha s hs) (.inl ⟨rfl,rfl⟩)
    · rename_i s hs
      rw [Za4 h]
      exact Zg6 hc.1 hy (hG.tab.und _ _ hu) rfl hyv ⟨_,rfl⟩ (ha s hs) (.inr ⟨rfl,rfl⟩)
    · cases h
 · rename_i x
   unfold Zxz at h
   cases hc:Zaa x with
   | false=>rw [hc] at h;cases h
   | true =>
    rw [hc,cond_true] at h
    split at h
    case h_2=>cases h
    rename_i t v hv
    simp only [Option.some.injEq] at h
    subst h
    exact Zjy hc hv
 · rename_i f args tys
   unfold ZxB at h
   cases hk:ZaO (f::args.toList) with
   | false=>rw [hk] at h;simp at h
   | true =>
    rw [hk,cond_true] at h
    rw [Zas] at hk
    simp only [List.all_cons,Bool.and_eq_true] at hk
    have hcall:=ZlF (P:=P) (H:=F.abs) (ρ:=ρ) (ty:=ty) (tys:=tys) hk.1 hk.2
    rw [Array.toArray_toList] at hcall
    rw [hcall]
    split at h
    · rename_i g first cap ha
      rw [ha]
      split at h
      case h_2=>cases h
      rename_i v hv
      rw [Za4 h]
      obtain ⟨fn,h1,h2,h3⟩:=hG.nob _ _ _ hv
      unfold ZnG Zo9
      dsimp only
      rw [h1]
      dsimp only
      rw [if_neg (by rw [h2];simp),h3]
    · rename_i K first cap ha
      rw [ha]
      cases hc:first.isEmpty&&cap.isEmpty with
      | false=>rw [hc] at h;cases h
      | true =>
       rw [hc,cond_true] at h
       split at h
       case h_2=>cases h
       rename_i r hr
       cases hl:Nat.beq args.toList.length r.params.size with
       | false=>rw [hl] at h;cases h
       | true =>
        rw [hl,cond_true] at h
        simp only [Option.some.injEq] at h
        subst h
        unfold ZnG
        dsimp only
        rw [if_pos hc]
        have:F.abs.get K=some (.loop r):=hr
        rw [this]
        dsimp only
        rw [if_pos (by rw [List.length_map];exact Nat.eq_of_beq_eq_true hl),hG.size]
        rfl
    · cases h
 · cases h
theorem Zf7 {nb:Za9} {N:Nat} (hG:GOK P T nb N) {F:FH} {op:Op} {r:FR} (h:gop P T nb N F ρ op=some r):opA P F.abs ρ op ty=some (r.toA F.abs):=by
 unfold gop at h
 split at h
 · rename_i r' hr
   simp only [Option.some.injEq] at h
   subst h
   exact Zp2 hG.tab hG.ent hr
 · exact ZzD hG h
end
end
section
open Go B
abbrev Zcf:=FuncId→List Value→FH→Option (AEnd×FH)
def Zcu (call:Zcf) (callA:CallT):Prop:=∀ f args F e F',call f args F=some (e,F')→callA f args F.abs=some (e,F'.abs)
noncomputable def Zui (P:Program) (T:Tabs) (nb:Za9) (N:Nat) (call:Zcf) (df:Bool) (all:List Oper):List Oper→FSt→Option (AExit×FSt)
 | [],s=>some (.normal,s)
 | o::rest,s=>bif ZdV all s.n s.t o then
    bif Zbd o.op then match o.op with
     | .defer c=>bif df&&ZaO o.op.operands.toList then match ZnA T (ZeN s.n s.t) c,putF o.dst undef s.n s.t with
         | some d,some t=>Zui P T nb N call df all rest ⟨s.n,t,d::s.dfs,s.F⟩
         | _,_=>none
      else none
     | _=>none
    else match gop P T nb N s.F (ZeN s.n s.t) o.op with
     | some (.val v c)=>match c.onF s.F,putF o.dst v s.n s.t with
      | some F,some t=>Zui P T nb N call df all rest ⟨s.n,t,s.dfs,F⟩
      | _,_=>none
     | some (.skip c)=>match c.onF s.F,putF o.dst undef s.n s.t with
      | some F,some t=>Zui P T nb N call df all rest ⟨s.n,t,s.dfs,F⟩
      | _,_=>none
     | some (.enter f args)=>match call f args s.F with
      | some (.ret v,F)=>match putF o.dst v s.n s.t with
       | some t=>Zui P T nb N call df all rest ⟨s.n,t,s.dfs,F⟩
       | none=>none
      | some (.panic v,F)=>some (.panic v,⟨s.n,s.t,s.dfs,F⟩)
      | none=>none
     | some (.panic v)=>some (.panic v,s)
     | none=>none
  else match putF o.dst undef s.n s.t with
   | some t=>Zui P T nb N call df all rest ⟨s.n,t,s.dfs,s.F⟩
   | none=>none
noncomputable def Zix (P:Program) (T:Tabs) (nb:Za9) (N:Nat) (call:Zcf) (l:List Oper) (B:List Nat):List RdF→List Nat→FSt→Option (AExit×FSt)
 | R,[],s=>bif ZbB P T s.F R then some (.normal,s) else none
 | R,j::rest,s=>match l[j]? with
  | some o=>bif ZdV l s.n s.t o then match ZaS o.op with
   | .pure=>match gop P T nb N s.F (ZeN s.n s.t) o.op with
    | some (.val v .same)=>match putF o.dst v s.n s.t with
     | some t=>Zix P T nb N call l B R rest ⟨s.n,t,s.dfs,s.F⟩
     | none=>none
    | _=>none
   | .read=>match fop P T s.F.abs (ZeN s.n s.t) o.op with
    | some (.val v .same)=>match putF o.dst v s.n s.t with
     | some t=>Zix P T nb N call l B (.rd j o.op s.n s.t v::R) rest ⟨s.n,t,s.dfs,s.F⟩
     | none=>none
    | _=>none
   | .alloc=>match fop P T s.F.abs (ZeN s.n s.t) o.op with
    | some (.val v (.push ob))=>match (Chg.push ob).onF s.F,putF o.dst v s.n s.t with
     | some F,some t=>Zix P T nb N call l B (.al j s.F.next ob::R) rest ⟨s.n,t,s.dfs,F⟩
     | _,_=>none
    | _=>none
   | .effect=>bif ZbB P T s.F R then match gop P T nb N s.F (ZeN s.n s.t) o.op with
       | some (.val v c)=>match c.onF s.F,putF o.dst v s.n s.t with
        | some F,some t=>Zix P T nb N call l B (Zf1 B j R) rest ⟨s.n,t,s.dfs,F⟩
        | _,_=>none
       | some (.skip c)=>match c.onF s.F,putF o.dst undef s.n s.t with
        | some F,some t=>Zix P T nb N call l B (Zf1 B j R) rest ⟨s.n,t,s.dfs,F⟩
        | _,_=>none
       | some (.enter f args)=>match call f args s.F with
        | some (.ret v,F)=>match putF o.dst v s.n s.t with
         | some t=>Zix P T nb N call l B (Zf1 B j R) rest ⟨s.n,t,s.dfs,F⟩
         | none=>none
        | some (.panic v,F)=>some (.panic v,⟨0,.nil,s.dfs,F⟩)
        | none=>none
       | some (.panic v)=>some (.panic v,⟨0,.nil,s.dfs,s.F⟩)
       | _=>none
    else none
   else match putF o.dst undef s.n s.t with
    | some t=>bif ZaM o then bif ZbB P T s.F R then Zix P T nb N call l B (Zf1 B j R) rest ⟨s.n,t,s.dfs,s.F⟩ else none
     else Zix P T nb N call l B R rest ⟨s.n,t,s.dfs,s.F⟩
    | none=>none
  | none=>none
noncomputable def ZC1 (l:List Oper) (n:Nat) (t:VT) (i:Nat):Option Nat:=match l[i]? with
 | some o=>match o.op with
  | .store _ x _=>match ZeN n t x with
   | .pointer (some a)=>some a.block
   | _=>none
  | _=>none
 | none=>none
noncomputable def Zul (l:List Oper) (n:Nat) (t:VT) (e f:Nat):Bool:=match ZC1 l n t e,ZC1 l n t f with
 | some b,some c=>!(Nat.beq b c)
 | _,_=>false
noncomputable def ZzE (P:Program) (T:Tabs) (nb:Za9) (N:Nat) (call:Zcf) (ops:List Oper) (s:FSt):Option (AExit×FSt):=match Zpp ops with
 | some (e,f)=>match B.endsIn (Zbo (Zaj ops f e)) e f with
  | some _=>bif Zd4 ops e f&&storeAt (Zaj ops f e) e&&storeAt (Zaj ops f e) f then match Zix P T nb N call (Zaj ops f e) (Zbf (Zaj ops f e)) [] (Zbo (Zaj ops f e)) s with
      | some (.normal,s')=>bif Zul (Zaj ops f e) s'.n s'.t e f then some (.normal,s') else none
      | some (.panic v,s')=>some (.panic v,s')
      | _=>none
   else none
  | none=>none
 | none=>none
section
variable {P:Program} {T:Tabs} {nb:Za9} {N:Nat}
theorem Zd5 {call:CallT} {l:List Oper} {dfs:List ADef} {B:List Nat} {R:List Tr} {j:Nat} {rest:List Nat} {op:Oper} {w:Value} {tm:List Value} {H H':AHeap} (ho:l[j]?=some op) (hw:Zat l tm op=true) (hp:opA P H (aev tm) op.op op.type=some (.panic w H')∨∃ f args H1,opA P H (aev tm) op.op op.type=some (.enter f args H1)∧call f args H1=some (.panic w,H'))
    (hR:∀ t∈R,same P t H):Zdm P call l dfs B R (j::rest) tm H (.panic w) ⟨[],dfs,H'⟩:=by
 refine ⟨[],H,?_,trivial,fun t ht=>hR t ht⟩
 unfold ZaB
 rw [ho]
 dsimp only
 rw [if_pos hw,ZaE]
 rcases hp with hp | ⟨f,args,H1,hp,hc⟩
 · rw [hp]
 · rw [hp]
   dsimp only
   rw [hc]
theorem ZcZ (hG:GOK P T nb N) {call:Zcf} {callA:CallT} (hcall:Zcu call callA) {l:List Oper} {B:List Nat} {x:AExit} {s':FSt} :
    ∀ (plan:List Nat) (R:List RdF) (Ra:List Tr) (s:FSt),(∀ t∈Ra,∃ r∈R,RelR t r)→Zix P T nb N call l B R plan s=some (x,s')→Zdm P callA l s.dfs B Ra plan (tmL s.n s.t) s.F.abs x s'.abs
 | [],R,Ra,s,hR,h=>by
  unfold Zix at h
  cases hc:ZbB P T s.F R with
  | false=>rw [hc] at h;simp at h
  | true =>
   rw [hc,cond_true] at h
   simp only [Option.some.injEq,Prod.mk.injEq] at h
   obtain ⟨rfl,rfl⟩:=h
   refine Zjw fun t ht=>?_
   obtain ⟨r,hr,hrel⟩:=hR t ht
   exact ZiE hG.tab hG.ent (Zel hG.tab hG.ent hc r hr) hrel
 | j::rest,R,Ra,s,hR,h=>by
  have hRall:ZbB P T s.F R=true→(∀ t∈Ra,same P t s.F.abs∧(bit B j t.j=true∨t∈Ra.filter fun t=>!(bit B j t.j)))∧(∀ t∈Ra.filter (fun t=>!(bit B j t.j)),∃ r∈Zf1 B j R,RelR t r):=by
   intro hc
   constructor
   · intro t ht
     obtain ⟨r,hr,hrel⟩:=hR t ht
     refine ⟨ZiE hG.tab hG.ent (Zel hG.tab hG.ent hc r hr) hrel,?_⟩
     cases hb:bit B j t.j with
     | true=>exact .inl rfl
     | false=>exact .inr (List.mem_filter.2 ⟨ht,by simp [hb]⟩)
   · intro t ht
     obtain ⟨ht1,ht2⟩:=List.mem_filter.1 ht
     obtain ⟨r,hr,hrel⟩:=hR t ht1
     exact ⟨r,List.mem_filter.2 ⟨hr,by rw [←hrel.jj];exact ht2⟩,hrel⟩
  unfold Zix at h
  split at h
  case h_2=>simp at h
  rename_i o ho
  cases hw:ZdV l s.n s.t o with
  | false =>
   rw [hw,cond_false] at h
   rw [Zdn] at hw
   split at h
   case h_2=>simp at h
   rename_i t ht
   cases hk:ZaM o with
   | false =>
    rw [hk,cond_false] at h
    refine Zju ho hw hk ?_
    rw [ZcQ ht]
    exact ZcZ hG hcall rest R Ra _ hR h
   | true =>
    rw [hk,cond_true] at h
    cases hc:ZbB P T s.F R with
    | false=>rw [hc] at h;simp at h
    | true =>
     rw [hc,cond_true] at h
     obtain ⟨hR1,hR2⟩:=hRall hc
     refine Zhx ho hw hk hR1 ?_
     rw [ZcQ ht]
     exact ZcZ hG hcall rest _ _ _ hR2 h
  | true =>
   rw [hw,cond_true] at h
   rw [Zdn] at hw
   split at h
   · rename_i hk
     split at h
     case h_2=>simp at h
     rename_i v hf
     split at h
     case h_2=>simp at h
     rename_i t ht
     have hop:=Zf7 (ty:=o.type) hG hf
     rw [Zbj] at hop
     have ih:=ZcZ hG hcall rest R Ra _ hR h
     refine Zhw ho hw hk hop ?_
     rw [ZcQ ht];exact ih
   · rename_i hk
     split at h
     case h_2=>simp at h
     rename_i v hf
     split at h
     case h_2=>simp at h
     rename_i t ht
     have hop:=Zp2 (ty:=o.type) hG.tab hG.ent hf
     rw [Zbj] at hop
     refine Zdp ho hw (.inl hk) hop ?_
     rw [ZcQ ht]
     refine ZcZ hG hcall rest _ _ _ (fun t' ht'=>?_) h
     rcases List.mem_cons.1 ht' with rfl | ht'
     · exact ⟨_,List.mem_cons_self ..,rfl,hk,rfl,rfl,rfl⟩
     · obtain ⟨r,hr,hrel⟩:=hR t' ht'
       exact ⟨r,List.mem_cons_of_mem _ hr,hrel⟩
   · rename_i hk
     split at h
     case h_2=>simp at h
     rename_i v ob hf
     split at h
     case h_2=>simp at h
     rename_i F t hF ht
     have hop:=Zp2 (ty:=o.type) hG.tab hG.ent hf
     rw [Zbj] at hop
     have hFa:=Chg.onF_abs hF
     refine Zdp (H':=F.abs) ho hw (.inr hk) (by rw [hFa];exact hop) ?_
     rw [ZcQ ht]
     refine ZcZ hG hcall rest _ _ _ (fun t' ht'=>?_) h
     rcases List.mem_cons.1 ht' with rfl | ht'
     · refine ⟨_,List.mem_cons_self ..,rfl,hk,rfl,?_⟩
       show F.abs.get s.F.next=some ob
       rw [hFa]
       show (if s.F.next=s.F.abs.next then some ob else _)=some ob
       rw [if_pos (show s.F.next=s.F.abs.next from rfl)]
     · obtain ⟨r,hr,hrel⟩:=hR t' ht'
       exact ⟨r,List.mem_cons_of_mem _ hr,hrel⟩
   · rename_i hk
     cases hc:ZbB P T s.F R with
     | false=>rw [hc] at h;simp at h
     | true =>
      rw [hc,cond_true] at h
      obtain ⟨hR1,hR2⟩:=hRall hc
      split at h
      · rename_i v c hf
        split at h
        case h_2=>simp at h
        rename_i F t hF ht
        have hop:=Zf7 (ty:=o.type) hG hf
        rw [Zbj] at hop
        have hFa:=Chg.onF_abs hF
        refine Zjv (H':=F.abs) ho hw hk (by rw [hFa];exact hop) hR1 ?_
        rw [ZcQ ht]
        exact ZcZ hG hcall rest _ _ _ hR2 h
      · rename_i c hf
        split at h
        case h_2=>simp at h
        rename_i F t hF ht
        have hop:=Zf7 (ty:=o.type) hG hf
        rw [Zbj] at hop
        have hFa:=Chg.onF_abs hF
        refine Zhv (H':=F.abs) ho hw hk (by rw [hFa];exact hop) hR1 ?_
        rw [ZcQ ht]
        exact ZcZ hG hcall rest _ _ _ hR2 h
      · rename_i f args hf
        have hop:=Zf7 (ty:=o.type) hG hf
        rw [Zbj] at hop
        split at h
        · rename_i v F hF
          split at h
          case h_2=>simp at h
          rename_i t ht
          refine Zhy (H':=F.abs) ho hw hk hop (hcall _ _ _ _ _ hF) hR1 ?_
          rw [ZcQ ht]
          exact ZcZ hG hcall rest _ _ _ hR2 h
        · rename_i v F hF
          simp only [Option.some.injEq,Prod.mk.injEq] at h
          obtain ⟨rfl,rfl⟩:=h
          exact Zd5 ho hw (.inr ⟨f,args,_,hop,hcall _ _ _ _ _ hF⟩) fun t ht=>(hR1 t ht).1
        · simp at h
      · rename_i v hf
        have hop:=Zf7 (ty:=o.type) hG hf
        rw [Zbj] at hop
        simp only [Option.some.injEq,Prod.mk.injEq] at h
        obtain ⟨rfl,rfl⟩:=h
        exact Zd5 ho hw (.inl hop) fun t ht=>(hR1 t ht).1
      · simp at h
theorem Zhe {t:Tr} {y:Option (List Tr×AHeap×AExit×St)} {Tt:List Tr} {He:AHeap} {x:AExit} {s':St} (h:Zfs t y=some (Tt,He,x,s')):∃ T',Tt=t::T'∧y=some (T',He,x,s'):=by
 cases y with
 | none=>simp [Zfs] at h
 | some q =>
  obtain ⟨a,b,c,d⟩:=q
  simp only [Zfs,Option.some.injEq,Prod.mk.injEq] at h
  obtain ⟨rfl,rfl,rfl,rfl⟩:=h
  exact ⟨a,rfl,rfl⟩
theorem Zfa {call:CallT} {l:List Oper} {dfs:List ADef} {j:Nat} {rest:List Nat} {tm:List Value} {H:AHeap} {Tt:List Tr} {He:AHeap} {s':St} (h:ZaB P call l dfs (j::rest) tm H=some (Tt,He,.normal,s')) :
    ∃ o t T' v H',l[j]?=some o∧Tt=t::T'∧t.o=o∧t.tm=tm∧t.w=Zat l tm o∧ZaB P call l dfs rest (ZbX o.dst v tm) H'=some (T',He,.normal,s'):=by
 unfold ZaB at h
 split at h
 case h_1=>simp at h
 rename_i o ho
 split at h
 · rename_i hw
   split at h
   · obtain ⟨T',h1,h2⟩:=Zhe h
     exact ⟨o,_,T',_,_,ho,h1,rfl,rfl,hw.symm,h2⟩
   · obtain ⟨T',h1,h2⟩:=Zhe h
     exact ⟨o,_,T',_,_,ho,h1,rfl,rfl,hw.symm,h2⟩
   · split at h
     · obtain ⟨T',h1,h2⟩:=Zhe h
       exact ⟨o,_,T',_,_,ho,h1,rfl,rfl,hw.symm,h2⟩
     · simp at h
     · simp at h
   · simp at h
   · simp at h
 · rename_i hw
   obtain ⟨T',h1,h2⟩:=Zhe h
   exact ⟨o,_,T',_,_,ho,h1,rfl,rfl,by simpa using hw,h2⟩
theorem Zh3 {l:List Oper} {i:Nat} {o:Oper} (h:storeAt l i=true) (ho:l[i]?=some o):o.dst=none∧∀ tm,Zat l tm o=true:=by
 unfold storeAt at h
 rw [ho] at h
 dsimp only at h
 unfold ZiL at h
 split at h
 · rename_i hop hg hd
   exact ⟨hd,fun tm=>by unfold Zat;rw [hg]⟩
 · cases h
theorem Zh5 {call:CallT} {l:List Oper} {dfs:List ADef} {e f:Nat} (he:storeAt l e=true) (hf:storeAt l f=true):∀ (p:List Nat) (tm:List Value) (H:AHeap) (Tt:List Tr) (He:AHeap) (s':St),ZaB P call l dfs (p++[e,f]) tm H=some (Tt,He,.normal,s') →
    ∃ T' te tf oe of,Tt=T'++[te,tf]∧te.w=true∧tf.w=true∧l[e]?=some oe∧l[f]?=some of∧te.o=oe∧tf.o=of∧te.tm=s'.tmps∧tf.tm=s'.tmps
 | [],tm,H,Tt,He,s',h=>by
  obtain ⟨oe,te,T1,v1,H1,a1,a2,a3,a4,a5,a6⟩:=Zfa h
  obtain ⟨of,tf,T2,v2,H2,b1,b2,b3,b4,b5,b6⟩:=Zfa a6
  obtain ⟨c1,c2⟩:=Zh3 he a1
  obtain ⟨d1,d2⟩:=Zh3 hf b1
  rw [c1] at b4 b5 b6
  rw [d1] at b6
  simp only [ZaB,Option.some.injEq,Prod.mk.injEq] at b6
  obtain ⟨rfl,rfl,_,rfl⟩:=b6
  exact ⟨[],te,tf,oe,of,by rw [a2,b2];rfl,by rw [a5,c2],by rw [b5,d2],a1,b1,a3,b3,a4,b4⟩
 | j::p,tm,H,Tt,He,s',h=>by
  obtain ⟨o,t,T1,v,H1,a1,a2,a3,a4,a5,a6⟩:=Zfa (rest:=p++[e,f]) h
  obtain ⟨T',te,tf,oe,of,b1,b2⟩:=Zh5 he hf p _ _ _ _ _ a6
  exact ⟨t::T',te,tf,oe,of,by rw [a2,b1];rfl,b2⟩
theorem Zux {p q:List Nat} {e f:Nat} (h:B.endsIn p e f=some q):p=q++[e,f]:=by
 unfold B.endsIn at h
 split at h
 case h_2=>cases h
 rename_i b a r hr
 split at h
 case isFalse=>cases h
 rename_i hab
 simp only [Option.some.injEq] at h
 obtain ⟨rfl,rfl⟩:=hab
 have:=congrArg List.reverse hr
 rw [List.reverse_reverse] at this
 rw [this,←h]
 simp
theorem ZxH {l:List Oper} {n:Nat} {t:VT} {i b:Nat} {o:Oper} {u:Tr} (h:ZC1 l n t i=some b) (ho:l[i]?=some o) (hu:u.o=o) (ht:u.tm=tmL n t):ZCt u=some b:=by
 unfold ZC1 at h
 rw [ho] at h
 dsimp only at h
 rw [Zbj] at h
 unfold ZCt
 rw [hu,ht]
 exact h
theorem Zv3 (hG:GOK P T nb N) {call:Zcf} {callA:CallT} (hcall:Zcu call callA) {ops:List Oper} {s:FSt} {x:AExit} {s':FSt} (h:ZzE P T nb N call ops s=some (x,s')):ZbK P callA ops s.abs=some (x,s'.abs):=by
 unfold ZzE at h
 split at h
 case h_2=>cases h
 rename_i e f hsw
 split at h
 case h_2=>cases h
 rename_i q hq
 cases hc:Zd4 ops e f&&storeAt (Zaj ops f e) e&&storeAt (Zaj ops f e) f with
 | false=>rw [hc] at h;cases h
 | true =>
  rw [hc,cond_true] at h
  rw [Bool.and_eq_true,Bool.and_eq_true] at hc
  obtain ⟨⟨hst,he⟩,hf⟩:=hc
  unfold ZbK
  rw [hsw]
  dsimp only
  unfold ZeG
  split at h
  · rename_i s1 hp
    cases ha:Zul (Zaj ops f e) s1.n s1.t e f with
    | false=>rw [ha] at h;cases h
    | true =>
     rw [ha,cond_true] at h
     simp only [Option.some.injEq,Prod.mk.injEq] at h
     obtain ⟨rfl,rfl⟩:=h
     obtain ⟨Tt,He,h1,h2,_⟩:=ZcZ hG hcall _ [] [] _ (fun t ht=>by simp at ht) hp
     have h1':ZaB P callA (Zaj ops f e) s.abs.dfs (Zbo (Zaj ops f e)) s.abs.tmps s.abs.H=some (Tt,He,.normal,s1.abs):=h1
     rw [h1']
     dsimp only
     rw [if_pos]
     refine ⟨hst,h2,fun _=>?_⟩
     rw [Zux hq] at h1
     obtain ⟨T',te,tf,oe,of,b1,b2,b3,b4,b5,b6,b7,b8,b9⟩:=Zh5 he hf _ _ _ _ _ _ h1
     unfold Zul at ha
     split at ha
     case h_2=>cases ha
     rename_i b c hb hcc
     refine ⟨T',te,tf,b,c,b1,b2,b3,ZxH hb b4 b6 b8,ZxH hcc b5 b7 b9,fun hbc=>?_⟩
     rw [hbc,Nat.beq_refl] at ha
     cases ha
  · rename_i v s1 hp
    simp only [Option.some.injEq,Prod.mk.injEq] at h
    obtain ⟨rfl,rfl⟩:=h
    obtain ⟨Tt,He,h1,h2,_⟩:=ZcZ hG hcall _ [] [] _ (fun t ht=>by simp at ht) hp
    have h1':ZaB P callA (Zaj ops f e) s.abs.dfs (Zbo (Zaj ops f e)) s.abs.tmps s.abs.H=some (Tt,He,.panic v,s1.abs):=h1
    rw [h1']
    dsimp only
    rw [if_pos]
    exact ⟨hst,h2,fun hx=>by cases hx⟩
  · cases h
end
end
section
open Go B
noncomputable def ZaY (P:Program) (all:List Oper):List Oper→B.Mode→St→Option (AExit×B.Mode×St)
 | [],m,s=>some (.normal,m,s)
 | o::rest,m,s =>
    if Zat all s.tmps o then
     if Zbv o then if o.op.operands.all Zaa then ZaY P all rest (Zcb m).2 { s with tmps:=ZbX o.dst (Zcb m).1 s.tmps } else none
     else match opA P s.H (aev s.tmps) o.op o.type with
      | some (.val v H)=>ZaY P all rest m { s with tmps:=ZbX o.dst v s.tmps,H:=H }
      | some (.skip H)=>ZaY P all rest m { s with tmps:=ZbX o.dst undef s.tmps,H:=H }
      | some (.panic v H)=>some (.panic v,m,{ s with H:=H })
      | _=>none
    else ZaY P all rest m { s with tmps:=ZbX o.dst undef s.tmps }
section
variable {P:Program} {T:Tabs} {nb:Za9} {N:Nat}
theorem ZcH {ops:List Oper}:∀ (n k:Nat) (m:B.Mode) (s:St),k+n=ops.length→Zby P ops (List.range' k n) m s=ZaY P ops (ops.drop k) m s
 | 0,k,m,s,h=>by rw [List.drop_of_length_le (by omega)];rfl
 | n+1,k,m,s,h=>by
  have hk:k<ops.length:=by omega
  rw [List.range'_succ,List.drop_eq_getElem_cons hk]
  unfold Zby
  rw [List.getElem?_eq_getElem hk]
  conv=>rhs;unfold ZaY
  have ih:=fun m s=>ZcH (ops:=ops) n (k+1) m s (by omega)
  simp only [ZaE,ih]
  split
  · split
    · rfl
    · cases opA P s.H (aev s.tmps) ops[k].op ops[k].type with
      | none=>rfl
      | some r=>cases r<;>rfl
  · rfl
theorem Zfr {ops:List Oper} {m:B.Mode} {s:St} {n:Nat} (hn:n=ops.length):Zby P ops (List.range n) m s=ZaY P ops ops m s:=by
 have:=ZcH (P:=P) (ops:=ops) n 0 m s (by omega)
 rw [List.drop_zero] at this
 rw [←this,List.range_eq_range']
end
noncomputable def Zig (P:Program) (T:Tabs) (nb:Za9) (N:Nat) (all:List Oper):List Oper→B.Mode→FSt→Option (AExit×B.Mode×FSt)
 | [],m,s=>some (.normal,m,s)
 | o::rest,m,s=>bif ZdV all s.n s.t o then
    bif Zbv o then bif ZaO o.op.operands.toList then match putF o.dst (Zcb m).1 s.n s.t with
        | some t=>Zig P T nb N all rest (Zcb m).2 ⟨s.n,t,s.dfs,s.F⟩
        | none=>none
     else none
    else match gop P T nb N s.F (ZeN s.n s.t) o.op with
     | some (.val v c)=>match c.onF s.F,putF o.dst v s.n s.t with
      | some F,some t=>Zig P T nb N all rest m ⟨s.n,t,s.dfs,F⟩
      | _,_=>none
     | some (.skip c)=>match c.onF s.F,putF o.dst undef s.n s.t with
      | some F,some t=>Zig P T nb N all rest m ⟨s.n,t,s.dfs,F⟩
      | _,_=>none
     | some (.panic v)=>some (.panic v,m,s)
     | _=>none
  else match putF o.dst undef s.n s.t with
   | some t=>Zig P T nb N all rest m ⟨s.n,t,s.dfs,s.F⟩
   | none=>none
def Zv4 (m:B.Mode):Option (AExit×FSt)→Option (AExit×B.Mode×FSt)
 | some (x,s)=>some (x,m,s)
 | none=>none
abbrev Zkl:=Code→FSt→Option (AExit×FSt)
noncomputable def gS (P:Program) (T:Tabs) (nb:Za9) (N:Nat) (code:Zkl):Code→B.Mode→FSt→Option (AExit×B.Mode×FSt)
 | .seq a b,m,s=>match gS P T nb N code a m s with
  | some (.normal,m1,s1)=>gS P T nb N code b m1 s1
  | r=>r
 | .cond c a b,m,s=>bif Zaa c then match ZeN s.n s.t c with
     | .bool true=>gS P T nb N code a m s
     | .bool false=>gS P T nb N code b m s
     | _=>none
  else none
 | .region id ops draw,m,s=>bif !draw&&ops.toList.any Zbv then Zig P T nb N ops.toList ops.toList m s else Zv4 m (code (.region id ops draw) s)
 | c,m,s=>Zv4 m (code c s)
noncomputable def ZoO (T:Tabs) (fn:Func):Option (AExit×B.Mode×FSt)→Option (B.Mode×FH)
 | some (.normal,m,⟨n,tm,[],F⟩)=>match ZcB T F.abs n tm fn.results.toList with
  | some _=>some (ZdW m,F)
  | none=>none
 | some (.ret,m,⟨n,tm,[],F⟩)=>match ZcB T F.abs n tm fn.results.toList with
  | some _=>some (ZdW m,F)
  | none=>none
 | _=>none
noncomputable def Zfn (P:Program) (T:Tabs) (nb:Za9) (N:Nat) (code:Zkl):List ADef→B.Mode→FH→Option (B.Mode×FH)
 | [],m,F=>some (m,F)
 | d::ds,m,F=>match T.func d.f with
  | some fn=>match fn.body,Zjb fn d.args F with
   | some c,some s0=>match ZoO T fn (gS P T nb N code c m s0) with
    | some (m1,F1)=>Zfn P T nb N code ds m1 F1
    | none=>none
   | _,_=>none
  | none=>none
noncomputable def ZCb (T:Tabs) (rs:List ResultVar) (n:Nat) (tm:VT):Option (B.Mode×FH)→Option (AEnd×FH)
 | some (none,F)=>match ZcB T F.abs n tm rs with
  | some vs=>some (.ret (Zly vs),F)
  | none=>none
 | some (some (v,false),F)=>some (.panic v,F)
 | _=>none
noncomputable def Zxy:Option (B.Mode×FH)→Option (AEnd×FH)
 | some (some (v,false),F)=>some (.panic v,F)
 | _=>none
noncomputable def Zp1 (P:Program) (T:Tabs) (nb:Za9) (N:Nat) (code:Zkl) (rs:List ResultVar):Option (AExit×FSt)→Option (AEnd×FH)
 | some (.normal,⟨n,tm,ds,F⟩)=>ZCb T rs n tm (Zfn P T nb N code ds none F)
 | some (.ret,⟨n,tm,ds,F⟩)=>ZCb T rs n tm (Zfn P T nb N code ds none F)
 | some (.panic v,⟨_,_,[],F⟩)=>some (.panic v,F)
 | some (.panic v,⟨n,tm,d::ds,F⟩)=>bif Nat.blt 0 n then ZCb T rs n tm (Zfn P T nb N code (d::ds) (some (v,false)) F) else Zxy (Zfn P T nb N code (d::ds) (some (v,false)) F)
 | _=>none
def Zt7:LoopState→Bool
 | .ready=>true
 | _=>false
def ZtD:LoopState→Bool
 | .busy=>false
 | _=>true
noncomputable def ZoN (K:Nat):Option (AExit×FSt)→Option (AEnd×FH)
 | some (x,s2)=>match Zia x with
  | some j=>match s2.F.t.get K with
   | some (.loop r2)=>match (Chg.set K (.loop { r2 with state:=bif j.isNone then .ready else .done,pending:=j })).onF s2.F with
    | some F=>some (.ret (.bool j.isNone),F)
    | none=>none
   | _=>none
  | none=>none
 | none=>none
noncomputable def Zk6 {α:Type}:Nat→Nat→(Nat→α)→α
 | 0,n,k=>k n
 | f+1,n,k=>bif Nat.beq n 0 then k 0 else bif Nat.beq (n % 2) 1 then Zk6 f (n / 2) (fun m=>k (2*m+1)) else Zk6 f (n / 2) (fun m=>k (2*m))
theorem ZjR {α:Type}:∀ (f n:Nat) (k:Nat→α),Zk6 f n k=k n
 | 0,n,k=>rfl
 | f+1,n,k=>by
  unfold Zk6
  by_cases h0:n=0
  · subst h0;rfl
  · rw [Zez h0,cond_false,ZjR f,ZjR f]
    by_cases h1:n % 2=1
    · rw [h1];show k (2*(n / 2)+1)=_;congr 1;omega
    · rw [Zez h1,cond_false];congr 1;omega
noncomputable def Zug (code:Zkl) (K:Nat) (args:List Value) (F:FH):Option (AEnd×FH):=match F.t.get K with
 | some (.loop r)=>bif Nat.ble (Ze6 r.params.toList args r.tmps).length 256 then match Zk6 20 (Ze6 r.params.toList args r.tmps).length (fun n=>code r.assign ⟨n,Ziy 0 (Ze6 r.params.toList args r.tmps) .nil,[],F⟩) with
     | some (.normal,s1)=>match s1.F.t.get K with
      | some (.loop r1)=>bif Zt7 r1.state then match (Chg.set K (.loop { r1 with state:=.busy })).onF s1.F with
          | some F1=>ZoN K (Zk6 20 s1.n fun n=>code r.body ⟨n,s1.t,s1.dfs,F1⟩)
          | none=>none
       else none
      | _=>none
     | _=>none
  else none
 | _=>none
noncomputable def Zm5 (K:Nat) (s:FSt):Option (AEnd×FH)→Option (AExit×FSt)
 | some (.ret _,F)=>match F.t.get K with
  | some (.loop r)=>bif ZtD r.state then match Znn r.pending with
      | some x=>match (Chg.set K (.loop { r with state:=.exhausted })).onF F with
       | some F1=>some (x,⟨s.n,s.t,s.dfs,F1⟩)
       | none=>none
      | none=>none
   else none
  | _=>none
 | _=>none
noncomputable def Zp0 (T:Tabs) (call:Zcf) (g:Operand) (ps:Array Tmp) (as body:Code) (s:FSt):Option (AExit×FSt):=bif Zaa g then match ZeN s.n s.t g with
    | .func (.func f) first cap=>match T.func f with
     | some _=>match (Chg.push (.loop ⟨.ready,none,tmL s.n s.t,ps,as,body⟩)).onF s.F with
      | some F1=>Zm5 s.F.next s (call f (first.toList++[.func (.yield s.F.next) #[] #[]]++cap.toList) F1)
      | none=>none
     | none=>none
    | _=>none
 else none
section
variable {P:Program} {T:Tabs} {nb:Za9} {N:Nat} {ext:CallT}
theorem Zfo (hG:GOK P T nb N) {all:List Oper} {x:AExit} {m':B.Mode} {s':FSt}:∀ (l:List Oper) (m:B.Mode) (s:FSt),Zig P T nb N all l m s=some (x,m',s')→ZaY P all l m s.abs=some (x,m',s'.abs)
 | [],m,s,h=>by simp only [Zig,Option.some.injEq,Prod.mk.injEq] at h;obtain ⟨rfl,rfl,rfl⟩:=h;rfl
 | o::rest,m,s,h=>by
  unfold Zig at h
  unfold ZaY
  rw [Zdn,Zbj] at h
  have habs:s.abs=⟨tmL s.n s.t,s.dfs,s.F.abs⟩:=rfl
  rw [habs]
  dsimp only
  cases hw:Zat all (tmL s.n s.t) o with
  | false =>
   rw [hw,cond_false] at h
   rw [if_neg (by simp)]
   split at h
   case h_2=>simp at h
   rename_i t ht
   rw [ZcQ ht]
   exact Zfo hG rest _ _ h
  | true =>
   rw [hw,cond_true] at h
   rw [if_pos rfl]
   cases hr:Zbv o with
   | true =>
    rw [hr,cond_true] at h
    rw [if_pos rfl]
    cases hc:ZaO o.op.operands.toList with
    | false=>rw [hc] at h;cases h
    | true =>
     rw [hc,cond_true] at h
     rw [Zas] at hc
     split at h
     case h_2=>cases h
     rename_i t ht
     rw [if_pos (by simpa using hc),ZcQ ht]
     exact Zfo hG rest _ _ h
   | false =>
    rw [hr,cond_false] at h
    rw [if_neg (by simp)]
    split at h
    · rename_i v c hf
      split at h
      case h_2=>cases h
      rename_i F t hF ht
      rw [Zf7 (ty:=o.type) hG hf]
      show ZaY P all rest m ⟨ZbX o.dst v (tmL s.n s.t),s.dfs,c.onA s.F.abs⟩=_
      rw [←Chg.onF_abs hF,ZcQ ht]
      exact Zfo hG rest _ _ h
    · rename_i c hf
      split at h
      case h_2=>cases h
      rename_i F t hF ht
      rw [Zf7 (ty:=o.type) hG hf]
      show ZaY P all rest m ⟨ZbX o.dst undef (tmL s.n s.t),s.dfs,c.onA s.F.abs⟩=_
      rw [←Chg.onF_abs hF,ZcQ ht]
      exact Zfo hG rest _ _ h
    · rename_i v hf
      simp only [Option.some.injEq,Prod.mk.injEq] at h
      obtain ⟨rfl,rfl,rfl⟩:=h
      rw [Zf7 (ty:=o.type) hG hf]
      rfl
    · cases h
def ZhU (P:Program) (ext:CallT) (rnd:Bool) (code:Zkl):Prop:=∀ c s x s',code c s=some (x,s')→Zap P ext rnd c s.abs=some (x,s'.abs)
theorem ZcF {code:Zkl} (hc:ZhU P ext false code) {c:Code} {m:B.Mode} {s:FSt} {x:AExit} {m':B.Mode} {s':FSt} (h:Zv4 m (code c s)=some (x,m',s')):Zfk m (Zap P ext false c s.abs)=some (x,m',s'.abs):=by
 cases he:code c s with
 | none=>rw [he] at h;cases h
 | some q =>
  obtain ⟨x1,s1⟩:=q
  rw [he] at h
  simp only [Zv4,Option.some.injEq,Prod.mk.injEq] at h
  obtain ⟨rfl,rfl,rfl⟩:=h
  rw [hc _ _ _ _ he];rfl
theorem ZEq (hG:GOK P T nb N) {code:Zkl} (hc:ZhU P ext false code):∀ (c:Code) (m:B.Mode) (s:FSt) (x:AExit) (m':B.Mode) (s':FSt),gS P T nb N code c m s=some (x,m',s')→ZbA P (Zap P ext false) c m s.abs=some (x,m',s'.abs):=by
 intro c
 induction c with
 | seq a b iha ihb =>
  intro m s x m' s' h
  rw [gS] at h
  rw [ZbA]
  split at h
  · rename_i m1 s1 h1
    rw [iha _ _ _ _ _ h1]
    exact ihb _ _ _ _ _ h
  · rename_i hne
    rw [iha _ _ _ _ _ h]
    cases x<;>first | exact absurd h (hne _ _) | rfl
 | cond q a b iha ihb =>
  intro m s x m' s' h
  rw [gS] at h
  rw [ZbA]
  cases hq:Zaa q with
  | false=>rw [hq] at h;cases h
  | true =>
   rw [hq,cond_true] at h
   rw [if_pos rfl]
   split at h
   · rename_i hv
     rw [Zbj] at hv
     have hv':aev s.abs.tmps q=.bool true:=hv
     rw [hv']
     exact iha _ _ _ _ _ h
   · rename_i hv
     rw [Zbj] at hv
     have hv':aev s.abs.tmps q=.bool false:=hv
     rw [hv']
     exact ihb _ _ _ _ _ h
   · cases h
 | region id ops draw =>
  intro m s x m' s' h
  rw [gS] at h
  rw [ZbA]
  cases hb:!draw&&ops.toList.any Zbv with
  | true =>
   rw [hb,cond_true] at h
   rw [Bool.and_eq_true,Bool.not_eq_true'] at hb
   rw [if_pos hb,Zfr (by simp)]
   exact Zfo hG _ _ _ h
  | false =>
   rw [hb,cond_false] at h
   rw [if_neg]
   · exact ZcF hc h
   · rintro ⟨h1,h2⟩
     rw [h1,h2] at hb;cases hb
 | skip=>intro m s x m' s' h;exact ZcF hc h
 | block _ _ _=>intro m s x m' s' h;exact ZcF hc h
 | loop _ _=>intro m s x m' s' h;exact ZcF hc h
 | exit _=>intro m s x m' s' h;exact ZcF hc h
 | ret=>intro m s x m' s' h;exact ZcF hc h
 | label _=>intro m s x m' s' h;exact ZcF hc h
 | rangeFunc _ _ _ _ _ _=>intro m s x m' s' h;exact ZcF hc h
 | scope _ _=>intro m s x m' s' h;exact ZcF hc h
 | goto _=>intro m s x m' s' h;exact ZcF hc h
 | refuse _=>intro m s x m' s' h;exact ZcF hc h
theorem Zrf (hG:GOK P T nb N) {fn:Func} {y:Option (AExit×B.Mode×FSt)} {z:Option (AExit×B.Mode×St)} (hz:∀ x m s,y=some (x,m,s)→z=some (x,m,s.abs)) {m':B.Mode} {F':FH} (h:ZoO T fn y=some (m',F')):Zd8 P fn z=some (m',F'.abs):=by
 unfold ZoO at h
 split at h
 · rename_i m n tm F
   rw [hz _ _ _ rfl]
   split at h
   case h_2=>cases h
   rename_i vs hvs
   simp only [Option.some.injEq,Prod.mk.injEq] at h
   obtain ⟨rfl,rfl⟩:=h
   have hr:=Zdw hG.tab _ _ hvs
   unfold Zd8 FSt.abs;dsimp only;rw [hr]
 · rename_i m n tm F
   rw [hz _ _ _ rfl]
   split at h
   case h_2=>cases h
   rename_i vs hvs
   simp only [Option.some.injEq,Prod.mk.injEq] at h
   obtain ⟨rfl,rfl⟩:=h
   have hr:=Zdw hG.tab _ _ hvs
   unfold Zd8 FSt.abs;dsimp only;rw [hr]
 · cases h
theorem Zec (hG:GOK P T nb N) {code:Zkl} (hc:ZhU P ext false code) {m':B.Mode} {F':FH}:∀ (ds:List ADef) (m:B.Mode) (F:FH),Zfn P T nb N code ds m F=some (m',F')→ZaL P (Zap P ext false) ds m F.abs=some (m',F'.abs)
 | [],m,F,h=>by simp only [Zfn,Option.some.injEq,Prod.mk.injEq] at h;obtain ⟨rfl,rfl⟩:=h;rfl
 | d::ds,m,F,h=>by
  unfold Zfn at h
  unfold ZaL
  split at h
  case h_2=>cases h
  rename_i fn hfn
  split at h
  case h_2=>cases h
  rename_i c s0 hb hs0
  split at h
  case h_2=>cases h
  rename_i m1 F1 h1
  have:ZbL P (Zap P ext false) d m F.abs=some (m1,F1.abs):=by
   unfold ZbL
   rw [hG.tab.func _ _ hfn]
   dsimp only
   rw [hb]
   dsimp only
   rw [Zmy hs0]
   exact Zrf hG (fun x m s hx=>ZEq hG hc _ _ _ _ _ _ hx) h1
  rw [this]
  exact Zec hG hc ds _ _ h
theorem ZoP (hG:GOK P T nb N) {rs:List ResultVar} {n:Nat} {tm:VT} {y:Option (B.Mode×FH)} {z:Option (B.Mode×AHeap)} (hz:∀ m F,y=some (m,F)→z=some (m,F.abs)) {e:AEnd} {F':FH} (h:ZCb T rs n tm y=some (e,F')):ZkD P rs (tmL n tm) z=some (e,F'.abs):=by
 unfold ZCb at h
 split at h
 · rename_i F
   rw [hz _ _ rfl]
   split at h
   case h_2=>cases h
   rename_i vs hvs
   simp only [Option.some.injEq,Prod.mk.injEq] at h
   obtain ⟨rfl,rfl⟩:=h
   unfold ZkD
   dsimp only
   rw [Zdw hG.tab _ _ hvs]
 · rename_i v F
   rw [hz _ _ rfl]
   simp only [Option.some.injEq,Prod.mk.injEq] at h
   obtain ⟨rfl,rfl⟩:=h
   rfl
 · cases h
theorem Zuj (hG:GOK P T nb N) {code:Zkl} (hc:ZhU P ext false code) {rs:List ResultVar} {x:AExit} {s:FSt} {e:AEnd} {F':FH} (h:Zp1 P T nb N code rs (some (x,s))=some (e,F')):Zb6 P (Zap P ext false) rs (some (x,s.abs))=some (e,F'.abs):=by
 obtain ⟨n,tm,ds,F⟩:=s
 cases x with
 | normal =>
  rw [ZfL (.inl rfl)]
  exact ZoP hG (fun m F1 h1=>Zec hG hc _ _ _ h1) h
 | ret =>
  rw [ZfL (.inr rfl)]
  exact ZoP hG (fun m F1 h1=>Zec hG hc _ _ _ h1) h
 | exit i=>cases h
 | panic v =>
  cases ds with
  | nil =>
   simp only [Zp1,Option.some.injEq,Prod.mk.injEq] at h
   obtain ⟨rfl,rfl⟩:=h
   rfl
  | cons d ds =>
   rw [Zp1] at h
   cases hn:Nat.blt 0 n with
   | false =>
    rw [hn,cond_false] at h
    have h0:n=0:=by
     have:¬0<n:=by intro hh;rw [show Nat.blt 0 n=true by simpa using hh] at hn;cases hn
     omega
    subst h0
    unfold Zxy at h
    split at h
    case h_2=>cases h
    rename_i v' F1 hu
    simp only [Option.some.injEq,Prod.mk.injEq] at h
    obtain ⟨rfl,rfl⟩:=h
    have key:=Zec hG hc _ _ _ hu
    show ZkO (ZaL P (Zap P ext false) (d::ds) (some (v,false)) F.abs)=_
    rw [key];rfl
   | true =>
    rw [hn,cond_true] at h
    have hl:(tmL n tm).length=n:=by simp [tmL]
    have h0:0<n:=by simpa using hn
    have key:=ZoP hG (fun m F1 h1=>Zec hG hc _ _ _ h1) h
    show Zb6 P (Zap P ext false) rs (some (.panic v,⟨tmL n tm,d::ds,F.abs⟩))=_
    cases ht:tmL n tm with
    | nil=>rw [ht] at hl;simp at hl;omega
    | cons a l=>rw [ht] at key;exact key
theorem Zre {K:Nat} {y:Option (AExit×FSt)} {z:Option (AExit×St)} (hz:∀ x s,y=some (x,s)→z=some (x,s.abs)) {e:AEnd} {F':FH} (h:ZoN K y=some (e,F')):Zfb K z=some (e,F'.abs):=by
 unfold ZoN at h
 split at h
 case h_2=>cases h
 rename_i x s2
 rw [hz _ _ rfl]
 split at h
 case h_2=>cases h
 rename_i j hj
 split at h
 case h_2=>cases h
 rename_i r2 hr2
 split at h
 case h_2=>cases h
 rename_i F hF
 simp only [Option.some.injEq,Prod.mk.injEq] at h
 obtain ⟨rfl,rfl⟩:=h
 unfold Zfb
 dsimp only
 rw [hj]
 dsimp only
 have:s2.abs.H.get K=some (.loop r2):=hr2
 rw [this]
 dsimp only
 rw [Chg.onF_abs hF]
 show _=some (AEnd.ret _,s2.F.abs.set K _)
 cases j<;>rfl
theorem Zvl {l:List Value} (h:l.length≤256):tmL l.length (Ziy 0 l .nil)=l:=by
 rw [Zpm (Nat.le_refl _) h,Nat.sub_self,List.replicate_zero,List.append_nil]
theorem Zuf (hG:GOK P T nb N) (hx:∀ K args H,ext (P.funcs.size+K) args H=none) {code:Zkl} (hc:ZhU P ext true code) {K:Nat} {args:List Value} {F:FH} {e:AEnd} {F':FH} (h:Zug code K args F=some (e,F')):Zaw P ext (N+K) args F.abs=some (e,F'.abs):=by
 unfold Zug at h
 simp only [ZjR] at h
 split at h
 case h_2=>cases h
 rename_i r hr
 have hr':F.abs.get K=some (.loop r):=hr
 rw [←hG.size,ZgN (hx _ _ _) hr']
 generalize hl:Ze6 r.params.toList args r.tmps=l at h
 cases hb:Nat.ble l.length 256 with
 | false=>rw [hb] at h;cases h
 | true =>
  rw [hb,cond_true] at h
  have hle:=Nat.le_of_ble_eq_true hb
  split at h
  case h_2=>cases h
  rename_i s1 h1
  have h2:=hc _ _ _ _ h1
  have habs:(FSt.mk l.length (Ziy 0 l .nil) [] F).abs=⟨l,[],F.abs⟩:=by
   unfold FSt.abs;rw [Zvl hle]
  rw [habs] at h2
  rw [h2]
  split at h
  case h_2=>cases h
  rename_i r1 hr1
  cases hs:Zt7 r1.state with
  | false=>rw [hs] at h;cases h
  | true =>
   rw [hs,cond_true] at h
   split at h
   case h_2=>cases h
   rename_i F1 hF1
   have hst:r1.state=.ready:=by
    revert hs
    cases r1.state<;>intro hs<;>first | rfl | cases hs
   unfold Zdv
   dsimp only
   have:s1.abs.H.get K=some (.loop r1):=hr1
   rw [this]
   dsimp only
   rw [if_pos hst]
   refine Zre (fun x s hx=>?_) h
   have h3:=hc _ _ _ _ hx
   have e1:(FSt.mk s1.n s1.t s1.dfs F1).abs=⟨s1.abs.tmps,s1.abs.dfs,s1.abs.H.set K (.loop { r1 with state:=.busy })⟩:=by
    unfold FSt.abs;rw [Chg.onF_abs hF1];rfl
   rw [e1] at h3
   exact h3
theorem Zuh (hG:GOK P T nb N) {call:Zcf} (hcall:Zcu call (Zaw P ext)) {g:Operand} {ps:Array Tmp} {as body:Code} {s:FSt} {x:AExit} {s':FSt} (h:Zp0 T call g ps as body s=some (x,s')):Zap P ext false (.rangeFunc g ps as body) s.abs=some (x,s'.abs):=by
 unfold Zp0 at h
 cases hg:Zaa g with
 | false=>rw [hg] at h;cases h
 | true =>
  rw [hg,cond_true] at h
  rw [Zbj] at h
  split at h
  case h_2=>cases h
  rename_i f first cap hv
  split at h
  case h_2=>cases h
  rename_i fn hfn
  split at h
  case h_2=>cases h
  rename_i F1 hF1
  have he:=hG.ent _ _ hfn
  unfold ZcP at he
  rw [hG.tab.func _ _ hfn] at he
  rw [ZgJ]
  have hrc:ZbV P s.abs g ps as body=some (f,first.toList++[.func (.yield s.F.next) #[] #[]]++cap.toList,F1.abs):=by
   unfold ZbV
   rw [if_pos hg]
   have hv':aev s.abs.tmps g=.func (.func f) first cap:=hv
   rw [hv']
   dsimp only
   rw [hG.tab.func _ _ hfn]
   dsimp only
   rw [if_pos he,Chg.onF_abs hF1]
   rfl
  rw [hrc]
  dsimp only
  cases hcl:call f (first.toList++[.func (.yield s.F.next) #[] #[]]++cap.toList) F1 with
  | none=>rw [hcl] at h;cases h
  | some q =>
   obtain ⟨e,F2⟩:=q
   rw [hcl] at h
   rw [hcall _ _ _ _ _ hcl]
   unfold Zm5 at h
   split at h
   case h_2=>cases h
   rename_i v F3 heq
   simp only [Option.some.injEq,Prod.mk.injEq] at heq
   obtain ⟨rfl,rfl⟩:=heq
   split at h
   case h_2=>cases h
   rename_i r hr
   cases hs:ZtD r.state with
   | false=>rw [hs] at h;cases h
   | true =>
    rw [hs,cond_true] at h
    have hst:¬r.state=.busy:=by
     intro hh
     rw [hh] at hs
     cases hs
    split at h
    case h_2=>cases h
    rename_i x0 hx0
    split at h
    case h_2=>cases h
    rename_i F4 hF4
    simp only [Option.some.injEq,Prod.mk.injEq] at h
    obtain ⟨rfl,rfl⟩:=h
    unfold Zcc
    dsimp only
    have hr':F2.abs.get s.abs.H.next=some (.loop r):=hr
    rw [hr']
    dsimp only
    rw [if_neg hst,hx0]
    dsimp only
    unfold FSt.abs
    rw [Chg.onF_abs hF4]
    rfl
end
end
section
open Go B
def ZB6 (c:UInt8):List UInt8→Nat→Int
 | [],_=>-1
 | b::l,k=>bif ZrS b c then Int.ofNat k else ZB6 c l (k+1)
theorem Zvi (a b:UInt8):ZrS a b=(a == b):=by
 unfold ZrS
 cases h:a == b with
 | true =>
  have:a=b:=by simpa using h
  rw [this];simp
 | false =>
  have:a≠b:=by simpa using h
  exact Zez fun e=>this (UInt8.toNat_inj.1 e)
def ZEo (s:ByteArray) (c:UInt8) (l:List Nat):Int:=match l.find? fun i=>s[i]! == c with
 | some i=>Int.ofNat i
 | none=>-1
theorem Zud (s:ByteArray) (c:UInt8):∀ (n k:Nat),k+n=s.data.toList.length→ZEo s c (List.range' k n)=ZB6 c (s.data.toList.drop k) k
 | 0,k,h=>by rw [List.drop_of_length_le (by omega)];rfl
 | n+1,k,h=>by
  have hk:k<s.data.toList.length:=by omega
  have ih:=Zud s c n (k+1) (by omega)
  have hg:s[k]! = s.data.toList[k]:=by
   have hs:k<s.size:=hk
   rw [getElem!_pos s k hs]
   rfl
  rw [List.range'_succ,List.drop_eq_getElem_cons hk]
  unfold ZB6
  rw [Zvi,←hg,←ih]
  unfold ZEo
  rw [List.find?_cons]
  cases s[k]! == c<;>rfl
theorem ZmL {P:Program} {ev:Mark}:Zaf P (mark ev:Sem Unit)=some ():=rfl
theorem Zmc {P:Program} {g:FuncId} {fn:Func} (hf:P.funcs[g]?=some fn) (hn:(fn.name == "runtime.NumGoroutine")=false) (hb:fn.body.isNone=true) (h1:(Extern.findNext fn).isNone=true) {e:Array Value→Sem Value} (h2:Extern.find fn=some e) {args:Array Value} {v:Value} (hv:Zaf P (e args)=some v) :
    Zaf P (callFunc g args)=some (.value v):=by
 unfold callFunc
 have ep:Zaf P (program:Sem Program)=some P:=rfl
 rw [Zac ep,hf]
 dsimp only
 rw [hn]
 simp only [Bool.false_eq_true,if_false,hb,if_true]
 rw [Zac ZmL]
 cases hq:Extern.findNext fn with
 | some q=>rw [hq] at h1;cases h1
 | none =>
  dsimp only
  rw [h2]
  dsimp only
  exact Zew hv
theorem ZlR {P:Program} {s:ByteArray} {c:Int}:Zaf P (Extern.BytealgIndexByte.indexByte #[.string s,.int .u8 c])=some (.int .i64 (ZB6 c.toNat.toUInt8 s.data.toList 0)):=by
 unfold Extern.BytealgIndexByte.indexByte
 have h1:Zaf P (Extern.Bytes.bytesOf (.string s))=some s:=rfl
 have h2:Zaf P (Extern.Bytes.asByte (.int .u8 c))=some c.toNat.toUInt8:=rfl
 show Zaf P (Extern.Bytes.bytesOf (.string s) >>= fun b=>Extern.Bytes.asByte (.int .u8 c) >>= fun c=>match (List.range b.size).find? fun i=>b[i]! == c with
  | some i=>pure (goInt i)
  | none=>pure (goInt (-1)))=_
 rw [Zac h1,Zac h2]
 have:=Zud s c.toNat.toUInt8 s.data.toList.length 0 (by omega)
 rw [List.drop_zero] at this
 rw [←this]
 have hr:List.range s.size=List.range' 0 s.data.toList.length:=by rw [List.range_eq_range'];rfl
 rw [hr]
 unfold ZEo
 cases (List.range' 0 s.data.toList.length).find? fun i=>s[i]! == c.toNat.toUInt8<;>rfl
def Zzf (g0:FuncId):Za9:=fun g args=>bif Nat.beq g g0 then match args with
    | [.string s,.int .u8 c]=>some (.int .i64 (ZB6 c.toNat.toUInt8 s.data.toList 0))
    | _=>none
 else none
theorem ZvM {P:Program} {g0:FuncId} {fn:Func} (hf:P.funcs[g0]?=some fn) (hn:(fn.name == "runtime.NumGoroutine")=false) (hb:fn.body.isNone=true) (h1:(Extern.findNext fn).isNone=true) (h2:Extern.find fn=some Extern.BytealgIndexByte.indexByte):Zqq P (Zzf g0):=by
 intro g args v h
 unfold Zzf at h
 cases hb':Nat.beq g g0 with
 | false=>rw [hb'] at h;cases h
 | true =>
  rw [hb',cond_true] at h
  obtain rfl:g=g0:=Nat.eq_of_beq_eq_true hb'
  split at h
  case h_2=>cases h
  rename_i s c
  simp only [Option.some.injEq] at h
  subst h
  refine ⟨fn,hf,?_,?_⟩
  · unfold Func.enters
    cases hbb:fn.body with
    | none=>rfl
    | some b=>rw [hbb] at hb;cases hb
  · unfold ZC0
    rw [if_pos (by simp [Zab])]
    have:=Zmc hf hn hb h1 h2 (ZlR (P:=P) (s:=s) (c:=c))
    have e:([Value.string s,Value.int .u8 c]:List Value).toArray = #[.string s,.int .u8 c]:=rfl
    rw [e,this]
    rfl
theorem Zo2 {P:Program} {f:FuncId} {fn:Func} {args:List Value} {v:Value} {H':AHeap} (hm:P.follows .mixedOrders=true) (hf:P.funcs[f]?=some fn) (ha:args.all Zab=true) (hc:Zaw P ZzN f args ⟨0,fun _=>Option.none⟩=some (.ret v,H')) (hv:Zab v=true) (H:AHeap):ZED P f args H (.ret v,H):=by
 refine ⟨AHeap.le_refl _,fun N0 β w nx hh hcm ro n=>?_⟩
 cases hcm with
 | round he _ _ _ _ =>
  rw [he,Array.getElem?_eq_none (by omega)] at hf;simp at hf
 | @fn fn2 args' hf' hrel =>
  have key:∀ (l:List Value) (l':List Value),l.all Zab=true→VRels β l l'→VRels Emb.none l l':=by
   intro l
   induction l with
   | nil=>intro l' _ h;cases h;exact .nil
   | cons a l ih =>
    intro l' hcl h
    rw [List.all_cons,Bool.and_eq_true] at hcl
    cases h with
    | cons h1 h2 =>
     have e:=VRel.eq_of_closed h1 hcl.1
     rw [e]
     exact .cons (.closed hcl.1) (ih _ hcl.2 h2)
  have ha':VRels Emb.none args args'.toList:=key _ _ ha hrel
  have h1:=(ZkM (Zuv P) hm _ _ _ _ _ hc).2 ⟨fun b=>b<w.heap.size,w.heap.size⟩ Emb.none w (.enter f args') (HRel.none P w) (.fn hf' ha') ro n
  have h2:CallsIn (WF ro) n P f args' w (ZeP P ⟨fun b=>b<w.heap.size,w.heap.size⟩ Emb.none w (.ret v) H'):=h1
  show CallsIn (WF ro) n P f args' w (ZeP P N0 β w (.ret v) H)
  refine CallsIn.mono h2 ?_
  intro e w' hr
  obtain ⟨γ,le,hh2,he,hfr⟩:=hr
  cases e with
  | panicked chain=>exact he.elim
  | outgrown=>exact he.elim
  | returned v' =>
   have e1:v'=v:=VRel.eq_of_closed he hv
   subst e1
   have hold:∀ (b:Nat) (o:Obj),w.heap[b]?=some o→w'.heap[b]?=some o:=fun b o hb=>by
    rw [hfr.low b (Array.getElem?_eq_some_iff.1 hb).1];exact hb
   refine ⟨β,Emb.le.refl _,hh.keep hfr.size fun b o hb _=>hold b o hb,.closed hv,⟨hfr.size,fun b hb=>?_,hfr.os,hfr.out⟩⟩
   exact hfr.low b (hh.base b hb)
end
section
open Go B
abbrev RR:=AExit×FSt
structure OV where
 ev:VT→Value
structure SW (α:Type) where
 f:Nw α→α
noncomputable def ZDF {α:Type} (_d:α) (i:Nat):SW α:=Bool.rec (Bool.rec (Bool.rec (Bool.rec (⟨fun t=>t.a15⟩) (⟨fun t=>t.a14⟩) (Nat.blt i 15)) (Bool.rec (⟨fun t=>t.a13⟩) (⟨fun t=>t.a12⟩) (Nat.blt i 13)) (Nat.blt i 14)) (Bool.rec (Bool.rec (⟨fun t=>t.a11⟩) (⟨fun t=>t.a10⟩) (Nat.blt i 11)) (Bool.rec (⟨fun t=>t.a9⟩) (⟨fun t=>t.a8⟩) (Nat.blt i 9)) (Nat.blt i 10)) (Nat.blt i 12)) (Bool.rec (Bool.rec (Bool.rec (⟨fun t=>t.a7⟩) (⟨fun t=>t.a6⟩) (Nat.blt i 7)) (Bool.rec (⟨fun t=>t.a5⟩) (⟨fun t=>t.a4⟩) (Nat.blt i 5)) (Nat.blt i 6)) (Bool.rec (Bool.rec (⟨fun t=>t.a3⟩) (⟨fun t=>t.a2⟩) (Nat.blt i 3)) (Bool.rec (⟨fun t=>t.a1⟩) (⟨fun t=>t.a0⟩) (Nat.blt i 1)) (Nat.blt i 2)) (Nat.blt i 4)) (Nat.blt i 8)
theorem ZsQ {α:Type} (d:α) (i:Nat) (t:Nw α) (h:i<16):(ZDF d i).f t=t.get d i:=by
 have hc:i=0∨i=1∨i=2∨i=3∨i=4∨i=5∨i=6∨i=7∨i=8∨i=9∨i=10∨i=11∨i=12∨i=13∨i=14∨i=15:=by omega
 rcases hc with rfl | rfl | rfl | rfl | rfl | rfl | rfl | rfl | rfl | rfl | rfl | rfl | rfl | rfl | rfl | rfl<;>rfl
structure UW (α:Type) where
 f:(α→α)→Nw α→Nw α
noncomputable def ZC7 {α:Type} (i:Nat):UW α:=Bool.rec (Bool.rec (Bool.rec (Bool.rec (⟨fun g t=>Nw.rec (fun a0 a1 a2 a3 a4 a5 a6 a7 a8 a9 a10 a11 a12 a13 a14 a15=>⟨a0,a1,a2,a3,a4,a5,a6,a7,a8,a9,a10,a11,a12,a13,a14,g a15⟩) t⟩) (⟨fun g t=>Nw.rec (fun a0 a1 a2 a3 a4 a5 a6 a7 a8 a9 a10 a11 a12 a13 a14 a15=>⟨a0,a1,a2,a3,a4,a5,a6,a7,a8,a9,a10,a11,a12,a13,g a14,a15⟩) t⟩) (Nat.blt i 15)) (Bool.rec (⟨fun g t=>Nw.rec (fun a0 a1 a2 a3 a4 a5 a6 a7 a8 a9 a10 a11 a12 a13 a14 a15=>⟨a0,a1,a2,a3,a4,a5,a6,a7,a8,a9,a10,a11,a12,g a13,a14,a15⟩) t⟩) (⟨fun g t=>Nw.rec (fun a0 a1 a2 a3 a4 a5 a6 a7 a8 a9 a10 a11 a12 a13 a14 a15=>⟨a0,a1,a2,a3,a4,a5,a6,a7,a8,a9,a10,a11,g a12,a13,a14,a15⟩) t⟩) (Nat.blt i 13)) (Nat.blt i 14)) (Bool.rec (Bool.rec (⟨fun g t=>Nw.rec (fun a0 a1 a2 a3 a4 a5 a6 a7 a8 a9 a10 a11 a12 a13 a14 a15=>⟨a0,a1,a2,a3,a4,a5,a6,a7,a8,a9,a10,g a11,a12,a13,a14,a15⟩) t⟩) (⟨fun g t=>Nw.rec (fun a0 a1 a2 a3 a4 a5 a6 a7 a8 a9 a10 a11 a12 a13 a14 a15=>⟨a0,a1,a2,a3,a4,a5,a6,a7,a8,a9,g a10,a11,a12,a13,a14,a15⟩) t⟩) (Nat.blt i 11)) (Bool.rec (⟨fun g t=>Nw.rec (fun a0 a1 a2 a3 a4 a5 a6 a7 a8 a9 a10 a11 a12 a13 a14 a15=>⟨a0,a1,a2,a3,a4,a5,a6,a7,a8,g a9,a10,a11,a12,a13,a14,a15⟩) t⟩) (⟨fun g t=>Nw.rec (fun a0 a1 a2 a3 a4 a5 a6 a7 a8 a9 a10 a11 a12 a13 a14 a15=>⟨a0,a1,a2,a3,a4,a5,a6,a7,g a8,a9,a10,a11,a12,a13,a14,a15⟩) t⟩) (Nat.blt i 9)) (Nat.blt i 10)) (Nat.blt i 12)) (Bool.rec (Bool.rec (Bool.rec (⟨fun g t=>Nw.rec (fun a0 a1 a2 a3 a4 a5 a6 a7 a8 a9 a10 a11 a12 a13 a14 a15=>⟨a0,a1,a2,a3,a4,a5,a6,g a7,a8,a9,a10,a11,a12,a13,a14,a15⟩) t⟩) (⟨fun g t=>Nw.rec (fun a0 a1 a2 a3 a4 a5 a6 a7 a8 a9 a10 a11 a12 a13 a14 a15=>⟨a0,a1,a2,a3,a4,a5,g a6,a7,a8,a9,a10,a11,a12,a13,a14,a15⟩) t⟩) (Nat.blt i 7)) (Bool.rec (⟨fun g t=>Nw.rec (fun a0 a1 a2 a3 a4 a5 a6 a7 a8 a9 a10 a11 a12 a13 a14 a15=>⟨a0,a1,a2,a3,a4,g a5,a6,a7,a8,a9,a10,a11,a12,a13,a14,a15⟩) t⟩) (⟨fun g t=>Nw.rec (fun a0 a1 a2 a3 a4 a5 a6 a7 a8 a9 a10 a11 a12 a13 a14 a15=>⟨a0,a1,a2,a3,g a4,a5,a6,a7,a8,a9,a10,a11,a12,a13,a14,a15⟩) t⟩) (Nat.blt i 5)) (Nat.blt i 6)) (Bool.rec (Bool.rec (⟨fun g t=>Nw.rec (fun a0 a1 a2 a3 a4 a5 a6 a7 a8 a9 a10 a11 a12 a13 a14 a15=>⟨a0,a1,a2,g a3,a4,a5,a6,a7,a8,a9,a10,a11,a12,a13,a14,a15⟩) t⟩) (⟨fun g t=>Nw.rec (fun a0 a1 a2 a3 a4 a5 a6 a7 a8 a9 a10 a11 a12 a13 a14 a15=>⟨a0,a1,g a2,a3,a4,a5,a6,a7,a8,a9,a10,a11,a12,a13,a14,a15⟩) t⟩) (Nat.blt i 3)) (Bool.rec (⟨fun g t=>Nw.rec (fun a0 a1 a2 a3 a4 a5 a6 a7 a8 a9 a10 a11 a12 a13 a14 a15=>⟨a0,g a1,a2,a3,a4,a5,a6,a7,a8,a9,a10,a11,a12,a13,a14,a15⟩) t⟩) (⟨fun g t=>Nw.rec (fun a0 a1 a2 a3 a4 a5 a6 a7 a8 a9 a10 a11 a12 a13 a14 a15=>⟨g a0,a1,a2,a3,a4,a5,a6,a7,a8,a9,a10,a11,a12,a13,a14,a15⟩) t⟩) (Nat.blt i 1)) (Nat.blt i 2)) (Nat.blt i 4)) (Nat.blt i 8)
theorem ZrR {α:Type} (i:Nat) (g:α→α) (t:Nw α) (h:i<16):(ZC7 i).f g t=t.upd i g:=by
 have hc:i=0∨i=1∨i=2∨i=3∨i=4∨i=5∨i=6∨i=7∨i=8∨i=9∨i=10∨i=11∨i=12∨i=13∨i=14∨i=15:=by omega
 rcases hc with rfl | rfl | rfl | rfl | rfl | rfl | rfl | rfl | rfl | rfl | rfl | rfl | rfl | rfl | rfl | rfl<;>rfl
noncomputable def gv (_f i:Nat):OV:=⟨fun t=>(ZDF undef (Nat.mod i 16)).f ((ZDF (Nw.fill undef) (Nat.div i 16)).f t)⟩
theorem ZCa (f i:Nat) (t:VT) (h:i<256):(gv f i).ev t=t.get i:=by
 unfold gv
 dsimp only
 have h1:Nat.div i 16<16:=by show i / 16<16;omega
 have h2:Nat.mod i 16<16:=Nat.mod_lt _ (by omega)
 rw [ZsQ _ _ _ h2,ZsQ _ _ _ h1];rfl
structure PV where
 put:Value→VT→VT
noncomputable def pv (_f i:Nat):PV:=⟨fun x t=>(ZC7 (Nat.div i 16)).f (fun s=>(ZC7 (Nat.mod i 16)).f (fun _=>x) s) t⟩
theorem ZDZ (f i:Nat) (x:Value) (t:VT) (h:i<256):(pv f i).put x t=VT.put x f t i:=by
 unfold pv
 dsimp only
 have h1:Nat.div i 16<16:=by show i / 16<16;omega
 rw [ZrR _ _ _ h1]
 unfold VT.put
 congr 1
 funext s
 exact ZrR _ _ _ (Nat.mod_lt _ (by omega))
noncomputable def cX (n:Nat):Operand→OV
 | .tmp i=>bif Nat.blt i n then (bif Nat.blt i 256 then gv 20 i else ⟨fun t=>t.get i⟩) else ⟨fun _=>undef⟩
 | .const v=>⟨fun _=>v⟩
 | .global g=>⟨fun _=>.pointer (some ⟨g,0,none⟩)⟩
 | .func f=>⟨fun _=>.func (.func f) #[] #[]⟩
theorem ZdJ (n:Nat) (x:Operand) (t:VT):(cX n x).ev t=ZeN n t x:=by
 cases x with
 | tmp i =>
  unfold cX ZeN
  dsimp only
  cases h:Nat.blt i n with
  | true =>
   rw [cond_true,cond_true]
   cases hm:Nat.blt i 256 with
   | true=>rw [cond_true];exact ZCa 20 i t (by rw [Nat.blt_eq] at hm;exact hm)
   | false=>rfl
  | false=>rfl
 | _=>rfl
noncomputable def Zmk (n:Nat) (t:VT) (x:Operand):Value:=(cX n x).ev t
theorem Zon (n:Nat) (t:VT):Zmk n t=ZeN n t:=funext fun x=>ZdJ n x t
structure DV where
 ok:Bool
 put:Value→VT→VT
noncomputable def cD (n:Nat):Option Nat→DV
 | none=>⟨true,fun _ t=>t⟩
 | some d=>⟨Nat.blt d n&&Nat.blt d 256,(pv 20 d).put⟩
theorem ZhP {n:Nat} {dst:Option Nat} (h:(cD n dst).ok=true) (v:Value) (t:VT):ZbX dst v (tmL n t)=tmL n ((cD n dst).put v t):=by
 cases dst with
 | none=>rfl
 | some d =>
  refine ZcQ (dst:=some d) ?_
  unfold putF
  have h':(Nat.blt d n&&Nat.blt d 256)=true:=h
  dsimp only
  rw [h',cond_true]
  show some (t.put v 20 d)=some ((pv 20 d).put v t)
  rw [Bool.and_eq_true,Nat.blt_eq,Nat.blt_eq] at h'
  rw [ZDZ _ _ _ _ h'.2]
structure EV where
 ev:VT→FH→(Value→FH→Option RR)→(FuncId→List Value→Option RR)→(Value→Option RR)→Option RR
noncomputable def fin (r:Option FR) (F:FH) (kv:Value→FH→Option RR) (ke:FuncId→List Value→Option RR) (kp:Value→Option RR):Option RR:=match r with
 | some (.val v c)=>match c with
  | .same=>kv v F
  | .push o=>bif Nat.blt F.next 1000000 then kv v ⟨F.next+1,F.t.put o 20 F.next⟩ else none
  | .set i o=>bif Nat.blt i 1000000 then kv v ⟨F.next,F.t.put o 20 i⟩ else none
 | some (.skip c)=>match c.onF F with
  | some F'=>kv undef F'
  | none=>none
 | some (.enter f args)=>ke f args
 | some (.panic v)=>kp v
 | none=>none
def ZCG (P:Program) (ρ:Operand→Value) (F:FH) (op:Op) (ty:TypeId) (kv:Value→FH→Option RR) (ke:FuncId→List Value→Option RR) (kp:Value→Option RR) (r:RR):Prop :=
 (∃ v F',(opA P F.abs ρ op ty=some (.val v F'.abs)∨(opA P F.abs ρ op ty=some (.skip F'.abs)∧v=undef))∧kv v F'=some r) ∨
 (∃ f args,opA P F.abs ρ op ty=some (.enter f args F.abs)∧ke f args=some r) ∨
 (∃ v,opA P F.abs ρ op ty=some (.panic v F.abs)∧kp v=some r)
section
variable {P:Program} {T:Tabs} {nb:Za9} {N:Nat}
theorem Zdc {ρ:Operand→Value} {F:FH} {op:Op} {ty:TypeId} {q:Option FR} (hq:∀ fr,q=some fr→opA P F.abs ρ op ty=some (fr.toA F.abs)) {kv:Value→FH→Option RR} {ke:FuncId→List Value→Option RR} {kp:Value→Option RR} {r:RR} (h:fin q F kv ke kp=some r):ZCG P ρ F op ty kv ke kp r:=by
 unfold fin at h
 split at h
 · rename_i v c
   have hop:=hq _ rfl
   left
   cases c with
   | same=>exact ⟨v,F,.inl hop,h⟩
   | push o =>
    dsimp only at h
    cases hb:Nat.blt F.next 1000000 with
    | false=>rw [hb] at h;cases h
    | true =>
     rw [hb,cond_true] at h
     refine ⟨v,_,.inl ?_,h⟩
     have:Chg.onF F (.push o)=some ⟨F.next+1,F.t.put o 20 F.next⟩:=by unfold Chg.onF;dsimp only;rw [hb];rfl
     rw [Chg.onF_abs this];exact hop
   | set i o =>
    dsimp only at h
    cases hb:Nat.blt i 1000000 with
    | false=>rw [hb] at h;cases h
    | true =>
     rw [hb,cond_true] at h
     refine ⟨v,_,.inl ?_,h⟩
     have:Chg.onF F (.set i o)=some ⟨F.next,F.t.put o 20 i⟩:=by unfold Chg.onF;dsimp only;rw [hb];rfl
     rw [Chg.onF_abs this];exact hop
 · rename_i c
   have hop:=hq _ rfl
   split at h
   case h_2=>cases h
   rename_i F' hF
   exact .inl ⟨undef,F',.inr ⟨by rw [Chg.onF_abs hF];exact hop,rfl⟩,h⟩
 · rename_i f args
   exact .inr (.inl ⟨f,args,hq _ rfl,h⟩)
 · rename_i v
   exact .inr (.inr ⟨v,hq _ rfl,h⟩)
 · cases h
end
def kEq:IntKind→IntKind→Bool
 | .i64,.i64=>true
 | .u8,.u8=>true
 | .u64,.u64=>true
 | .i32,.i32=>true
 | .u32,.u32=>true
 | _,_=>false
theorem ZBV {k l:IntKind} (h:kEq k l=true):k=l:=by
 cases k<;>cases l<;>first | rfl | cases h
def iLt:Int→Int→Bool
 | .ofNat a,.ofNat b=>Nat.blt a b
 | .ofNat _,.negSucc _=>false
 | .negSucc _,.ofNat _=>true
 | .negSucc a,.negSucc b=>Nat.blt b a
theorem ZB8 (a b:Int):iLt a b=decide (a<b):=by
 cases a<;>cases b<;>unfold iLt<;>rw [Bool.eq_iff_iff,decide_eq_true_eq]<;>simp only [Nat.blt_eq]<;>first | omega | skip
 all_goals simp<;>omega
def iEq:Int→Int→Bool
 | .ofNat a,.ofNat b=>Nat.beq a b
 | .negSucc a,.negSucc b=>Nat.beq a b
 | _,_=>false
theorem ZB9 (a b:Int):iEq a b=decide (a=b):=by
 cases a<;>cases b<;>unfold iEq<;>rw [Bool.eq_iff_iff,decide_eq_true_eq]<;>simp
 rename_i a b;show a=b↔(a:Int)=(b:Int);omega
def ZEU:IntKind→Int→Int→Int
 | .i64,.ofNat a,.ofNat b=>bif Nat.ble (a+b) 9223372036854775807 then .ofNat (a+b) else IntKind.i64.wrap (.ofNat a+.ofNat b)
 | k,a,b=>k.wrap (a+b)
theorem wrap_i64 {n:Nat} (h:n≤9223372036854775807):IntKind.i64.wrap (.ofNat n)=.ofNat n:=by
 rw [IntKind.wrap_i64];show _=((n:Nat):Int);have:(Int.ofNat n)=((n:Nat):Int):=rfl;rw [this];omega
theorem ZAq (k:IntKind) (a b:Int):ZEU k a b=k.wrap (a+b):=by
 unfold ZEU
 split
 · rename_i a b
   cases h:Nat.ble (a+b) 9223372036854775807 with
   | false=>rfl
   | true =>
    rw [cond_true]
    have:=wrap_i64 (Nat.le_of_ble_eq_true h)
    rw [←this];rfl
 · rfl
inductive BK where
 | lss | leq | gtr | geq | eql | neq | add | none
def ZAN:BinOp→BK
 | .lss=>.lss
 | .leq=>.leq
 | .gtr=>.gtr
 | .geq=>.geq
 | .eql=>.eql
 | .neq=>.neq
 | .add=>.add
 | _=>.none
def bkV:BK→IntKind→Int→Int→Value
 | .lss,_,a,b=>.bool (iLt a b)
 | .leq,_,a,b=>.bool (!iLt b a)
 | .gtr,_,a,b=>.bool (iLt b a)
 | .geq,_,a,b=>.bool (!iLt a b)
 | .eql,_,a,b=>.bool (iEq a b)
 | .neq,_,a,b=>.bool (!iEq a b)
 | .add,k,a,b=>.int k (ZEU k a b)
 | .none,k,a,_=>.int k a
section
variable {P:Program} {T:Tabs} {ρ:Operand→Value} {F:FH} {ty:TypeId}
theorem ZEL {op:BinOp} {t u:TypeId} {x y:Operand} (hx:Zaa x=true) (hy:Zaa y=true) {k l:IntKind} {a b:Int} (ha:ρ x=.int k a) (hb:ρ y=.int l b) (hk:kEq k l=true) (hop:ZAN op≠.none) (hT:TabOK P T) :
    opA P F.abs ρ (.binOp op t x y u) ty=some (.val (bkV (ZAN op) k a b) F.abs):=by
 obtain rfl:=ZBV hk
 have key:∀ v,Znk T ρ op t x y=some (.val v .same)→opA P F.abs ρ (.binOp op t x y u) ty=some (.val v F.abs):=fun v h=>ZhH hT h
 have hal:ZaO [x,y]=true:=by rw [Zas];simp [hx,hy]
 apply key
 unfold Znk
 rw [hal,cond_true,ha,hb]
 dsimp only
 rw [if_pos rfl]
 cases op<;>first | exact absurd rfl hop | skip
 all_goals simp only [ZAN,bkV,fV,ZB8,ZB9,ZAq]
 all_goals (congr 3;rw [←decide_not];congr 1;apply propext;omega)
end
end
section
open Go B
noncomputable def ZAG (cs:List Value):Nat→Option Value:=List.rec (fun _=>none) (fun v _ ih k=>Bool.rec (ih (Nat.pred k)) (some v) (Nat.beq k 0)) cs
theorem ZjD:∀ (cs:List Value) (k:Nat),ZAG cs k=cs[k]?
 | [],k=>rfl
 | v::r,0=>rfl
 | v::r,k+1=>by
  show ZAG r k=_
  rw [ZjD r k];rfl
noncomputable def ZEa (cs:List UInt8):Nat→Option UInt8:=List.rec (fun _=>none) (fun v _ ih k=>Bool.rec (ih (Nat.pred k)) (some v) (Nat.beq k 0)) cs
theorem ZtC:∀ (cs:List UInt8) (k:Nat),ZEa cs k=cs[k]?
 | [],k=>rfl
 | v::r,0=>rfl
 | v::r,k+1=>by
  show ZEa r k=_
  rw [ZtC r k];rfl
noncomputable def ZCO (cs:List Nat):Nat→Nat:=List.rec (fun _=>0) (fun v _ ih k=>Bool.rec (ih (Nat.pred k)) v (Nat.beq k 0)) cs
theorem ZtB:∀ (cs:List Nat) (k:Nat),ZCO cs k=cs.getD k 0
 | [],k=>rfl
 | v::r,0=>rfl
 | v::r,k+1=>by
  show ZCO r k=_
  rw [ZtB r k];rfl
noncomputable def ZCM (cs:List Value):Nat→Value→List Value:=List.rec (fun _ _=>[]) (fun v r ih k x=>Bool.rec (v::ih (Nat.pred k) x) (x::r) (Nat.beq k 0)) cs
theorem Zoi:∀ (cs:List Value) (k:Nat) (x:Value),ZCM cs k x=cs.set k x
 | [],k,x=>rfl
 | v::r,0,x=>rfl
 | v::r,k+1,x=>by
  show v::ZCM r k x=_
  rw [Zoi r k x];rfl
noncomputable def Zyd (cs:List Nat):Nat→Nat→List Nat:=List.rec (fun _ _=>[]) (fun v r ih k x=>Bool.rec (v::ih (Nat.pred k) x) (x::r) (Nat.beq k 0)) cs
theorem Zpy:∀ (cs:List Nat) (k:Nat) (x:Nat),Zyd cs k x=cs.set k x
 | [],k,x=>rfl
 | v::r,0,x=>rfl
 | v::r,k+1,x=>by
  show v::Zyd r k x=_
  rw [Zpy r k x];rfl
noncomputable def trG (t:Tri):Nat→Option AObj:=Tri.rec (fun _=>none) (fun o _ _ il ir n=>Bool.rec (Bool.rec (ir (Nat.pred (Nat.div n 2))) (il (Nat.div n 2)) (Nat.beq (Nat.mod n 2) 1)) o (Nat.beq n 0)) t
theorem ZwE (t:Tri) (n:Nat):trG t n=t.get n:=rfl
noncomputable def trP (x:AObj) (d:Nat):Tri→Nat→Tri:=Nat.rec (fun t _=>t) (fun _ ih t n=>Tri.rec
 (Bool.rec (Bool.rec (.node none .nil (ih .nil (Nat.pred (Nat.div n 2)))) (.node none (ih .nil (Nat.div n 2)) .nil) (Nat.beq (Nat.mod n 2) 1)) (.node (some x) .nil .nil) (Nat.beq n 0))
 (fun o l r _ _=>Bool.rec (Bool.rec (.node o l (ih r (Nat.pred (Nat.div n 2)))) (.node o (ih l (Nat.div n 2)) r) (Nat.beq (Nat.mod n 2) 1)) (.node (some x) l r) (Nat.beq n 0)) t) d
theorem ZwD (x:AObj) (d:Nat) (t:Tri) (n:Nat):trP x d t n=Tri.put x d t n:=rfl
abbrev KV:=Value→FH→Option RR
noncomputable def ld1 (v:Value) (F:FH) (kv:KV):Option RR:=match v with
 | .pointer p=>match p with
  | some a=>match trG F.t a.block with
   | some o=>match o with
    | .box cs _=>match ZAG cs a.off with
     | some w=>kv w F
     | none=>none
    | .arr cs st _ _ _=>match ZAG cs a.off with
     | some w=>bif Nat.ble (ZCO st a.off) (ZnV a) then kv w F else none
     | none=>none
    | _=>none
   | none=>none
  | none=>none
 | _=>none
theorem ZBS {v:Value} {F:FH} {kv:KV} {r:RR} (h:ld1 v F kv=some r):∃ a w,v=.pointer (some a)∧F.abs.cell a=some w∧kv w F=some r:=by
 unfold ld1 at h
 split at h
 case h_2=>cases h
 split at h
 case h_2=>cases h
 rename_i a
 split at h
 case h_2=>cases h
 rename_i o ho
 rw [ZwE] at ho
 have hv:F.abs.view a.block=o.view:=by
  show (F.t.get a.block).bind AObj.view=_
  rw [ho];rfl
 split at h
 · rename_i cs e
   split at h
   case h_2=>cases h
   rename_i w hw
   rw [ZjD] at hw
   refine ⟨a,w,rfl,?_,h⟩
   unfold AHeap.cell
   rw [hv]
   dsimp only [AObj.view]
   rw [hw]
   simp
 · rename_i cs st g e ro
   split at h
   case h_2=>cases h
   rename_i w hw
   rw [ZjD] at hw
   cases hb:Nat.ble (ZCO st a.off) (ZnV a) with
   | false=>rw [hb] at h;cases h
   | true =>
    rw [hb,cond_true] at h
    refine ⟨a,w,rfl,?_,h⟩
    have hle:=Nat.le_of_ble_eq_true hb
    rw [ZtB] at hle
    unfold AHeap.cell
    rw [hv]
    dsimp only [AObj.view]
    rw [hw]
    dsimp only
    rw [if_pos hle]
 · cases h
theorem Zv8 {T:Tabs} {H:AHeap} {ρ:Operand→Value} {t:TypeId} {x:Operand} {a:Addr} {w:Value} (hx:Zaa x=true) (hv:ρ x=.pointer (some a)) (ha:ZdK T t=some false) (hc:H.cell a=some w):Znh T H ρ t x=some (.val w .same):=by
 unfold Znh
 rw [hx,cond_true,hv]
 dsimp only
 rw [ha]
 dsimp only
 rw [hc]
 rfl
noncomputable def ia1 (sz:Nat) (v w:Value) (F:FH) (kv:KV):Option RR:=match v with
 | .slice p len _=>match p with
  | some a=>match w with
   | .int _ z=>match z with
    | .ofNat m=>bif Nat.blt m len then kv (.pointer (some ⟨a.block,Nat.add a.off (Nat.mul m sz),a.spot⟩)) F else none
    | _=>none
   | _=>none
  | none=>none
 | _=>none
theorem ZB7 {T:Tabs} {ρ:Operand→Value} {t:TypeId} {x y:Operand} {i:TypeInfo} {e:TypeId} (hx:Zaa x=true) (hy:Zaa y=true) (hi:ZaD T t=some (i,e)) {F:FH} {kv:KV} {r:RR} (h:ia1 i.size (ρ x) (ρ y) F kv=some r):∃ w,ZcT T ρ t x y=some (.val w .same)∧kv w F=some r:=by
 have hal:ZaO [x,y]=true:=by rw [Zas];simp [hx,hy]
 unfold ZcT
 rw [hal,cond_true,hi]
 unfold ia1 at h
 split at h
 case h_2=>cases h
 rename_i p len cap hv
 split at h
 case h_2=>cases h
 rename_i a
 split at h
 case h_2=>cases h
 rename_i k z hw
 split at h
 case h_2=>cases h
 rename_i m
 rw [hv,hw]
 obtain ⟨b,o,sp⟩:=a
 dsimp only
 cases hb:Nat.blt m len with
 | false=>rw [hb] at h;cases h
 | true =>
  rw [hb,cond_true] at h
  exact ⟨_,rfl,h⟩
noncomputable def fa1 (off:Nat) (v:Value) (F:FH) (kv:KV):Option RR:=match v with
 | .pointer p=>match p with
  | some a=>kv (.pointer (some ⟨a.block,Nat.add a.off off,a.spot⟩)) F
  | none=>none
 | _=>none
theorem ZCe {T:Tabs} {ρ:Operand→Value} {s:TypeId} {x:Operand} {f off:Nat} (hx:Zaa x=true) (hf:Zed T s f=some off) {F:FH} {kv:KV} {r:RR} (h:fa1 off (ρ x) F kv=some r):∃ w,ZcU T ρ s x f=some (.val w .same)∧kv w F=some r:=by
 unfold ZcU
 rw [hx,cond_true]
 unfold fa1 at h
 split at h
 case h_2=>cases h
 rename_i p hv
 split at h
 case h_2=>cases h
 rename_i a
 rw [hv]
 obtain ⟨b,o,sp⟩:=a
 dsimp only
 rw [hf]
 exact ⟨_,rfl,h⟩
noncomputable def fd1 (off:Nat) (v:Value) (F:FH) (kv:KV):Option RR:=match v with
 | .agg cs=>match ZAG cs.toList off with
  | some w=>kv w F
  | none=>none
 | _=>none
theorem ZCd {T:Tabs} {ρ:Operand→Value} {t:TypeId} {x:Operand} {f:Nat} {fields:Array Field} {fd:Field} (hx:Zaa x=true) (hu:T.und t=some (.struct fields)) (hf:fields.toList[f]?=some fd) (ha:ZdK T fd.type=some false) {F:FH} {kv:KV} {r:RR} (h:fd1 fd.offset (ρ x) F kv=some r):∃ w,ZjZ T ρ t x f=some (.val w .same)∧kv w F=some r:=by
 unfold ZjZ
 rw [hx,cond_true,hu]
 unfold fd1 at h
 split at h
 case h_2=>cases h
 rename_i cs hv
 split at h
 case h_2=>cases h
 rename_i w hw
 rw [ZjD] at hw
 rw [hv]
 dsimp only
 rw [hf]
 dsimp only
 unfold Zgl
 rw [ha]
 dsimp only
 rw [hw]
 exact ⟨w,rfl,h⟩
noncomputable def ex1 (i:Nat) (v:Value) (F:FH) (kv:KV):Option RR:=match v with
 | .tuple cs=>match ZAG cs.toList i with
  | some w=>kv w F
  | none=>none
 | _=>none
theorem ZCi {ρ:Operand→Value} {x:Operand} {i:Nat} (hx:Zaa x=true) {F:FH} {kv:KV} {r:RR} (h:ex1 i (ρ x) F kv=some r):∃ w,ZfU ρ x i=some (.val w .same)∧kv w F=some r:=by
 unfold ZfU
 rw [hx,cond_true]
 unfold ex1 at h
 split at h
 case h_2=>cases h
 rename_i cs hv
 split at h
 case h_2=>cases h
 rename_i w hw
 rw [ZjD] at hw
 rw [hv]
 dsimp only
 rw [hw]
 exact ⟨w,rfl,h⟩
noncomputable def ZvW (v:Value) (F:FH) (kv:KV):Option RR:=match v with
 | .slice _ n _=>kv (.int .i64 (Int.ofNat n)) F
 | _=>none
noncomputable def ZvT (v:Value) (F:FH) (kv:KV):Option RR:=match v with
 | .string s=>kv (.int .i64 (Int.ofNat (List.length s.data.toList))) F
 | _=>none
theorem ZvV {T:Tabs} {H:AHeap} {ρ:Operand→Value} {t e:TypeId} {x:Operand} (hx:Zaa x=true) (hu:T.und t=some (.slice e)) {F:FH} {kv:KV} {r:RR} (h:ZvW (ρ x) F kv=some r):∃ w,ZrB T H ρ t x=some (.val w .same)∧kv w F=some r:=by
 unfold ZrB
 rw [hx,cond_true,hu]
 unfold ZvW at h
 split at h
 case h_2=>cases h
 rename_i p n c hv
 rw [hv]
 exact ⟨_,rfl,h⟩
theorem ZvS {T:Tabs} {H:AHeap} {ρ:Operand→Value} {t:TypeId} {x:Operand} (hx:Zaa x=true) (hu:T.und t=some .string) {F:FH} {kv:KV} {r:RR} (h:ZvT (ρ x) F kv=some r):∃ w,ZrB T H ρ t x=some (.val w .same)∧kv w F=some r:=by
 unfold ZrB
 rw [hx,cond_true,hu]
 unfold ZvT at h
 split at h
 case h_2=>cases h
 rename_i s hv
 rw [hv]
 exact ⟨_,rfl,h⟩
noncomputable def ix1 (v w:Value) (F:FH) (kv:KV):Option RR:=match v with
 | .string s=>match w with
  | .int _ z=>match z with
   | .ofNat m=>match ZEa s.data.toList m with
    | some b=>kv (.int .u8 (Int.ofNat b.toNat)) F
    | none=>none
   | _=>none
  | _=>none
 | _=>none
theorem ZBZ {T:Tabs} {ρ:Operand→Value} {t:TypeId} {x y:Operand} (hx:Zaa x=true) (hy:Zaa y=true) (hu:T.und t=some .string) {F:FH} {kv:KV} {r:RR} (h:ix1 (ρ x) (ρ y) F kv=some r):∃ w,ZdC T ρ t x y=some (.val w .same)∧kv w F=some r:=by
 have hal:ZaO [x,y]=true:=by rw [Zas];simp [hx,hy]
 unfold ZdC
 rw [hal,cond_true,hu]
 unfold ix1 at h
 split at h
 case h_2=>cases h
 rename_i s hv
 split at h
 case h_2=>cases h
 rename_i k z hw
 split at h
 case h_2=>cases h
 rename_i m
 split at h
 case h_2=>cases h
 rename_i b hb
 rw [ZtC] at hb
 rw [hv,hw]
 dsimp only
 rw [hb]
 exact ⟨_,rfl,h⟩
noncomputable def pk1 (c a b:Value) (F:FH) (kv:KV):Option RR:=match c with
 | .bool z=>match z with
  | true=>kv a F
  | false=>kv b F
 | _=>none
theorem ZBB {ρ:Operand→Value} {c a b:Operand} (hc:Zaa c=true) (ha:Zaa a=true) (hb:Zaa b=true) {F:FH} {kv:KV} {r:RR} (h:pk1 (ρ c) (ρ a) (ρ b) F kv=some r):∃ w,Zup ρ c a b=some (.val w .same)∧kv w F=some r:=by
 have hal:ZaO [c,a,b]=true:=by rw [Zas];simp [hc,ha,hb]
 unfold Zup
 rw [hal,cond_true]
 unfold pk1 at h
 split at h
 case h_2=>cases h
 rename_i z hv
 rw [hv]
 cases z with
 | true=>exact ⟨_,rfl,h⟩
 | false=>exact ⟨_,rfl,h⟩
noncomputable def ZCP (v:Value) (F:FH) (kv:KV):Option RR:=match v with
 | .bool b=>kv (.bool (not b)) F
 | _=>none
theorem Zza {ρ:Operand→Value} {x:Operand} (hx:Zaa x=true) {F:FH} {kv:KV} {r:RR} (h:ZCP (ρ x) F kv=some r):∃ w,fUn ρ .not x=some (.val w .same)∧kv w F=some r:=by
 unfold fUn
 rw [hx,cond_true]
 unfold ZCP at h
 split at h
 case h_2=>cases h
 rename_i b hv
 rw [hv]
 exact ⟨_,rfl,h⟩
noncomputable def st1 (v w:Value) (F:FH) (kv:KV) (d:Option RR):Option RR:=bif Zba w then (match v with
 | .pointer p=>match p with
  | some a=>match trG F.t a.block with
   | some o=>match o with
    | .box cs e=>match a.spot with
     | none=>bif Nat.blt a.off (List.length cs)&&Nat.blt a.block 1000000 then kv undef ⟨F.next,trP (.box (ZCM cs a.off w) e) 20 F.t a.block⟩ else none
     | some _=>none
    | .arr cs st g e ro=>match a.spot with
     | some g'=>bif Nat.beq g g'&&!ro&&Nat.blt a.off (List.length cs)&&Nat.blt a.off (List.length st)&&Nat.blt a.block 1000000 then kv undef ⟨F.next,trP (.arr (ZCM cs a.off w) (Zyd st a.off g) g e false) 20 F.t a.block⟩ else none
     | none=>none
    | _=>none
   | none=>none
  | none=>none
 | _=>none) else d
theorem Zrg {w:Value} (h:Zba w=true):w.cells.toList=[w]:=by
 cases w<;>first | rfl | cases h
theorem ZBa {T:Tabs} {ρ:Operand→Value} {t:TypeId} {x y:Operand} {i:TypeInfo} (hx:Zaa x=true) (hy:Zaa y=true) (hi:T.info t=some i) (h1:i.size=1) {F:FH} {kv:KV} {d:Option RR} {r:RR} (h:st1 (ρ x) (ρ y) F kv d=some r) :
    (Zba (ρ y)=false∧d=some r)∨∃ c F',Zef T F.abs ρ t x y=some (.skip c)∧c.onF F=some F'∧kv undef F'=some r:=by
 have hal:ZaO [x,y]=true:=by rw [Zas];simp [hx,hy]
 unfold st1 at h
 cases hf:Zba (ρ y) with
 | false=>rw [hf] at h;exact .inl ⟨rfl,h⟩
 | true =>
  rw [hf,cond_true] at h
  right
  have hcl:=Zrg hf
  split at h
  case h_2=>cases h
  rename_i p hv
  split at h
  case h_2=>cases h
  rename_i a
  obtain ⟨b,o,sp⟩:=a
  dsimp only at h
  split at h
  case h_2=>cases h
  rename_i ob hob
  rw [ZwE] at hob
  have hg:F.abs.get b=some ob:=hob
  split at h
  · rename_i cs e
    split at h
    case h_2=>cases h
    cases hc:Nat.blt o (List.length cs)&&Nat.blt b 1000000 with
    | false=>rw [hc] at h;cases h
    | true =>
     rw [hc,cond_true] at h
     rw [Bool.and_eq_true,Nat.blt_eq] at hc
     rw [ZwD,Zoi] at h
     refine ⟨.set b (.box (ZeT cs o [ρ y]) e),_,?_,?_,h⟩
     · unfold Zef
       rw [hal,cond_true,hi,hv]
       dsimp only
       rw [hcl,h1]
       simp only [List.length_cons,List.length_nil,List.all_cons,List.all_nil,hf,Bool.and_true]
       rw [show Nat.beq (0+1) 1=true from rfl,cond_true,hg]
       dsimp only
       have:Zb5 (o+1) cs=true:=by unfold Zb5;rw [Nat.ble_eq];exact hc.1
       rw [this]
       rfl
     · unfold Chg.onF;dsimp only;rw [hc.2];rfl
  · rename_i cs st g e ro
    split at h
    case h_2=>cases h
    rename_i g'
    cases hc:Nat.beq g g'&&!ro&&Nat.blt o (List.length cs)&&Nat.blt o (List.length st)&&Nat.blt b 1000000 with
    | false=>rw [hc] at h;cases h
    | true =>
     rw [hc,cond_true] at h
     simp only [Bool.and_eq_true,Nat.blt_eq,Bool.not_eq_true'] at hc
     obtain ⟨⟨⟨⟨c1,c2⟩,c3⟩,c4⟩,c5⟩:=hc
     subst c2
     rw [ZwD,Zoi,Zpy] at h
     refine ⟨.set b (.arr (ZeT cs o [ρ y]) (ZeT st o [g]) g e false),_,?_,?_,h⟩
     · unfold Zef
       rw [hal,cond_true,hi,hv]
       dsimp only
       rw [hcl,h1]
       simp only [List.length_cons,List.length_nil,List.all_cons,List.all_nil,hf,Bool.and_true]
       rw [show Nat.beq (0+1) 1=true from rfl,cond_true,hg]
       dsimp only
       have e1:Zb5 (o+1) cs=true:=by unfold Zb5;rw [Nat.ble_eq];exact c3
       have e2:Zb5 (o+1) st=true:=by unfold Zb5;rw [Nat.ble_eq];exact c4
       rw [c1,e1,e2]
       rfl
     · unfold Chg.onF;dsimp only
       have:Nat.blt b 1000000=true:=by rw [Nat.blt_eq];exact c5
       rw [this];rfl
  · cases h
end
section
open Go B
noncomputable def ZCL (s:List UInt8):List UInt8→Bool:=List.rec (fun u=>List.rec true (fun _ _ _=>false) u) (fun a _ ih u=>List.rec false (fun b m _=>Bool.rec false (ih m) (Nat.beq a.toNat b.toNat)) u) s
theorem Zsy:∀ (s u:List UInt8),ZCL s u=Zc2 s u
 | [],[]=>rfl
 | [],_::_=>rfl
 | _::_,[]=>rfl
 | a::s,b::u=>by
  have ih:=Zsy s u
  show (Bool.rec false (ZCL s u) (Nat.beq a.toNat b.toNat):Bool)=(bif Nat.beq a.toNat b.toNat then Zc2 s u else false)
  rw [ih]
  cases Nat.beq a.toNat b.toNat<;>rfl
noncomputable def ZEN (b:BK) (v w:Value) (F:FH) (kv:Value→FH→Option RR) (d:Option RR):Option RR:=match v with
 | .int k x=>match w with
  | .int l y=>bif kEq k l then kv (bkV b k x y) F else d
  | _=>d
 | .string s=>match w with
  | .string u=>match b with
   | .eql=>kv (.bool (ZCL s.data.toList u.data.toList)) F
   | .neq=>kv (.bool (not (ZCL s.data.toList u.data.toList))) F
   | _=>d
  | _=>d
 | _=>d
def ZEk (op:BinOp):Bool:=match ZAN op with
 | .none=>false
 | _=>true
noncomputable def ZCr (P:Program) (T:Tabs) (nb:Za9) (N n:Nat) (op:Op):EV:=⟨fun t F kv ke kp=>fin (gop P T nb N F (Zmk n t) op) F kv ke kp⟩
noncomputable def cE (P:Program) (T:Tabs) (nb:Za9) (N n:Nat) (op:Op):EV:=match op with
 | .move x=>bif Zaa x then ⟨fun t F kv _ _=>kv ((cX n x).ev t) F⟩ else ⟨fun _ _ _ _ _=>none⟩
 | .assign x=>bif Zaa x then ⟨fun t F kv _ _=>kv ((cX n x).ev t) F⟩ else ⟨fun _ _ _ _ _=>none⟩
 | .binOp b ty x y u=>bif Zaa x&&Zaa y&&ZEk b then ⟨fun t F kv ke kp=>ZEN (ZAN b) ((cX n x).ev t) ((cX n y).ev t) F kv (fin (gop P T nb N F (Zmk n t) (.binOp b ty x y u)) F kv ke kp)⟩ else ZCr P T nb N n (.binOp b ty x y u)
 | .alloc ty=>⟨fun _ F kv ke kp=>fin (Znl T F.abs ty) F kv ke kp⟩
 | .box ty x=>⟨fun t F kv ke kp=>fin (ZCf T F.abs (Zmk n t) ty x) F kv ke kp⟩
 | .build ty ps=>⟨fun t F kv ke kp=>fin (Znj T (Zmk n t) ty ps.toList) F kv ke kp⟩
 | .buildSlice ty m ps=>⟨fun t F kv ke kp=>fin (Zcs T F.abs (Zmk n t) ty m ps.toList) F kv ke kp⟩
 | .load ty x=>match ZdK T ty with
  | some false=>bif Zaa x then ⟨fun t F kv _ _=>ld1 ((cX n x).ev t) F kv⟩ else ⟨fun _ _ _ _ _=>none⟩
  | _=>⟨fun t F kv ke kp=>fin (Znh T F.abs (Zmk n t) ty x) F kv ke kp⟩
 | .store ty x y=>match T.info ty with
  | some i=>bif Zaa x&&Zaa y&&Nat.beq i.size 1 then ⟨fun t F kv ke kp=>st1 ((cX n x).ev t) ((cX n y).ev t) F kv (fin (Zef T F.abs (Zmk n t) ty x y) F kv ke kp)⟩
   else ⟨fun t F kv ke kp=>fin (Zef T F.abs (Zmk n t) ty x y) F kv ke kp⟩
  | none=>⟨fun _ _ _ _ _=>none⟩
 | .nilCheck x=>⟨fun t F kv ke kp=>fin (ZCY (Zmk n t) x) F kv ke kp⟩
 | .unOp o _ x=>match o with
  | .not=>bif Zaa x then ⟨fun t F kv _ _=>ZCP ((cX n x).ev t) F kv⟩ else ⟨fun _ _ _ _ _=>none⟩
  | _=>⟨fun _ _ _ _ _=>none⟩
 | .pick c a b=>bif Zaa c&&Zaa a&&Zaa b then ⟨fun t F kv _ _=>pk1 ((cX n c).ev t) ((cX n a).ev t) ((cX n b).ev t) F kv⟩ else ⟨fun _ _ _ _ _=>none⟩
 | .slice ty x lo hi none=>⟨fun t F kv ke kp=>fin (Zii T F.abs (Zmk n t) ty x lo hi) F kv ke kp⟩
 | .fieldAddr s x f=>match Zed T s f with
  | some off=>bif Zaa x then ⟨fun t F kv _ _=>fa1 off ((cX n x).ev t) F kv⟩ else ⟨fun _ _ _ _ _=>none⟩
  | none=>⟨fun _ _ _ _ _=>none⟩
 | .field ty x f=>match T.und ty with
  | some (.struct fields)=>match fields.toList[f]? with
   | some fd=>match ZdK T fd.type with
    | some false=>bif Zaa x then ⟨fun t F kv _ _=>fd1 fd.offset ((cX n x).ev t) F kv⟩ else ⟨fun _ _ _ _ _=>none⟩
    | _=>⟨fun t F kv ke kp=>fin (ZjZ T (Zmk n t) ty x f) F kv ke kp⟩
   | none=>⟨fun _ _ _ _ _=>none⟩
  | _=>⟨fun _ _ _ _ _=>none⟩
 | .indexAddr ty x y=>match ZaD T ty with
  | some ie=>bif Zaa x&&Zaa y then ⟨fun t F kv _ _=>ia1 ie.1.size ((cX n x).ev t) ((cX n y).ev t) F kv⟩ else ⟨fun _ _ _ _ _=>none⟩
  | none=>⟨fun _ _ _ _ _=>none⟩
 | .index ty x y=>match T.und ty with
  | some .string=>bif Zaa x&&Zaa y then ⟨fun t F kv _ _=>ix1 ((cX n x).ev t) ((cX n y).ev t) F kv⟩ else ⟨fun _ _ _ _ _=>none⟩
  | _=>⟨fun t F kv ke kp=>fin (ZdC T (Zmk n t) ty x y) F kv ke kp⟩
 | .extract x i=>bif Zaa x then ⟨fun t F kv _ _=>ex1 i ((cX n x).ev t) F kv⟩ else ⟨fun _ _ _ _ _=>none⟩
 | .call ⟨.builtin .len,args,tys⟩=>match args.toList,tys.toList with
  | [x],[ty]=>match T.und ty with
   | some (.slice _)=>bif Zaa x then ⟨fun t F kv _ _=>ZvW ((cX n x).ev t) F kv⟩ else ⟨fun _ _ _ _ _=>none⟩
   | some .string=>bif Zaa x then ⟨fun t F kv _ _=>ZvT ((cX n x).ev t) F kv⟩ else ⟨fun _ _ _ _ _=>none⟩
   | _=>⟨fun t F kv ke kp=>fin (ZrB T F.abs (Zmk n t) ty x) F kv ke kp⟩
  | _,_=>⟨fun _ _ _ _ _=>none⟩
 | .call ⟨.builtin .append,args,tys⟩=>match args.toList,tys.toList with
  | [s,x],[ty,ty']=>bif Nat.beq ty ty' then ⟨fun t F kv ke kp=>fin (ZhI T F.abs (Zmk n t) ty s x) F kv ke kp⟩ else ⟨fun t F kv ke kp=>fin (Zv6 T F.abs (Zmk n t) ty ty' s x) F kv ke kp⟩
  | _,_=>⟨fun _ _ _ _ _=>none⟩
 | .call ⟨.value (.func g),args,tys⟩=>match T.func g with
  | some _=>bif ZaO args.toList then ⟨fun t _ _ ke _=>ke g (args.toList.map (Zmk n t))⟩ else ⟨fun _ _ _ _ _=>none⟩
  | none=>ZCr P T nb N n (.call ⟨.value (.func g),args,tys⟩)
 | op=>ZCr P T nb N n op
section
variable {P:Program} {T:Tabs} {nb:Za9} {N:Nat} {n:Nat}
theorem Zpa (hG:GOK P T nb N) {t:VT} {F:FH} {op:Op} {ty:TypeId} {kv:Value→FH→Option RR} {ke:FuncId→List Value→Option RR} {kp:Value→Option RR} {r:RR} (h:(ZCr P T nb N n op).ev t F kv ke kp=some r):ZCG P (ZeN n t) F op ty kv ke kp r :=
 Zdc (fun fr hf=>Zf7 hG hf) (by unfold ZCr at h;dsimp only at h;rw [Zon] at h;exact h)
theorem ZuL (hG:GOK P T nb N) {t:VT} {F:FH} {op:Op} {ty:TypeId} {kv:Value→FH→Option RR} {ke:FuncId→List Value→Option RR} {kp:Value→Option RR} {r:RR} (h:(cE P T nb N n op).ev t F kv ke kp=some r):ZCG P (ZeN n t) F op ty kv ke kp r:=by
 unfold cE at h
 simp only [Zon] at h
 split at h
 · rename_i x
   cases hx:Zaa x with
   | false=>rw [hx] at h;cases h
   | true =>
    rw [hx] at h
    have hm:Zng (ZeN n t) x=some (.val (ZeN n t x) .same):=by unfold Zng;rw [hx];rfl
    have h':kv ((cX n x).ev t) F=some r:=h
    rw [ZdJ] at h'
    exact .inl ⟨_,F,.inl (ZiN hm).1,h'⟩
 · rename_i x
   cases hx:Zaa x with
   | false=>rw [hx] at h;cases h
   | true =>
    rw [hx] at h
    have hm:Zng (ZeN n t) x=some (.val (ZeN n t x) .same):=by unfold Zng;rw [hx];rfl
    have h':kv ((cX n x).ev t) F=some r:=h
    rw [ZdJ] at h'
    exact .inl ⟨_,F,.inl (ZiN hm).2,h'⟩
 · rename_i b tt x y u
   cases hc:Zaa x&&Zaa y&&ZEk b with
   | false=>rw [hc] at h;exact Zpa hG h
   | true =>
    rw [hc,cond_true] at h
    rw [Bool.and_eq_true,Bool.and_eq_true] at hc
    have h':ZEN (ZAN b) ((cX n x).ev t) ((cX n y).ev t) F kv (fin (gop P T nb N F (ZeN n t) (.binOp b tt x y u)) F kv ke kp)=some r:=h
    rw [ZdJ,ZdJ] at h'
    have gen:fin (gop P T nb N F (ZeN n t) (.binOp b tt x y u)) F kv ke kp=some r→ZCG P (ZeN n t) F (.binOp b tt x y u) ty kv ke kp r:=fun h=>Zdc (fun fr hf=>Zf7 hG hf) h
    unfold ZEN at h'
    split at h'
    · rename_i k a hv
      split at h'
      · rename_i l c hw
        cases hk:kEq k l with
        | false=>rw [hk] at h';exact gen h'
        | true =>
         rw [hk,cond_true] at h'
         refine .inl ⟨_,F,.inl (ZEL hc.1.1 hc.1.2 hv hw hk ?_ hG.tab),h'⟩
         intro e
         have:=hc.2
         unfold ZEk at this
         rw [e] at this;cases this
      · exact gen h'
    · rename_i s hv
      split at h'
      · rename_i u' hw
        rw [Zsy] at h'
        have hal:ZaO [x,y]=true:=by rw [Zas];simp [hc.1.1,hc.1.2]
        have key:∀ v,Znk T (ZeN n t) b tt x y=some (.val v .same)→kv v F=some r→ZCG P (ZeN n t) F (.binOp b tt x y u) ty kv ke kp r:=fun v hf hk=>.inl ⟨v,F,.inl (ZhH hG.tab hf),hk⟩
        split at h'
        · rename_i hbk
          refine key _ ?_ h'
          have:b=.eql:=by revert hbk;cases b<;>intro hbk<;>first | rfl | cases hbk
          unfold Znk
          rw [hal,cond_true,hv,hw,this]
          rfl
        · rename_i hbk
          refine key _ ?_ h'
          have:b=.neq:=by revert hbk;cases b<;>intro hbk<;>first | rfl | cases hbk
          unfold Znk
          rw [hal,cond_true,hv,hw,this]
          rfl
        · exact gen h'
      · exact gen h'
    · exact gen h'
 · exact Zdc (fun fr hf=>Zj3 hG.tab hf) h
 · exact Zdc (fun fr hf=>ZoS hG.tab hf) h
 · exact Zdc (fun fr hf=>Zj2 hG.tab hf) h
 · exact Zdc (fun fr hf=>Zc0 hG.tab hf) h
 ·
  rename_i tt x
  split at h
  · rename_i ha
    cases hx:Zaa x with
    | false=>rw [hx] at h;cases h
    | true =>
     rw [hx,cond_true] at h
     have h':ld1 ((cX n x).ev t) F kv=some r:=h
     rw [ZdJ] at h'
     obtain ⟨a,w,h1,h2,h3⟩:=ZBS h'
     exact .inl ⟨w,F,.inl (Zha hG.tab (Zv8 hx h1 ha h2)),h3⟩
  · exact Zdc (fun fr hf=>Zha hG.tab hf) h
 ·
  rename_i tt x y
  split at h
  case h_2=>cases h
  rename_i i hi
  cases hc:Zaa x&&Zaa y&&Nat.beq i.size 1 with
  | false=>rw [hc] at h;exact Zdc (fun fr hf=>Zee hG.tab hf) h
  | true =>
   rw [hc,cond_true] at h
   rw [Bool.and_eq_true,Bool.and_eq_true] at hc
   have h':st1 ((cX n x).ev t) ((cX n y).ev t) F kv (fin (Zef T F.abs (ZeN n t) tt x y) F kv ke kp)=some r:=h
   rw [ZdJ,ZdJ] at h'
   rcases ZBa hc.1.1 hc.1.2 hi (Nat.eq_of_beq_eq_true hc.2) h' with ⟨_,hd⟩ | ⟨c,F',h1,h2,h3⟩
   · exact Zdc (fun fr hf=>Zee hG.tab hf) hd
   · exact .inl ⟨undef,F',.inr ⟨by rw [Chg.onF_abs h2];exact Zee hG.tab h1,rfl⟩,h3⟩
 · exact Zdc (fun fr hf=>Zuq hf) h
 ·
  rename_i o tt x
  split at h
  · cases hx:Zaa x with
    | false=>rw [hx] at h;cases h
    | true =>
     rw [hx,cond_true] at h
     have h':ZCP ((cX n x).ev t) F kv=some r:=h
     rw [ZdJ] at h'
     obtain ⟨w,h1,h2⟩:=Zza hx h'
     exact .inl ⟨w,F,.inl (Zp8 h1),h2⟩
  · cases h
 ·
  rename_i c a b
  cases hc:Zaa c&&Zaa a&&Zaa b with
  | false=>rw [hc] at h;cases h
  | true =>
   rw [hc,cond_true] at h
   rw [Bool.and_eq_true,Bool.and_eq_true] at hc
   have h':pk1 ((cX n c).ev t) ((cX n a).ev t) ((cX n b).ev t) F kv=some r:=h
   rw [ZdJ,ZdJ,ZdJ] at h'
   obtain ⟨w,h1,h2⟩:=ZBB hc.1.1 hc.1.2 hc.2 h'
   exact .inl ⟨w,F,.inl (Zp9 h1),h2⟩
 · exact Zdc (fun fr hf=>Zfp hG.tab hf) h
 ·
  rename_i s x f
  split at h
  case h_2=>cases h
  rename_i off hoff
  cases hx:Zaa x with
  | false=>rw [hx] at h;cases h
  | true =>
   rw [hx,cond_true] at h
   have h':fa1 off ((cX n x).ev t) F kv=some r:=h
   rw [ZdJ] at h'
   obtain ⟨w,h1,h2⟩:=ZCe hx hoff h'
   exact .inl ⟨w,F,.inl (Zdh hG.tab h1),h2⟩
 ·
  rename_i tt x f
  split at h
  case h_2=>cases h
  rename_i fields hu
  split at h
  case h_2=>cases h
  rename_i fd hfd
  split at h
  · rename_i ha
    cases hx:Zaa x with
    | false=>rw [hx] at h;cases h
    | true =>
     rw [hx,cond_true] at h
     have h':fd1 fd.offset ((cX n x).ev t) F kv=some r:=h
     rw [ZdJ] at h'
     obtain ⟨w,h1,h2⟩:=ZCd hx hu hfd ha h'
     exact .inl ⟨w,F,.inl (Zhb hG.tab h1),h2⟩
  · exact Zdc (fun fr hf=>Zhb hG.tab hf) h
 ·
  rename_i tt x y
  split at h
  case h_2=>cases h
  rename_i ie hie
  obtain ⟨i,e⟩:=ie
  cases hc:Zaa x&&Zaa y with
  | false=>rw [hc] at h;cases h
  | true =>
   rw [hc,cond_true] at h
   rw [Bool.and_eq_true] at hc
   have h':ia1 i.size ((cX n x).ev t) ((cX n y).ev t) F kv=some r:=h
   rw [ZdJ,ZdJ] at h'
   obtain ⟨w,h1,h2⟩:=ZB7 hc.1 hc.2 hie h'
   exact .inl ⟨w,F,.inl (ZcG hG.tab h1),h2⟩
 ·
  rename_i tt x y
  split at h
  · rename_i hu
    cases hc:Zaa x&&Zaa y with
    | false=>rw [hc] at h;cases h
    | true =>
     rw [hc,cond_true] at h
     rw [Bool.and_eq_true] at hc
     have h':ix1 ((cX n x).ev t) ((cX n y).ev t) F kv=some r:=h
     rw [ZdJ,ZdJ] at h'
     obtain ⟨w,h1,h2⟩:=ZBZ hc.1 hc.2 hu h'
     exact .inl ⟨w,F,.inl (Zfq hG.tab h1),h2⟩
  · exact Zdc (fun fr hf=>Zfq hG.tab hf) h
 ·
  rename_i x i
  cases hx:Zaa x with
  | false=>rw [hx] at h;cases h
  | true =>
   rw [hx,cond_true] at h
   have h':ex1 i ((cX n x).ev t) F kv=some r:=h
   rw [ZdJ] at h'
   obtain ⟨w,h1,h2⟩:=ZCi hx h'
   exact .inl ⟨w,F,.inl (Zgu h1),h2⟩
 ·
  rename_i args tys
  split at h
  case h_2=>cases h
  rename_i x tt ha ht
  rw [Zcg ha,Zcg ht]
  split at h
  · rename_i e hu
    cases hx:Zaa x with
    | false=>rw [hx] at h;cases h
    | true =>
     rw [hx,cond_true] at h
     have h':ZvW ((cX n x).ev t) F kv=some r:=h
     rw [ZdJ] at h'
     obtain ⟨w,h1,h2⟩:=ZvV (H:=F.abs) hx hu h'
     exact .inl ⟨w,F,.inl (Zd0 hG.tab h1),h2⟩
  · rename_i hu
    cases hx:Zaa x with
    | false=>rw [hx] at h;cases h
    | true =>
     rw [hx,cond_true] at h
     have h':ZvT ((cX n x).ev t) F kv=some r:=h
     rw [ZdJ] at h'
     obtain ⟨w,h1,h2⟩:=ZvS (H:=F.abs) hx hu h'
     exact .inl ⟨w,F,.inl (Zd0 hG.tab h1),h2⟩
  · exact Zdc (fun fr hf=>Zd0 hG.tab hf) h
 ·
  rename_i args tys
  split at h
  case h_2=>cases h
  rename_i s x tt tt' ha ht
  cases hb:Nat.beq tt tt' with
  | false =>
   rw [hb,cond_false] at h
   rw [Zcg ha,Zcg ht]
   exact Zdc (fun fr hf=>Zqa hG.tab (fun e=>by rw [e,Nat.beq_refl] at hb;cases hb) hf) h
  | true =>
   rw [hb,cond_true] at h
   obtain rfl:tt=tt':=Nat.eq_of_beq_eq_true hb
   rw [Zcg ha,Zcg ht]
   exact Zdc (fun fr hf=>Zeg hG.tab hf) h
 · rename_i g args tys
   split at h
   · rename_i fn hfn
     cases ha:ZaO args.toList with
     | false=>rw [ha] at h;cases h
     | true =>
      rw [ha,cond_true] at h
      refine .inr (.inl ⟨g,_,?_,h⟩)
      have:Zrj T (ZeN n t) (.func g) args.toList=some (.enter g (args.toList.map (ZeN n t))):=by
       unfold Zrj
       have h1:ZaO (.func g::args.toList)=true:=by unfold ZaO;rw [ha];rfl
       rw [h1,cond_true]
       have h2:ZeN n t (.func g)=.func (.func g) #[] #[]:=rfl
       rw [h2]
       dsimp only
       rw [hfn]
       simp
      exact Zl3 hG.ent this
   · exact Zpa hG h
 · exact Zpa hG h
end
structure LR where
 run:Zcf→(VT→List ADef→FH→Option RR)→(Value→VT→List ADef→FH→Option RR)→VT→List ADef→FH→Option RR
noncomputable def ZCW (rest:LR) (D:DV) (call:Zcf) (k:VT→List ADef→FH→Option RR) (kp:Value→VT→List ADef→FH→Option RR) (t:VT) (d:List ADef) (F:FH) (f:FuncId) (args:List Value):Option RR:=match call f args F with
 | some (e,F')=>match e with
  | .ret v=>rest.run call k kp (D.put v t) d F'
  | .panic v=>kp v t d F'
 | none=>none
noncomputable def cOp (P:Program) (T:Tabs) (nb:Za9) (N n:Nat) (df:Bool) (o:Oper) (rest:LR):LR:=bif (cD n o.dst).ok then
    bif Zbd o.op then (match o.op with
     | .defer c=>bif df&&ZaO o.op.operands.toList then ⟨fun call k kp t d F=>match ZnA T (Zmk n t) c with
         | some dd=>rest.run call k kp ((cD n o.dst).put undef t) (dd::d) F
         | none=>none⟩
      else ⟨fun _ _ _ _ _ _=>none⟩
     | _=>⟨fun _ _ _ _ _ _=>none⟩)
    else ⟨fun call k kp t d F=>(cE P T nb N n o.op).ev t F (fun v F'=>rest.run call k kp ((cD n o.dst).put v t) d F') (fun f args=>ZCW rest (cD n o.dst) call k kp t d F f args) (fun v=>kp v t d F)⟩
 else ⟨fun _ _ _ _ _ _=>none⟩
def isB (want:Bool) (v:Value):Bool:=match v with
 | .bool b=>match want with
  | true=>b
  | false=>not b
 | _=>false
structure GB where
 ev:VT→Bool
noncomputable def cG (n:Nat) (all:List Oper) (o:Oper):GB:=match o.guard with
 | none=>⟨fun _=>true⟩
 | some (j,want)=>match all[j]? with
  | some o'=>match o'.dst with
   | some d=>bif Nat.blt d n then (bif Nat.blt d 256 then ⟨fun t=>isB want ((gv 20 d).ev t)⟩ else ⟨fun t=>isB want (t.get d)⟩) else ⟨fun _=>false⟩
   | none=>⟨fun _=>false⟩
  | none=>⟨fun _=>false⟩
theorem Zz3 {n:Nat} {all:List Oper} {o:Oper} {t:VT}:(cG n all o).ev t=ZdV all n t o:=by
 unfold cG ZdV
 cases hg:o.guard with
 | none=>rfl
 | some p =>
  obtain ⟨j,want⟩:=p
  dsimp only
  cases all[j]? with
  | none=>rfl
  | some o' =>
   dsimp only
   cases o'.dst with
   | none=>rfl
   | some d =>
    dsimp only
    cases hb:Nat.blt d n with
    | false=>rfl
    | true =>
     have key:isB want (t.get d)=(bif true then (match t.get d with
         | .bool b=>b == want
         | _=>false) else false):=by
      unfold isB
      rw [cond_true]
      cases t.get d<;>first | rfl | skip
      rename_i b
      cases b<;>cases want<;>rfl
     rw [cond_true]
     cases hm:Nat.blt d 256 with
     | false=>exact key
     | true =>
      show isB want ((gv 20 d).ev t)=_
      rw [ZCa 20 d t (by rw [Nat.blt_eq] at hm;exact hm)]
      exact key
noncomputable def cL (P:Program) (T:Tabs) (nb:Za9) (N n:Nat) (df:Bool) (all:List Oper):List Oper→LR
 | []=>⟨fun _ k _ t d F=>k t d F⟩
 | o::rest=>match o.guard with
  | none=>cOp P T nb N n df o (cL P T nb N n df all rest)
  | some _=>bif (cD n o.dst).ok then ⟨fun call k kp t d F=>bif (cG n all o).ev t then (cOp P T nb N n df o (cL P T nb N n df all rest)).run call k kp t d F
      else (cL P T nb N n df all rest).run call k kp ((cD n o.dst).put undef t) d F⟩
   else ⟨fun _ _ _ _ _ _=>none⟩
def ZE0 (n:Nat) (k:VT→List ADef→FH→Option RR) (kp:Value→VT→List ADef→FH→Option RR) (r:RR) (x:AExit) (s:St):Prop :=
 (x=.normal∧∃ t d F,s=⟨tmL n t,d,F.abs⟩∧k t d F=some r)∨∃ v t d F,x=.panic v∧s=⟨tmL n t,d,F.abs⟩∧kp v t d F=some r
section
variable {P:Program} {T:Tabs} {nb:Za9} {N:Nat} {n:Nat}
theorem ZxG (hG:GOK P T nb N) {call:Zcf} {callA:CallT} (hcall:Zcu call callA) {df rnd:Bool} (hd:df=true→rnd=false) {all rest:List Oper} {R:LR} {k:VT→List ADef→FH→Option RR} {kp:Value→VT→List ADef→FH→Option RR} {r:RR}
    (ih:∀ t d F,R.run call k kp t d F=some r→∃ x s,Zbq P callA rnd all rest ⟨tmL n t,d,F.abs⟩=some (x,s)∧ZE0 n k kp r x s) {o:Oper} {t:VT} {d:List ADef} {F:FH} (h:(cOp P T nb N n df o R).run call k kp t d F=some r) (hw:Zat all (tmL n t) o=true) :
    ∃ x s,Zbq P callA rnd all (o::rest) ⟨tmL n t,d,F.abs⟩=some (x,s)∧ZE0 n k kp r x s:=by
 unfold cOp at h
 unfold Zbq
 rw [if_pos hw]
 cases hD:(cD n o.dst).ok with
 | false=>rw [hD] at h;cases h
 | true =>
  rw [hD,cond_true] at h
  cases hdf:Zbd o.op with
  | true =>
   rw [hdf,cond_true] at h
   simp only [if_true]
   split at h
   case h_2=>cases h
   rename_i c hop
   cases hc:df&&ZaO o.op.operands.toList with
   | false=>rw [hc] at h;cases h
   | true =>
    rw [hc,cond_true] at h
    rw [Bool.and_eq_true,Zas] at hc
    dsimp only at h
    split at h
    case h_2=>cases h
    rename_i dd hdd
    rw [hop] at hc ⊢
    dsimp only
    rw [if_pos ⟨hd hc.1,by simpa using hc.2⟩]
    rw [Zon,Zbj] at hdd
    rw [ZuD hG.tab hG.ent hdd,ZhP hD]
    exact ih _ _ _ h
  | false =>
   rw [hdf,cond_false] at h
   simp only [Bool.false_eq_true,if_false]
   have h':(cE P T nb N n o.op).ev t F (fun v F'=>R.run call k kp ((cD n o.dst).put v t) d F') (fun f args=>ZCW R (cD n o.dst) call k kp t d F f args) (fun v=>kp v t d F)=some r:=h
   rcases ZuL (ty:=o.type) hG h' with ⟨v,F',hop,hr⟩ | ⟨f,args,hop,hr⟩ | ⟨v,hop,hr⟩
   · rw [Zbj] at hop
     rcases hop with hop | ⟨hop,rfl⟩
     · rw [hop,Zb9,ZhP hD]
       exact ih _ _ _ hr
     · rw [hop,ZcA,ZhP hD]
       exact ih _ _ _ hr
   · rw [Zbj] at hop
     rw [hop,ZcW]
     have hr':ZCW R (cD n o.dst) call k kp t d F f args=some r:=hr
     clear hr
     unfold ZCW at hr'
     split at hr'
     case h_2=>cases hr'
     rename_i e F' hc
     rw [hcall _ _ _ _ _ hc]
     cases e with
     | ret v =>
      rw [ZnH,ZhP hD]
      exact ih _ _ _ hr'
     | panic v=>exact ⟨_,_,rfl,.inr ⟨v,t,d,F',rfl,rfl,hr'⟩⟩
   · rw [Zbj] at hop
     rw [hop]
     exact ⟨_,_,rfl,.inr ⟨v,t,d,F,rfl,rfl,hr⟩⟩
theorem Zz2 (hG:GOK P T nb N) {call:Zcf} {callA:CallT} (hcall:Zcu call callA) {df rnd:Bool} (hd:df=true→rnd=false) {all:List Oper} {k:VT→List ADef→FH→Option RR} {kp:Value→VT→List ADef→FH→Option RR} {r:RR} :
    ∀ (l:List Oper) (t:VT) (d:List ADef) (F:FH),(cL P T nb N n df all l).run call k kp t d F=some r→∃ x s,Zbq P callA rnd all l ⟨tmL n t,d,F.abs⟩=some (x,s)∧ZE0 n k kp r x s
 | [],t,d,F,h=>⟨.normal,_,rfl,.inl ⟨rfl,t,d,F,rfl,h⟩⟩
 | o::rest,t,d,F,h=>by
  rw [cL] at h
  have ih:=Zz2 hG hcall hd (all:=all) (k:=k) (kp:=kp) (r:=r) rest
  split at h
  · rename_i hg
    exact ZxG hG hcall hd ih h (by unfold Zat;rw [hg])
  · cases hD:(cD n o.dst).ok with
    | false=>rw [hD] at h;cases h
    | true =>
     rw [hD,cond_true] at h
     dsimp only at h
     rw [Zz3,Zdn] at h
     cases hw:Zat all (tmL n t) o with
     | true =>
      rw [hw,cond_true] at h
      exact ZxG hG hcall hd ih h hw
     | false =>
      rw [hw,cond_false] at h
      unfold Zbq
      rw [if_neg (by rw [hw];simp)]
      dsimp only
      rw [ZhP hD]
      exact ih _ _ _ h
end
end
section
open Go B
inductive PI where
 | quiet (plan:List Nat)
 | reads (plan:List Nat) (B:List Nat)
structure LRP where
 run:Zcf→List RdF→(VT→FH→Option RR)→(Value→FH→Option RR)→VT→FH→Option RR
noncomputable def ZyE (rest:LRP) (D:DV) (call:Zcf) (R:List RdF) (k:VT→FH→Option RR) (kp:Value→FH→Option RR) (t:VT) (F:FH) (f:FuncId) (args:List Value):Option RR:=match call f args F with
 | some (e,F')=>match e with
  | .ret v=>rest.run call R k kp (D.put v t) F'
  | .panic v=>kp v F'
 | none=>none
noncomputable def pAl (rest:LRP) (D:DV) (j:Nat) (call:Zcf) (R:List RdF) (k:VT→FH→Option RR) (kp:Value→FH→Option RR) (t:VT) (F:FH) (v:Value) (F':FH):Option RR:=match F'.t.get F.next with
 | some ob=>rest.run call (.al j F.next ob::R) k kp (D.put v t) F'
 | none=>none
noncomputable def ZBD (P:Program) (T:Tabs) (nb:Za9) (N n:Nat) (B:List Nat) (j:Nat) (o:Oper) (rest:LRP):LRP:=match ZaS o.op with
 | .pure=>⟨fun call R k kp t F=>(cE P T nb N n o.op).ev t F (fun v F'=>rest.run call R k kp ((cD n o.dst).put v t) F') (fun _ _=>none) (fun _=>none)⟩
 | .read=>⟨fun call R k kp t F=>(cE P T nb N n o.op).ev t F (fun v F'=>rest.run call (.rd j o.op n t v::R) k kp ((cD n o.dst).put v t) F') (fun _ _=>none) (fun _=>none)⟩
 | .alloc=>⟨fun call R k kp t F=>(cE P T nb N n o.op).ev t F (fun v F'=>pAl rest (cD n o.dst) j call R k kp t F v F') (fun _ _=>none) (fun _=>none)⟩
 | .effect=>⟨fun call R k kp t F=>bif ZbB P T F R then (cE P T nb N n o.op).ev t F (fun v F'=>rest.run call (Zf1 B j R) k kp ((cD n o.dst).put v t) F')
     (fun f args=>ZyE rest (cD n o.dst) call (Zf1 B j R) k kp t F f args) (fun v=>kp v F) else none⟩
noncomputable def Zmd (P:Program) (T:Tabs) (nb:Za9) (N n:Nat) (l:List Oper) (B:List Nat):List Nat→LRP
 | []=>⟨fun _ R k _ t F=>bif ZbB P T F R then k t F else none⟩
 | j::rest=>match l[j]? with
  | some o=>bif (cD n o.dst).ok then match o.guard with
      | none=>ZBD P T nb N n B j o (Zmd P T nb N n l B rest)
      | some _=>bif ZaM o then ⟨fun call R k kp t F=>bif (cG n l o).ev t then (ZBD P T nb N n B j o (Zmd P T nb N n l B rest)).run call R k kp t F
          else bif ZbB P T F R then (Zmd P T nb N n l B rest).run call (Zf1 B j R) k kp ((cD n o.dst).put undef t) F else none⟩
       else ⟨fun call R k kp t F=>bif (cG n l o).ev t then (ZBD P T nb N n B j o (Zmd P T nb N n l B rest)).run call R k kp t F
        else (Zmd P T nb N n l B rest).run call R k kp ((cD n o.dst).put undef t) F⟩
   else ⟨fun _ _ _ _ _ _=>none⟩
  | none=>⟨fun _ _ _ _ _ _=>none⟩
def ZEV (n:Nat) (dfs:List ADef) (k:VT→FH→Option RR) (kp:Value→FH→Option RR) (r:RR) (x:AExit) (s:St):Prop :=
 (x=.normal∧∃ t F,s=⟨tmL n t,dfs,F.abs⟩∧k t F=some r)∨∃ v F,x=.panic v∧s=⟨[],dfs,F.abs⟩∧kp v F=some r
section
variable {P:Program} {T:Tabs} {nb:Za9} {N:Nat} {n:Nat}
theorem Zou (hG:GOK P T nb N) {call:Zcf} {callA:CallT} (hcall:Zcu call callA) {l:List Oper} {B:List Nat} {dfs:List ADef} {k:VT→FH→Option RR} {kp:Value→FH→Option RR} {r:RR} {j:Nat} {rest:List Nat} {Q:LRP}
    (ih:∀ (R:List RdF) (Ra:List Tr) (t:VT) (F:FH),(∀ t∈Ra,∃ r∈R,RelR t r)→Q.run call R k kp t F=some r→∃ x s,Zdm P callA l dfs B Ra rest (tmL n t) F.abs x s∧ZEV n dfs k kp r x s)
    {o:Oper} (ho:l[j]?=some o) (hD:(cD n o.dst).ok=true) {R:List RdF} {Ra:List Tr} {t:VT} {F:FH} (hw:Zat l (tmL n t) o=true) (hR:∀ t∈Ra,∃ r∈R,RelR t r)
    (hRall:ZbB P T F R=true→(∀ t∈Ra,same P t F.abs∧(bit B j t.j=true∨t∈Ra.filter fun t=>!(bit B j t.j)))∧(∀ t∈Ra.filter (fun t=>!(bit B j t.j)),∃ r∈Zf1 B j R,RelR t r))
    (h:(ZBD P T nb N n B j o Q).run call R k kp t F=some r):∃ x s,Zdm P callA l dfs B Ra (j::rest) (tmL n t) F.abs x s∧ZEV n dfs k kp r x s:=by
 unfold ZBD at h
 split at h
 · rename_i hk
   rcases ZuL (ty:=o.type) hG h with ⟨v,F',hop,hr⟩ | ⟨f,args,hop,hr⟩ | ⟨v,hop,hr⟩
   · rw [Zbj] at hop
     rcases hop with hop | ⟨hop,rfl⟩
     · have hop':=hop
       rw [←ZaE] at hop'
       obtain ⟨v',h1,_⟩:=Zev hk hop'
       simp only [ARes.val.injEq] at h1
       have hr':Q.run call R k kp ((cD n o.dst).put v t) F'=some r:=hr
       obtain ⟨x,s,p1,p2⟩:=ih R Ra _ _ hR hr'
       rw [h1.2] at p1 hop
       exact ⟨x,s,Zhw ho hw hk hop (by rw [ZhP hD];exact p1),p2⟩
     · rw [←ZaE] at hop
       obtain ⟨v',h1,_⟩:=Zev hk hop
       cases h1
   · cases hr
   · cases hr
 · rename_i hk
   rcases ZuL (ty:=o.type) hG h with ⟨v,F',hop,hr⟩ | ⟨f,args,hop,hr⟩ | ⟨v,hop,hr⟩
   · rw [Zbj] at hop
     rcases hop with hop | ⟨hop,rfl⟩
     · have hop':=hop
       rw [←ZaE] at hop'
       obtain ⟨v',h1⟩:=Zeu hk hop'
       simp only [ARes.val.injEq] at h1
       have hr':Q.run call (.rd j o.op n t v::R) k kp ((cD n o.dst).put v t) F'=some r:=hr
       rw [h1.2] at hop
       obtain ⟨x,s,p1,p2⟩:=ih (.rd j o.op n t v::R) (⟨j,o,tmL n t,F.abs,v,F.abs,true⟩::Ra) _ _ (fun t' ht'=>by
        rcases List.mem_cons.1 ht' with rfl | ht'
        · exact ⟨_,List.mem_cons_self ..,rfl,hk,rfl,rfl,rfl⟩
        · obtain ⟨r,hr,hrel⟩:=hR t' ht'
          exact ⟨r,List.mem_cons_of_mem _ hr,hrel⟩) hr'
       rw [h1.2] at p1
       exact ⟨x,s,Zdp ho hw (.inl hk) hop (by rw [ZhP hD];exact p1),p2⟩
     · rw [←ZaE] at hop
       obtain ⟨v',h1⟩:=Zeu hk hop
       cases h1
   · cases hr
   · cases hr
 · rename_i hk
   rcases ZuL (ty:=o.type) hG h with ⟨v,F',hop,hr⟩ | ⟨f,args,hop,hr⟩ | ⟨v,hop,hr⟩
   · rw [Zbj] at hop
     rcases hop with hop | ⟨hop,rfl⟩
     · have hr':pAl Q (cD n o.dst) j call R k kp t F v F'=some r:=hr
       unfold pAl at hr'
       split at hr'
       case h_2=>cases hr'
       rename_i ob hob
       obtain ⟨x,s,p1,p2⟩:=ih (.al j F.next ob::R) (⟨j,o,tmL n t,F.abs,v,F'.abs,true⟩::Ra) _ _ (fun t' ht'=>by
        rcases List.mem_cons.1 ht' with rfl | ht'
        · exact ⟨_,List.mem_cons_self ..,rfl,hk,rfl,hob⟩
        · obtain ⟨r,hr,hrel⟩:=hR t' ht'
          exact ⟨r,List.mem_cons_of_mem _ hr,hrel⟩) hr'
       exact ⟨x,s,Zdp ho hw (.inr hk) hop (by rw [ZhP hD];exact p1),p2⟩
     · rw [←ZaE] at hop
       obtain ⟨v',H',h1⟩:=Zhk hk hop
       cases h1
   · cases hr
   · cases hr
 · rename_i hk
   dsimp only at h
   cases hc:ZbB P T F R with
   | false=>rw [hc] at h;cases h
   | true =>
    rw [hc,cond_true] at h
    obtain ⟨hR1,hR2⟩:=hRall hc
    rcases ZuL (ty:=o.type) hG h with ⟨v,F',hop,hr⟩ | ⟨f,args,hop,hr⟩ | ⟨v,hop,hr⟩
    · rw [Zbj] at hop
      have hr':Q.run call (Zf1 B j R) k kp ((cD n o.dst).put v t) F'=some r:=hr
      obtain ⟨x,s,p1,p2⟩:=ih _ _ _ _ hR2 hr'
      rcases hop with hop | ⟨hop,rfl⟩
      · exact ⟨x,s,Zjv ho hw hk hop hR1 (by rw [ZhP hD];exact p1),p2⟩
      · exact ⟨x,s,Zhv ho hw hk hop hR1 (by rw [ZhP hD];exact p1),p2⟩
    · rw [Zbj] at hop
      have hr':ZyE Q (cD n o.dst) call (Zf1 B j R) k kp t F f args=some r:=hr
      unfold ZyE at hr'
      split at hr'
      case h_2=>cases hr'
      rename_i e F' hcl
      cases e with
      | ret v =>
       obtain ⟨x,s,p1,p2⟩:=ih _ _ _ _ hR2 hr'
       exact ⟨x,s,Zhy ho hw hk hop (hcall _ _ _ _ _ hcl) hR1 (by rw [ZhP hD];exact p1),p2⟩
      | panic v=>exact ⟨.panic v,_,Zd5 ho hw (.inr ⟨f,args,_,hop,hcall _ _ _ _ _ hcl⟩) fun t ht=>(hR1 t ht).1,.inr ⟨v,F',rfl,rfl,hr'⟩⟩
    · rw [Zbj] at hop
      exact ⟨.panic v,_,Zd5 ho hw (.inl hop) fun t ht=>(hR1 t ht).1,.inr ⟨v,F,rfl,rfl,hr⟩⟩
theorem Zqi (hG:GOK P T nb N) {call:Zcf} {callA:CallT} (hcall:Zcu call callA) {l:List Oper} {B:List Nat} {dfs:List ADef} {k:VT→FH→Option RR} {kp:Value→FH→Option RR} {r:RR} :
    ∀ (plan:List Nat) (R:List RdF) (Ra:List Tr) (t:VT) (F:FH),(∀ t∈Ra,∃ r∈R,RelR t r)→(Zmd P T nb N n l B plan).run call R k kp t F=some r→∃ x s,Zdm P callA l dfs B Ra plan (tmL n t) F.abs x s∧ZEV n dfs k kp r x s
 | [],R,Ra,t,F,hR,h=>by
  rw [Zmd] at h
  have h':(bif ZbB P T F R then k t F else none)=some r:=h
  cases hc:ZbB P T F R with
  | false=>rw [hc] at h';cases h'
  | true =>
   rw [hc,cond_true] at h'
   refine ⟨.normal,_,Zjw fun t ht=>?_,.inl ⟨rfl,t,F,rfl,h'⟩⟩
   obtain ⟨r,hr,hrel⟩:=hR t ht
   exact ZiE hG.tab hG.ent (Zel hG.tab hG.ent hc r hr) hrel
 | j::rest,R,Ra,t,F,hR,h=>by
  have hRall:ZbB P T F R=true→(∀ t∈Ra,same P t F.abs∧(bit B j t.j=true∨t∈Ra.filter fun t=>!(bit B j t.j)))∧(∀ t∈Ra.filter (fun t=>!(bit B j t.j)),∃ r∈Zf1 B j R,RelR t r):=by
   intro hc
   constructor
   · intro t ht
     obtain ⟨r,hr,hrel⟩:=hR t ht
     refine ⟨ZiE hG.tab hG.ent (Zel hG.tab hG.ent hc r hr) hrel,?_⟩
     cases hb:bit B j t.j with
     | true=>exact .inl rfl
     | false=>exact .inr (List.mem_filter.2 ⟨ht,by simp [hb]⟩)
   · intro t ht
     obtain ⟨ht1,ht2⟩:=List.mem_filter.1 ht
     obtain ⟨r,hr,hrel⟩:=hR t ht1
     exact ⟨r,List.mem_filter.2 ⟨hr,by rw [←hrel.jj];exact ht2⟩,hrel⟩
  have ih:=Zqi hG hcall (l:=l) (B:=B) (dfs:=dfs) (k:=k) (kp:=kp) (r:=r) rest
  rw [Zmd] at h
  split at h
  case h_2=>cases h
  rename_i o ho
  cases hD:(cD n o.dst).ok with
  | false=>rw [hD] at h;cases h
  | true =>
   rw [hD,cond_true] at h
   split at h
   · rename_i hg
     exact Zou hG hcall ih ho hD (by unfold Zat;rw [hg]) hR hRall h
   · cases hk:ZaM o with
     | true =>
      rw [hk,cond_true] at h
      dsimp only at h
      rw [Zz3,Zdn] at h
      cases hw:Zat l (tmL n t) o with
      | true =>
       rw [hw,cond_true] at h
       exact Zou hG hcall ih ho hD hw hR hRall h
      | false =>
       rw [hw,cond_false] at h
       cases hc:ZbB P T F R with
       | false=>rw [hc] at h;cases h
       | true =>
        rw [hc,cond_true] at h
        obtain ⟨hR1,hR2⟩:=hRall hc
        obtain ⟨x,s,p1,p2⟩:=ih _ _ _ _ hR2 h
        exact ⟨x,s,Zhx ho hw hk hR1 (by rw [ZhP hD];exact p1),p2⟩
     | false =>
      rw [hk,cond_false] at h
      dsimp only at h
      rw [Zz3,Zdn] at h
      cases hw:Zat l (tmL n t) o with
      | true =>
       rw [hw,cond_true] at h
       exact Zou hG hcall ih ho hD hw hR hRall h
      | false =>
       rw [hw,cond_false] at h
       obtain ⟨x,s,p1,p2⟩:=ih _ _ _ _ hR h
       exact ⟨x,s,Zju ho hw hk (by rw [ZhP hD];exact p1),p2⟩
end
noncomputable def ZzT (n:Nat) (k:VT→List ADef→FH→Option RR) (kp:Value→VT→List ADef→FH→Option RR):Option RR→Option RR
 | some (x,s)=>match x with
  | .normal=>bif Nat.beq s.n n then k s.t s.dfs s.F else none
  | .panic v=>bif Nat.beq s.n 0 then kp v s.t s.dfs s.F else none
  | _=>none
 | none=>none
noncomputable def ZuK (P:Program) (T:Tabs) (nb:Za9) (N n:Nat) (ops:List Oper) (plan:List Nat):LR:=⟨fun call k kp t d F=>(cL P T nb N n false ops (plan.filterMap fun j=>ops[j]?)).run call k (fun v _ d F=>kp v .nil d F) t d F⟩
noncomputable def ZuJ (P:Program) (T:Tabs) (nb:Za9) (N n:Nat) (ops:List Oper) (plan B:List Nat):LR:=⟨fun call k kp t d F=>(Zmd P T nb N n ops B plan).run call [] (fun t F=>k t d F) (fun v F=>kp v .nil d F) t F⟩
def ZFy (ops:List Oper):Option PI→Bool
 | none=>true
 | some (.quiet plan)=>ZdX ops plan
 | some (.reads plan B)=>ZbD ops plan&&(Zbf ops == B)
noncomputable def Zz4 (P:Program) (T:Tabs) (nb:Za9) (N n:Nat) (q:Option PI) (ops:List Oper):LR:=match q with
 | some (.quiet plan)=>ZuK P T nb N n ops plan
 | some (.reads plan B)=>ZuJ P T nb N n ops plan B
 | none=>bif ZdX ops (Zbo ops) then ZuK P T nb N n ops (Zbo ops)
 else bif ZbD ops (Zbo ops) then ZuJ P T nb N n ops (Zbo ops) (Zbf ops)
 else ⟨fun call k kp t d F=>ZzT n k kp (ZzE P T nb N call ops ⟨n,t,d,F⟩)⟩
section
variable {P:Program} {T:Tabs} {nb:Za9} {N:Nat} {n:Nat}
def ZC4 (n:Nat) (k:VT→List ADef→FH→Option RR) (kp:Value→VT→List ADef→FH→Option RR) (r:RR) (x:AExit) (s:St):Prop :=
 (x=.normal∧∃ t d F,s=⟨tmL n t,d,F.abs⟩∧k t d F=some r)∨∃ v t d F,x=.panic v∧s=⟨[],d,F.abs⟩∧kp v t d F=some r
theorem Zwj {k:VT→List ADef→FH→Option RR} {kp:Value→VT→List ADef→FH→Option RR} {r:RR} {y:Option RR} {z:Option (AExit×St)} (hz:∀ x s,y=some (x,s)→z=some (x,s.abs)) (h:ZzT n k kp y=some r):∃ x s,z=some (x,s)∧ZC4 n k kp r x s:=by
 unfold ZzT at h
 split at h
 case h_2=>cases h
 rename_i x s
 refine ⟨x,s.abs,hz _ _ rfl,?_⟩
 split at h
 · cases hn:Nat.beq s.n n with
   | false=>rw [hn] at h;cases h
   | true =>
    rw [hn,cond_true] at h
    have e:=Nat.eq_of_beq_eq_true hn
    exact .inl ⟨rfl,s.t,s.dfs,s.F,by unfold FSt.abs;rw [e],h⟩
 · rename_i v
   cases hn:Nat.beq s.n 0 with
   | false=>rw [hn] at h;cases h
   | true =>
    rw [hn,cond_true] at h
    have e:=Nat.eq_of_beq_eq_true hn
    exact .inr ⟨v,s.t,s.dfs,s.F,rfl,by unfold FSt.abs;rw [e];rfl,h⟩
 · cases h
theorem ZnJ (hG:GOK P T nb N) {call:Zcf} {ext:CallT} (hcall:Zcu call (Zaw P ext)) {rnd:Bool} {id:Nat} {ops:Array Oper} {plan:List Nat} (hp:ZdX ops.toList plan=true) {k:VT→List ADef→FH→Option RR} {kp:Value→VT→List ADef→FH→Option RR} {r:RR} {t:VT} {d:List ADef} {F:FH}
    (h:(ZuK P T nb N n ops.toList plan).run call k kp t d F=some r):∃ x s,Zap P ext rnd (.region id ops true) ⟨tmL n t,d,F.abs⟩=some (x,s)∧ZC4 n k kp r x s:=by
 have:=ZhY (P:=P) (ext:=ext) (rnd:=rnd) (id:=id) (l:=ops.toList) (s:=⟨tmL n t,d,F.abs⟩) plan hp
 rw [Array.toArray_toList] at this
 rw [this]
 obtain ⟨x,s,h1,h2⟩:=Zz2 (rnd:=true) hG hcall (fun hf=>by simp at hf) _ _ _ _ h
 rw [h1]
 rcases h2 with ⟨rfl,t',d',F',rfl,h2⟩ | ⟨v,t',d',F',rfl,rfl,h2⟩
 · exact ⟨.normal,_,rfl,.inl ⟨rfl,t',d',F',rfl,h2⟩⟩
 · exact ⟨.panic v,_,rfl,.inr ⟨v,_,d',F',rfl,rfl,h2⟩⟩
theorem ZnI (hG:GOK P T nb N) {call:Zcf} {ext:CallT} (hcall:Zcu call (Zaw P ext)) {rnd:Bool} {id:Nat} {ops:Array Oper} {plan:List Nat} (hp:ZbD ops.toList plan=true) {k:VT→List ADef→FH→Option RR} {kp:Value→VT→List ADef→FH→Option RR} {r:RR} {t:VT} {d:List ADef} {F:FH}
    (h:(ZuJ P T nb N n ops.toList plan (Zbf ops.toList)).run call k kp t d F=some r):∃ x s,Zap P ext rnd (.region id ops true) ⟨tmL n t,d,F.abs⟩=some (x,s)∧ZC4 n k kp r x s:=by
 rw [ZdM]
 obtain ⟨x,s,h1,h2⟩:=Zqi hG hcall (dfs:=d) _ [] [] _ _ (fun t ht=>by simp at ht) h
 refine ⟨x,s,Znx (s:=⟨tmL n t,d,F.abs⟩) hp h1,?_⟩
 rcases h2 with ⟨rfl,t',F',rfl,h2⟩ | ⟨v,F',rfl,rfl,h2⟩
 · exact .inl ⟨rfl,t',d,F',rfl,h2⟩
 · exact .inr ⟨v,.nil,d,F',rfl,rfl,h2⟩
theorem Zwn (hG:GOK P T nb N) {call:Zcf} {ext:CallT} (hcall:Zcu call (Zaw P ext)) {rnd:Bool} {id:Nat} {ops:Array Oper} {q:Option PI} (hq:ZFy ops.toList q=true) {k:VT→List ADef→FH→Option RR} {kp:Value→VT→List ADef→FH→Option RR} {r:RR} {t:VT} {d:List ADef} {F:FH}
    (h:(Zz4 P T nb N n q ops.toList).run call k kp t d F=some r):∃ x s,Zap P ext rnd (.region id ops true) ⟨tmL n t,d,F.abs⟩=some (x,s)∧ZC4 n k kp r x s:=by
 unfold Zz4 at h
 split at h
 · exact ZnJ hG hcall hq h
 · rename_i plan B
   have hq':(ZbD ops.toList plan&&(Zbf ops.toList == B))=true:=hq
   rw [Bool.and_eq_true,beq_iff_eq] at hq'
   rw [←hq'.2] at h
   exact ZnI hG hcall hq'.1 h
 · cases hp:ZdX ops.toList (Zbo ops.toList) with
   | true =>
    rw [hp,cond_true] at h
    exact ZnJ hG hcall hp h
   | false =>
    rw [hp,cond_false] at h
    cases hps:ZbD ops.toList (Zbo ops.toList) with
    | true =>
     rw [hps,cond_true] at h
     exact ZnI hG hcall hps h
    | false =>
     rw [hps,cond_false] at h
     rw [ZdM]
     exact Zwj (fun x s hy=>Zv3 hG hcall hy) h
end
end
section
open Go B
abbrev KK:=AExit→Nat→VT→List ADef→FH→Option RR
structure CR where
 run:Zcf→KK→VT→List ADef→FH→Option RR
def Zz6 (v:Value) (a b:Option RR):Option RR:=match v with
 | .bool c=>match c with
  | true=>a
  | false=>b
 | _=>none
noncomputable def ZvP (a:CR) (call:Zcf) (k:KK):Nat→VT→List ADef→FH→Option RR:=Nat.rec (fun _ _ _=>none) (fun _ ih t d F=>a.run call (fun x n t d F=>AExit.rec (ih t d F) (fun i=>k (.exit i) n t d F) (k .ret n t d F) (fun v=>k (.panic v) n t d F) x) t d F)
noncomputable def ZzU (n:Nat) (k:KK):Option RR→Option RR
 | some (x,s)=>bif Nat.beq s.n n then k x s.n s.t s.dfs s.F else none
 | none=>none
noncomputable def cC (P:Program) (T:Tabs) (nb:Za9) (N n:Nat) (pt:Nat→Option PI) (rnd:Bool):Code→CR
 | .skip=>⟨fun _ k t d F=>k .normal n t d F⟩
 | .region id ops draw=>bif draw then ⟨fun call k t d F=>(Zz4 P T nb N n (pt id) ops.toList).run call (fun t d F=>k .normal n t d F) (fun v _ d F=>k (.panic v) 0 .nil d F) t d F⟩
  else ⟨fun call k t d F=>(cL P T nb N n (!rnd) ops.toList ops.toList).run call (fun t d F=>k .normal n t d F) (fun v t d F=>k (.panic v) n t d F) t d F⟩
 | .seq a b=>⟨fun call k t d F=>(cC P T nb N n pt rnd a).run call (fun x m t d F=>AExit.rec ((cC P T nb N n pt rnd b).run call k t d F) (fun i=>k (.exit i) m t d F) (k .ret m t d F) (fun v=>k (.panic v) m t d F) x) t d F⟩
 | .cond q a b=>bif Zaa q then ⟨fun call k t d F=>Zz6 ((cX n q).ev t) ((cC P T nb N n pt rnd a).run call k t d F) ((cC P T nb N n pt rnd b).run call k t d F)⟩ else ⟨fun _ _ _ _ _=>none⟩
 | .block id a=>⟨fun call k t d F=>(cC P T nb N n pt rnd a).run call (fun x m t d F=>AExit.rec (k .normal m t d F) (fun i=>bif Nat.beq i id then k .normal m t d F else k (.exit i) m t d F) (k .ret m t d F) (fun v=>k (.panic v) m t d F) x) t d F⟩
 | .loop a=>⟨fun call k t d F=>ZvP (cC P T nb N n pt rnd a) call k 100000000 t d F⟩
 | .exit id=>⟨fun _ k t d F=>k (.exit id) n t d F⟩
 | .ret=>⟨fun _ k t d F=>k .ret n t d F⟩
 | .label _=>⟨fun _ k t d F=>k .normal n t d F⟩
 | .rangeFunc g ps as body=>bif rnd then ⟨fun _ _ _ _ _=>none⟩ else ⟨fun call k t d F=>ZzU n k (Zp0 T call g ps as body ⟨n,t,d,F⟩)⟩
 | .scope _=>⟨fun _ _ _ _ _=>none⟩
 | .goto _=>⟨fun _ _ _ _ _=>none⟩
 | .refuse _=>⟨fun _ _ _ _ _=>none⟩
def Zxs:Nat→Option PI:=fun _=>none
def ZbZ (pt:Nat→Option PI):Code→Bool
 | .region id ops draw=>bif draw then ZFy ops.toList (pt id) else true
 | .seq a b=>ZbZ pt a&&ZbZ pt b
 | .cond _ a b=>ZbZ pt a&&ZbZ pt b
 | .block _ a=>ZbZ pt a
 | .loop a=>ZbZ pt a
 | _=>true
def ZBW:KK:=fun x n t d F=>some (x,⟨n,t,d,F⟩)
noncomputable def ZzV (P:Program) (T:Tabs) (nb:Za9) (N:Nat) (call:Zcf) (rnd:Bool):Zkl:=fun c s=>FSt.rec (fun n t d F=>(cC P T nb N n Zxs rnd c).run call ZBW t d F) s
structure FB where
 run:Zcf→List Value→FH→Option (AEnd×FH)
noncomputable def cF (P:Program) (T:Tabs) (nb:Za9) (N:Nat) (pt:FuncId→Nat→Option PI) (inl:FuncId→Bool) (f:FuncId):FB:=match T.func f with
 | some fn=>bif inl f then (match fn.body with
     | some c=>⟨fun call args F=>bif Nat.ble args.length fn.ntmps&&Nat.ble args.length 256 then Zp1 P T nb N (ZzV P T nb N call false) fn.results.toList ((cC P T nb N fn.ntmps (pt f) false c).run call ZBW (Ziy 0 args .nil) [] F) else none⟩
     | none=>⟨fun _ _ _=>none⟩)
  else ⟨fun _ _ _=>none⟩
 | none=>bif Nat.ble N f then ⟨fun call args F=>Zug (ZzV P T nb N call true) (f-N) args F⟩ else ⟨fun _ _ _=>none⟩
noncomputable def ZzC (P:Program) (T:Tabs) (nb:Za9) (N:Nat) (pt:FuncId→Nat→Option PI) (inl:FuncId→Bool) (orc:Zcf):Nat→Zcf:=Nat.rec (fun _ _ _=>none) (fun _ ih f args F=>match orc f args F with
 | some r=>some r
 | none=>(cF P T nb N pt inl f).run ih args F)
section
variable {P:Program} {T:Tabs} {nb:Za9} {N:Nat} {ext:CallT}
def ZCI (P:Program) (ext:CallT) (rnd:Bool) (n:Nat) (c:Code) (t:VT) (d:List ADef) (F:FH) (k:KK) (r:RR):Prop :=
 ∃ x m t' d' F',Zap P ext rnd c ⟨tmL n t,d,F.abs⟩=some (x,⟨tmL m t',d',F'.abs⟩)∧((∀ v,x≠.panic v)→m=n)∧k x m t' d' F'=some r
theorem ZpP {rnd:Bool} {n:Nat} {a:Code} {C:CR} {call:Zcf} {k:KK} {r:RR} (ha:∀ k t d F,C.run call k t d F=some r→ZCI P ext rnd n a t d F k r):∀ (m:Nat) (t:VT) (d:List ADef) (F:FH),ZvP C call k m t d F=some r→ZCI P ext rnd n (.loop a) t d F k r
 | 0,t,d,F,h=>by cases h
 | m+1,t,d,F,h=>by
  have h':C.run call (fun x n t d F=>AExit.rec (ZvP C call k m t d F) (fun i=>k (.exit i) n t d F) (k .ret n t d F) (fun v=>k (.panic v) n t d F) x) t d F=some r:=h
  obtain ⟨x,m',t',d',F',h1,h2,h3⟩:=ha _ _ _ _ h'
  have stop:x≠.normal→k x m' t' d' F'=some r→ZCI P ext rnd n (.loop a) t d F k r:=fun hx hk=>⟨x,m',t',d',F',by rw [ZdL,ZbC];exact .inr ⟨h1,hx⟩,h2,hk⟩
  cases x with
  | normal =>
   have e:=h2 (fun v hv=>by cases hv)
   subst e
   obtain ⟨y,m2,t2,d2,F2,g1,g2,g3⟩:=ZpP ha m _ _ _ h3
   exact ⟨y,m2,t2,d2,F2,by rw [ZdL,ZbC];exact .inl ⟨_,h1,g1⟩,g2,g3⟩
  | exit i=>exact stop (fun hx=>by cases hx) h3
  | ret=>exact stop (fun hx=>by cases hx) h3
  | panic v=>exact stop (fun hx=>by cases hx) h3
theorem ZqS:∀ (c:Code),ZbZ Zxs c=true:=by
 intro c
 induction c with
 | seq a b h1 h2=>unfold ZbZ;rw [h1,h2];rfl
 | cond q a b h1 h2=>unfold ZbZ;rw [h1,h2];rfl
 | block i a h=>exact h
 | loop a h=>exact h
 | region id ops draw=>cases draw<;>rfl
 | _=>rfl
theorem ZCs (hG:GOK P T nb N) {call:Zcf} (hcall:Zcu call (Zaw P ext)) {pt:Nat→Option PI} {rnd:Bool} {n:Nat} {r:RR}:∀ (c:Code),ZbZ pt c=true→∀ (k:KK) (t:VT) (d:List ADef) (F:FH),(cC P T nb N n pt rnd c).run call k t d F=some r→ZCI P ext rnd n c t d F k r:=by
 intro c
 induction c with
 | skip=>intro _ k t d F h;rw [cC] at h;exact ⟨.normal,n,t,d,F,ZhX,fun _=>rfl,h⟩
 | region id ops draw =>
  intro hpl k t d F h
  unfold ZbZ at hpl
  rw [cC] at h
  cases draw with
  | true =>
   rw [cond_true] at h hpl
   obtain ⟨x,s,h1,h2⟩:=Zwn (rnd:=rnd) (id:=id) hG hcall hpl h
   rcases h2 with ⟨rfl,t',d',F',rfl,h2⟩ | ⟨v,t',d',F',rfl,rfl,h2⟩
   · exact ⟨.normal,n,t',d',F',h1,fun _=>rfl,h2⟩
   · exact ⟨.panic v,0,.nil,d',F',h1,fun hx=>absurd rfl (hx v),h2⟩
  | false =>
   rw [cond_false] at h
   have hl:=ZhZ (P:=P) (ext:=ext) (rnd:=rnd) (id:=id) (l:=ops.toList) (s:=⟨tmL n t,d,F.abs⟩)
   rw [Array.toArray_toList] at hl
   obtain ⟨x,s,h1,h2⟩:=Zz2 (rnd:=rnd) hG hcall (fun hd=>by cases rnd<;>first | rfl | cases hd) _ _ _ _ h
   rw [←hl] at h1
   rcases h2 with ⟨rfl,t',d',F',rfl,h2⟩ | ⟨v,t',d',F',rfl,rfl,h2⟩
   · exact ⟨.normal,n,t',d',F',h1,fun _=>rfl,h2⟩
   · exact ⟨.panic v,n,t',d',F',h1,fun _=>rfl,h2⟩
 | seq a b iha ihb =>
  intro hpl k t d F h
  unfold ZbZ at hpl
  rw [Bool.and_eq_true] at hpl
  replace iha:=iha hpl.1
  replace ihb:=ihb hpl.2
  rw [cC] at h
  obtain ⟨x,m,t',d',F',h1,h2,h3⟩:=iha _ _ _ _ h
  have stop:x≠.normal→k x m t' d' F'=some r→ZCI P ext rnd n (.seq a b) t d F k r:=fun hx hk=>⟨x,m,t',d',F',by rw [Zgh,ZbC];exact .inr ⟨h1,hx⟩,h2,hk⟩
  cases x with
  | normal =>
   have e:=h2 (fun v hv=>by cases hv)
   subst e
   obtain ⟨y,m2,t2,d2,F2,g1,g2,g3⟩:=ihb _ _ _ _ h3
   exact ⟨y,m2,t2,d2,F2,by rw [Zgh,ZbC];exact .inl ⟨_,h1,g1⟩,g2,g3⟩
  | exit i=>exact stop (fun hx=>by cases hx) h3
  | ret=>exact stop (fun hx=>by cases hx) h3
  | panic v=>exact stop (fun hx=>by cases hx) h3
 | cond q a b iha ihb =>
  intro hpl k t d F h
  unfold ZbZ at hpl
  rw [Bool.and_eq_true] at hpl
  replace iha:=iha hpl.1
  replace ihb:=ihb hpl.2
  rw [cC] at h
  cases hq:Zaa q with
  | false=>rw [hq] at h;cases h
  | true =>
   rw [hq,cond_true] at h
   have h':Zz6 ((cX n q).ev t) ((cC P T nb N n pt rnd a).run call k t d F) ((cC P T nb N n pt rnd b).run call k t d F)=some r:=h
   rw [ZdJ,Zbj] at h'
   unfold Zz6 at h'
   split at h'
   case h_2=>cases h'
   rename_i b0 hv
   have hc:=Zh1 (P:=P) (ext:=ext) (rnd:=rnd) (a:=a) (b:=b) (s:=⟨tmL n t,d,F.abs⟩) hq hv
   cases b0 with
   | true =>
    obtain ⟨y,m2,t2,d2,F2,g1,g2,g3⟩:=iha _ _ _ _ h'
    exact ⟨y,m2,t2,d2,F2,by rw [hc];exact g1,g2,g3⟩
   | false =>
    obtain ⟨y,m2,t2,d2,F2,g1,g2,g3⟩:=ihb _ _ _ _ h'
    exact ⟨y,m2,t2,d2,F2,by rw [hc];exact g1,g2,g3⟩
 | block id a iha =>
  intro hpl k t d F h
  replace iha:=iha hpl
  rw [cC] at h
  obtain ⟨x,m,t',d',F',h1,h2,h3⟩:=iha _ _ _ _ h
  have hb:=ZgM (P:=P) (ext:=ext) (rnd:=rnd) (id:=id) (a:=a) (s:=⟨tmL n t,d,F.abs⟩)
  rw [h1] at hb
  cases x with
  | normal=>exact ⟨.normal,m,t',d',F',hb,h2,h3⟩
  | exit i =>
   rw [Zg5] at hb
   have h3':(bif Nat.beq i id then k .normal m t' d' F' else k (.exit i) m t' d' F')=some r:=h3
   have hm:=h2 (fun v hv=>by cases hv)
   cases hc:Nat.beq i id with
   | true =>
    rw [hc,cond_true] at h3'
    rw [if_pos (Nat.eq_of_beq_eq_true hc)] at hb
    exact ⟨.normal,m,t',d',F',hb,fun _=>hm,h3'⟩
   | false =>
    rw [hc,cond_false] at h3'
    rw [if_neg (fun e=>by rw [e,Nat.beq_refl] at hc;cases hc)] at hb
    exact ⟨.exit i,m,t',d',F',hb,fun _=>hm,h3'⟩
  | ret=>exact ⟨.ret,m,t',d',F',hb,h2,h3⟩
  | panic v=>exact ⟨.panic v,m,t',d',F',hb,h2,h3⟩
 | loop a iha =>
  intro hpl k t d F h
  replace iha:=iha hpl
  rw [cC] at h
  have h':ZvP (cC P T nb N n pt rnd a) call k 100000000 t d F=some r:=h
  exact ZpP iha _ _ _ _ h'
 | exit id=>intro _ k t d F h;rw [cC] at h;exact ⟨.exit id,n,t,d,F,Zh0,fun _=>rfl,h⟩
 | ret=>intro _ k t d F h;rw [cC] at h;exact ⟨.ret,n,t,d,F,Zja,fun _=>rfl,h⟩
 | label l=>intro _ k t d F h;rw [cC] at h;exact ⟨.normal,n,t,d,F,ZgL,fun _=>rfl,h⟩
 | rangeFunc g ps as body _ _ =>
  intro hpl k t d F h
  rw [cC] at h
  cases rnd with
  | true=>cases h
  | false =>
   rw [cond_false] at h
   have h':ZzU n k (Zp0 T call g ps as body ⟨n,t,d,F⟩)=some r:=h
   unfold ZzU at h'
   split at h'
   case h_2=>cases h'
   rename_i x s hs
   cases hn:Nat.beq s.n n with
   | false=>rw [hn] at h';cases h'
   | true =>
    rw [hn,cond_true] at h'
    have e:=Nat.eq_of_beq_eq_true hn
    refine ⟨x,s.n,s.t,s.dfs,s.F,?_,fun _=>e,h'⟩
    exact Zuh hG hcall hs
 | scope _ _=>intro _ k t d F h;rw [cC] at h;cases h
 | goto _=>intro _ k t d F h;rw [cC] at h;cases h
 | refuse _=>intro _ k t d F h;rw [cC] at h;cases h
theorem Zqh (hG:GOK P T nb N) {call:Zcf} (hcall:Zcu call (Zaw P ext)) (rnd:Bool):ZhU P ext rnd (ZzV P T nb N call rnd):=by
 intro c s x s' h
 obtain ⟨y,m,t',d',F',h1,h2,h3⟩:=ZCs hG hcall _ (ZqS _) _ _ _ _ h
 simp only [ZBW,Option.some.injEq,Prod.mk.injEq] at h3
 obtain ⟨rfl,rfl⟩:=h3
 exact h1
structure HOK (P:Program) (T:Tabs) (pt:FuncId→Nat→Option PI) (ext:CallT) (inl:FuncId→Bool) (orc:Zcf):Prop where
 pt:∀ f fn c,T.func f=some fn→fn.body=some c→ZbZ (pt f) c=true
 inl:∀ f,inl f=true→∀ args H,ext f args H=none
 rnd:∀ K args H,ext (P.funcs.size+K) args H=none
 orc:Zcu orc (Zaw P ext)
theorem ZEK (hG:GOK P T nb N) {inl:FuncId→Bool} {orc:Zcf} {pt:FuncId→Nat→Option PI} (hH:HOK P T pt ext inl orc) {call:Zcf} (hcall:Zcu call (Zaw P ext)) {f:FuncId} {args:List Value} {F:FH} {e:AEnd} {F':FH} (h:(cF P T nb N pt inl f).run call args F=some (e,F')):Zaw P ext f args F.abs=some (e,F'.abs):=by
 unfold cF at h
 split at h
 · rename_i fn hfn
   cases hi:inl f with
   | false=>rw [hi] at h;cases h
   | true =>
    rw [hi,cond_true] at h
    split at h
    case h_2=>cases h
    rename_i c hb
    dsimp only at h
    cases hc:Nat.ble args.length fn.ntmps&&Nat.ble args.length 256 with
    | false=>rw [hc] at h;cases h
    | true =>
     rw [hc,cond_true] at h
     have hs0:Zjb fn args F=some ⟨fn.ntmps,Ziy 0 args .nil,[],F⟩:=by unfold Zjb;rw [hc];rfl
     rw [ZdN (hH.inl _ hi _ _) (hG.tab.func _ _ hfn) hb,Zmy hs0]
     cases he:(cC P T nb N fn.ntmps (pt f) false c).run call ZBW (Ziy 0 args .nil) [] F with
     | none=>rw [he] at h;cases h
     | some q =>
      obtain ⟨x,s⟩:=q
      rw [he] at h
      obtain ⟨y,m,t',d',F',h1,h2,h3⟩:=ZCs hG hcall _ (hH.pt _ _ _ hfn hb) _ _ _ _ he
      simp only [ZBW,Option.some.injEq,Prod.mk.injEq] at h3
      obtain ⟨rfl,rfl⟩:=h3
      have h1':Zap P ext false c (FSt.abs ⟨fn.ntmps,Ziy 0 args .nil,[],F⟩)=some (y,FSt.abs ⟨m,t',d',F'⟩):=h1
      rw [h1']
      exact Zuj hG (Zqh hG hcall false) h
 · cases hb:Nat.ble N f with
   | false=>rw [hb] at h;cases h
   | true =>
    rw [hb,cond_true] at h
    have hle:=Nat.le_of_ble_eq_true hb
    have:=Zuf hG hH.rnd (Zqh hG hcall true) h
    rwa [Nat.add_sub_cancel' hle] at this
theorem ZpY (hG:GOK P T nb N) {inl:FuncId→Bool} {orc:Zcf} {pt:FuncId→Nat→Option PI} (hH:HOK P T pt ext inl orc):∀ m,Zcu (ZzC P T nb N pt inl orc m) (Zaw P ext)
 | 0=>fun f args F e F' h=>by cases h
 | m+1=>fun f args F e F' h=>by
  have h':(match orc f args F with
   | some r=>some r
   | none=>(cF P T nb N pt inl f).run (ZzC P T nb N pt inl orc m) args F)=some (e,F'):=h
  split at h'
  · rename_i q hq
    simp only [Option.some.injEq] at h'
    subst h'
    exact hH.orc _ _ _ _ _ hq
  · exact ZEK hG hH (ZpY hG hH m) h'
def ZFz:Zcf:=fun _ _ _=>none
theorem ZGx {pt:FuncId→Nat→Option PI} (hp:∀ f fn c,T.func f=some fn→fn.body=some c→ZbZ (pt f) c=true):HOK P T pt ZzN (fun _=>true) ZFz:=⟨hp,fun _ _ _ _=>rfl,fun _ _ _=>rfl,fun _ _ _ _ _ h=>by cases h⟩
noncomputable def ZDW (P:Program) (T:Tabs) (nb:Za9) (N:Nat) (pt:FuncId→Nat→Option PI) (m:Nat) (f:FuncId) (args:List Value):Option AEnd:=match ZzC P T nb N pt (fun _=>true) ZFz m f args ⟨0,.nil⟩ with
 | some (e,_)=>some e
 | none=>none
theorem Zyy (hG:GOK P T nb N) {pt:FuncId→Nat→Option PI} (hp:∀ f fn c,T.func f=some fn→fn.body=some c→ZbZ (pt f) c=true) {m:Nat} {f:FuncId} {args:List Value} {e:AEnd} (h:ZDW P T nb N pt m f args=some e):∃ H',Zaw P ZzN f args ⟨0,fun _=>none⟩=some (e,H'):=by
 unfold ZDW at h
 split at h
 case h_2=>simp at h
 rename_i v' F hc
 simp only [Option.some.injEq] at h
 subst h
 exact ⟨F.abs,ZpY hG (ZGx hp) m _ _ _ _ _ hc⟩
end
end
section
open Go B
abbrev Tbl:=FuncId→List Value→Option Value
structure TblOK (P:Program) (tbl:Tbl):Prop where
 ok:∀ f args v,tbl f args=some v→(∃ fn,P.funcs[f]?=some fn)∧args.all Zab=true∧Zab v=true∧∃ H',Zaw P ZzN f args ⟨0,fun _=>none⟩=some (.ret v,H')
def extT (tbl:Tbl):CallT:=fun f args H=>match tbl f args with
 | some v=>some (.ret v,H)
 | none=>none
theorem ZzM {P:Program} {tbl:Tbl} (hm:P.follows .mixedOrders=true) (h:TblOK P tbl):Zbn P (extT tbl):=by
 intro f args H e H' he
 unfold extT at he
 split at he
 case h_2=>cases he
 rename_i v hv
 simp only [Option.some.injEq,Prod.mk.injEq] at he
 obtain ⟨rfl,rfl⟩:=he
 obtain ⟨⟨fn,hf⟩,ha,hc,H',hr⟩:=h.ok _ _ _ hv
 exact Zo2 hm hf ha hr hc H
def ZpV (r:Option AEnd) (v:Value):Bool:=match r with
 | some (.ret w)=>ZkJ w v
 | _=>false
theorem Zt6 {r:Option AEnd} {v:Value} (h:ZpV r v=true):r=some (.ret v):=by
 unfold ZpV at h
 split at h
 · rw [ZeX _ _ h]
 · cases h
end
end G
end Go.Proofs.YtmocfnfnhgognaaGreat
