/-
  Joined by program out of B37, B38, B39, B40, B41, B42, B43, B44, B45, B46, B47, B48, B49.
-/
import Derived.Test.YtmocfnfnhgognaaGreatM3
import Derived.Maps.RangeRun
namespace Go.Proofs.YtmocfnfnhgognaaGreat
namespace B
section
open Go
section
variable {P:Program} {ext:CallT} {rnd:Bool}
def ZFw (K:Nat) (tm:List Value) (dfs:List ADef) (H:AHeap) (k:St→Option (AExit×St)):Option AObj→Option (AEnd×AHeap)
 | some (.loop ⟨.ready,pe,tm0,ps,as,bd⟩)=>Zfb K (k ⟨tm,dfs,H.set K (.loop ⟨.busy,pe,tm0,ps,as,bd⟩)⟩)
 | _=>none
theorem Zpz {b:Nat} {e:TypeId}:∀ (xs:List Value) (o:Nat) (cs:List Value) (H:AHeap),H.get b=some (.box cs e)→o+xs.length≤cs.length→xs.all Zba=true→H.setN ⟨b,o,none⟩ xs=some (H.set b (.box (ZCN cs o xs) e))
 | [],o,cs,H,hg,_,_=>by rw [show ZCN cs o []=cs from rfl,AHeap.set_self hg];rfl
 | x::xs,o,cs,H,hg,hl,hf=>by
  simp only [List.all_cons,Bool.and_eq_true] at hf
  simp only [List.length_cons] at hl
  unfold AHeap.setN
  rw [ZkR hf.1,hg,Option.getD_none,ZmD rfl (by omega)]
  dsimp only
  rw [Zmi,Zpz xs (o+1) (cs.set o x) _ Zif (by simpa using by omega) hf.2,AHeap.set_set]
  rfl
end
end
section
open Go
theorem ZjP {P:Program} {t:TypeId} (h:ZdA P t=true):∃ e,P.underlying t=some (.slice e):=by
 unfold ZdA at h;split at h
 · rename_i e hu;exact ⟨e,hu⟩
 · simp at h
section
variable {P:Program} {H:AHeap} {t:TypeId} {x y:Operand}
theorem ZdR {e:TypeId} (hu:P.underlying t=some (.slice e)):Zaf P (Op.equal t (.slice none 0 0) (.slice none 0 0))=some true:=by
 unfold Op.equal
 show Zaf P (Op.equalIn 10000 t (.slice none 0 0) (.slice none 0 0))=_
 unfold Op.equalIn
 rw [Zac (Zai hu)]
 rfl
theorem ZnP (h:ZdA P t=true):Zgc P H .eql t x y (.slice none 0 0) (.slice none 0 0)=some (.val (.bool true) H):=by
 obtain ⟨e,hu⟩:=ZjP h
 refine Zbi ?_
 have h1:eqGuard .eql t x y (.slice none 0 0) (.slice none 0 0)=pure ():=rfl
 have h2:binOp .eql t (.slice none 0 0) (.slice none 0 0)=(do pure (.bool (← Op.equal t (.slice none 0 0) (.slice none 0 0)))):=rfl
 unfold Zej
 rw [h1,Zac Zal,h2,Zac (ZdR hu)]
 simp [Zab,Zal]
theorem ZnO (h:ZdA P t=true):Zgc P H .neq t x y (.slice none 0 0) (.slice none 0 0)=some (.val (.bool false) H):=by
 obtain ⟨e,hu⟩:=ZjP h
 refine Zbi ?_
 have h1:eqGuard .neq t x y (.slice none 0 0) (.slice none 0 0)=pure ():=rfl
 have h2:binOp .neq t (.slice none 0 0) (.slice none 0 0)=(do pure (.bool (!(← Op.equal t (.slice none 0 0) (.slice none 0 0))))):=rfl
 unfold Zej
 rw [h1,Zac Zal,h2,Zac (ZdR hu)]
 simp [Zab,Zal]
end
end
section
open Go
section
variable {P:Program} {ext:CallT} {rnd:Bool}
end
section
variable {P:Program} {ext:CallT} {rnd:Bool}
end
end
section
open Go
section
variable {P:Program} {ext:CallT}
def ZED (P:Program) (f:FuncId) (args:List Value) (H:AHeap) (r:AEnd×AHeap):Prop :=
 AHeap.le H r.2∧∀ (N0:Fz) (β:Emb) (w:World) (nx:Next),HRel P N0 β H w→Comes P β w f args nx→∀ (ro:Option Nat) (n:Nat),ZnY (WF ro) n P nx w (ZeP P N0 β w r.1 r.2)
end
end
section
open Go
open Go.ChangeMaps (setBlock)
section
variable {P:Program} {N0:Fz} {β:Emb} {H:AHeap} {w:World}
variable {ops:Array Oper} {a:Act} {i:Nat} {rest:List Nat} {Q:Exit→Act→World→Prop} {n:Nat} {o:Oper} {w':World}
end
end
section
open Go
section
variable {P:Program} {call:CallT}
def ZbD (l:List Oper) (plan:List Nat):Bool:=(Zbo l == plan)&&ZcV l&&Zcn l (Zbf l) plan
theorem Zl8 {l:List Oper} {s:St} {T:List Tr} {He:AHeap} {x:AExit} {s':St} {plan:List Nat} (hp:ZbD l plan=true) (h:ZaB P call l s.dfs plan s.tmps s.H=some (T,He,x,s')) (hr:Zbz P (Zbf l) T He) :
    ZbK P call l s=some (x,s'):=by
 unfold ZbD at hp
 rw [Bool.and_eq_true,Bool.and_eq_true] at hp
 obtain ⟨⟨h1,h2⟩,h3⟩:=hp
 have h1':Zbo l=plan:=by simpa using h1
 rw [Zka h3]
 unfold Zdj
 rw [h1',h]
 dsimp only
 rw [if_pos ⟨h2,h3,.inr hr⟩]
theorem ZqQ {B:List Nat} {He:AHeap} {t:Tr} {ts:List Tr} (hk:ZaS t.o.op=.pure) (h2:Zbz P B ts He):Zbz P B (t::ts) He:=⟨fun _ _=>Zdt hk ts He,h2⟩
theorem Zjs {B:List Nat} {He:AHeap} {t:Tr} {ts:List Tr} (hk:ZaM t.o=true) (h2:Zbz P B ts He):Zbz P B (t::ts) He:=⟨fun _ h=>(by rw [hk] at h;cases h),h2⟩
theorem ZvG {B:List Nat} {He:AHeap} {t:Tr} {ts:List Tr} (h1:ZaC P B t ts He) (h2:Zbz P B ts He):Zbz P B (t::ts) He:=⟨fun _ _=>h1,h2⟩
theorem Zgj {B:List Nat} {He:AHeap} {t u:Tr} {us:List Tr} (h:ZaM u.o=false) (h2:ZaC P B t us He):ZaC P B t (u::us) He:=by
 unfold ZaC
 rw [h]
 exact h2
theorem ZfD {B:List Nat} {He:AHeap} {t u:Tr} {us:List Tr} (h:ZaM u.o=true) (h1:same P t u.H) (h2:bit B u.j t.j=true∨ZaC P B t us He):ZaC P B t (u::us) He:=by
 unfold ZaC
 rw [h]
 exact ⟨h1,h2⟩
theorem ZgR {t:Tr} {H:AHeap} (hk:ZaS t.o.op=.read) (h:opA P H (aev t.tm) t.o.op t.o.type=some (.val t.v H)):same P t H:=by
 unfold same
 rw [hk]
 dsimp only
 rw [ZaE];exact h
theorem Zhu {t:Tr} {H:AHeap} (hk:ZaS t.o.op=.alloc) (h:H.get t.H.next=t.H'.get t.H.next):same P t H:=by
 unfold same
 rw [hk]
 exact h
def Zdm (P:Program) (call:CallT) (l:List Oper) (dfs:List ADef) (B:List Nat) (R:List Tr) (plan:List Nat) (tm:List Value) (H:AHeap) (x:AExit) (s':St):Prop :=
 ∃ T He,ZaB P call l dfs plan tm H=some (T,He,x,s')∧Zbz P B T He∧∀ t∈R,ZaC P B t T He
variable {l:List Oper} {dfs:List ADef} {B:List Nat} {R R':List Tr} {j:Nat} {rest:List Nat} {tm:List Value} {H H':AHeap} {x:AExit} {s':St} {dst:Option Nat} {op:Op} {ty:TypeId} {ps:String} {af:Array Edge} {v:Value}
theorem Zjw (h:∀ t∈R,same P t H):Zdm P call l dfs B R [] tm H .normal ⟨tm,dfs,H⟩:=⟨[],H,rfl,trivial,fun t ht=>h t ht⟩
theorem Zkt {o:Oper} (h:ZaS o.op=.pure):ZaM o=false:=by unfold ZaM;rw [h];rfl
theorem Znx {s:St} {plan:List Nat} (hp:ZbD l plan=true) (h:Zdm P call l s.dfs (Zbf l) [] plan s.tmps s.H x s'):ZbK P call l s=some (x,s'):=by
 obtain ⟨T,He,h1,h2,_⟩:=h
 exact Zl8 hp h1 h2
theorem Zwf {F:Option (AExit×St)→Prop} {l:List Oper} {s s':St} {plan:List Nat} {x:AExit} (hp:ZbD l plan=true) (h:Zdm P call l s.dfs (Zbf l) [] plan s.tmps s.H x s') (hF:F (some (x,s'))):F (ZbK P call l s):=by
 rw [Znx hp h];exact hF
end
end
section
open Go
open Go.ChangeMaps (setBlock)
section
variable {P:Program} {w:World} {ρ:Operand→Value} {d:Option Nat} {ty:TypeId} {ps:String} {af:Array Edge} {g:Option (Nat×Bool)}
end
structure Agree (ds:List Nat) (tm tm':List Value):Prop where
 len:tm'.length=tm.length
 at':∀ k,ds.contains k=false→tm'.getD k undef=tm.getD k undef
section
variable {P:Program} {t kt et:TypeId} {i9 i10 i11 i12:Nat} {y0 y1 y2 y3 y4 y5 y6 y7 y8 y9 y10 y11 y12:TypeId} {p0 p1 p2 p3 p4 p5 p6 p7 p8 p9 p10 p11 p12:String} {f0 f1 f2 f3 f4 f5 f6 f7 f8 f9 f10 f11 f12:Array Edge}
def ZEI:List Nat:=[43,44,45,46,47,48,49,50,51,52,7,8]
structure CopyI (P:Program) (N0:Fz) (β:Emb) (w0:World) (H:AHeap) (tm:List Value) (m x r bm bx:Nat) (ces:Array MapEntry) (clock:Nat) (vz:List ((Value×Value)×MapEntry)) (tmA:List Value) (aA:Act) (wA:World) (γ:Emb) (seen:Array Nat) (c0:Nat):Prop where
 le:Emb.le β γ
 tmps:VRels γ tmA aA.tmps.toList
 ag:Agree ZEI tm tmA
 it:aA.eval (.tmp 44)=.pointer (some ⟨r,0,none⟩)
 dfs:DRels P ⟨fun b=>N0.low b∨b=r,N0.b⟩ γ wA [] aA.defers
 heap:HRel P ⟨fun b=>N0.low b∨b=r,N0.b⟩ γ (H.set x (.map (vz.map (·.1)))) wA
 fr:Fr N0 w0 wA
 hr:wA.heap[r]?=some (.mapIter (some bm) clock seen c0)
 hb:wA.heap[bm]?=some (.map ces clock)
 hs:seen.toList=vz.map (·.2.born)
 hc:clock≤c0
end
end
section
open Go
theorem ZdZ (off:Nat):∀ (l:List Value) (j:Nat) (cs:Array Value),off+j+l.length≤cs.size →
    ((l.zipIdx j).foldl (fun cs (p:Value×Nat)=>cs.setIfInBounds (off+p.2) p.1) cs).toList=cs.toList.take (off+j)++l++cs.toList.drop (off+j+l.length)
 | [],j,cs,_=>by simp
 | x::l,j,cs,h=>by
  simp only [List.length_cons] at h
  rw [List.zipIdx_cons,List.foldl_cons]
  dsimp only
  rw [ZdZ off l (j+1) _ (by rw [Array.size_setIfInBounds];omega),Array.toList_setIfInBounds]
  have hlt:off+j<cs.toList.length:=by rw [Array.length_toList];omega
  have hs:cs.toList.set (off+j) x=cs.toList.take (off+j)++x::cs.toList.drop (off+j+1):=List.set_eq_take_append_cons_drop.trans (if_pos hlt)
  have ht:(cs.toList.take (off+j)).length=off+j:=by rw [List.length_take];omega
  rw [hs]
  have e1:(cs.toList.take (off+j)++x::cs.toList.drop (off+j+1)).take (off+(j+1))=cs.toList.take (off+j)++[x]:=by
   rw [List.take_append,ht,show off+(j+1)-(off+j)=1 by omega,List.take_of_length_le (by omega)]
   simp
  have e2:(cs.toList.take (off+j)++x::cs.toList.drop (off+j+1)).drop (off+(j+1)+l.length)=cs.toList.drop (off+j+(l.length+1)):=by
   rw [List.drop_append,ht,List.drop_eq_nil_of_le (by omega),List.nil_append,show off+(j+1)+l.length-(off+j)=l.length+1 by omega,List.drop_succ_cons,List.drop_drop]
   congr 1;omega
  rw [e1,e2]
  simp
theorem Znb (sz:Nat):∀ (vs:List Value) (k:Nat) (cs:Array Value),cs.size=(k+vs.length)*sz→(∀ v∈vs,v.cells.size=sz) →
    ∃ out,Instr.fill (fun j=>some (j*sz,sz)) cs ((vs.zipIdx k).map fun p=>(p.2,p.1))=some out∧out.toList=cs.toList.take (k*sz)++vs.flatMap fun v=>v.cells.toList
 | [],k,cs,h,_=>⟨cs,rfl,by
     simp only [List.flatMap_nil,List.append_nil]
     rw [List.take_of_length_le]
     rw [Array.length_toList,h];simp⟩
 | v::vs,k,cs,h,hv=>by
  have h1:=hv v (List.mem_cons_self ..)
  have hsz:k*sz+sz≤cs.size:=by
   rw [h,List.length_cons,Nat.add_mul,Nat.add_mul];omega
  rw [List.zipIdx_cons,List.map_cons]
  unfold Instr.fill
  dsimp only
  rw [if_neg (by simp [h1];omega)]
  have hf:=ZdZ (k*sz) v.cells.toList 0 cs (by rw [Array.length_toList,h1];omega)
  rw [←Array.toList_zipIdx,Array.foldl_toList] at hf
  simp only [Nat.add_zero] at hf
  generalize (Array.foldl (fun cs p=>cs.setIfInBounds (k*sz+p.2) p.1) cs v.cells.zipIdx)=cs1 at hf
  have hlen:cs1.size=cs.size:=by
   have:=congrArg List.length hf
   simp only [Array.length_toList,List.length_append,List.length_take,List.length_drop] at this
   rw [h1] at this
   omega
  obtain ⟨out,e1,e2⟩:=Znb sz vs (k+1) cs1 (by rw [hlen,h,List.length_cons];congr 1;omega) fun x hx=>hv x (List.mem_cons_of_mem _ hx)
  refine ⟨out,e1,?_⟩
  rw [e2,hf,List.flatMap_cons,←List.append_assoc]
  congr 1
  refine List.take_left' ?_
  rw [List.length_append,List.length_take,Array.length_toList,Array.length_toList,h1,Nat.add_mul]
  omega
section
variable {P:Program} {H:AHeap} {ρ:Operand→Value} {ty:TypeId}
def Zke (P:Program) (H:AHeap) (t:TypeId) (n:Nat) (parts:List (Nat×Value)):Option ARes:=match Za7 P t with
 | some (i,e)=>match i.zero with
  | some z=>if n*i.size≤16777216∧n*i.size≠0∧ZcJ (Zbw z n i.size)=true then
      match Instr.fill (fun j=>some (j*i.size,i.size)) (Zbw z n i.size) parts with
      | some cs=>if cs.toList.all Zba∧cs.size=n*i.size then some (.val (.slice (some ⟨H.next,0,some 0⟩) n n) (H.push (.arr cs.toList (List.replicate cs.size 0) 0 e false))) else none
      | none=>none
   else none
  | none=>none
 | none=>none
theorem ZqY {t:TypeId} {n:Nat} {ps:List (Nat×Operand)} {r:ARes} (hp:(ps.all fun p=>Zaa p.2)=true) (h:Zke P H t n (ps.map fun p=>(p.1,ρ p.2))=some r):opA P H ρ (.buildSlice t n ps.toArray) ty=some r:=by
 rw [Zcj (by simp) (by simp) (by simp) (by simp)]
 unfold ZaG
 have hok:(Op.buildSlice t n ps.toArray).operands.all Zaa=true:=by
  simp only [Op.operands]
  rw [List.all_toArray,List.all_map]
  exact hp
 simp only [hok,if_true]
 unfold Zke Za7 at h
 cases hu:P.underlying t with
 | none=>rw [hu] at h;simp at h
 | some d =>
  rw [hu] at h
  cases d<;>first | (simp at h;done) | skip
  rename_i e
  dsimp only at h ⊢
  cases hi:P.info? e with
  | none=>rw [hi] at h;simp at h
  | some i =>
   rw [hi] at h
   dsimp only at h ⊢
   cases hz:i.zero with
   | none=>rw [hz] at h;simp at h
   | some z =>
    rw [hz] at h
    dsimp only at h ⊢
    split at h
    case isFalse=>simp at h
    rename_i hc
    rw [if_pos ⟨hc.1,hc.2.1,hc.2.2,by simpa using hp⟩]
    have he:(ps.toArray.map fun (p:Nat×Operand)=>(p.1,ρ p.2)).toList=ps.map fun p=>(p.1,ρ p.2):=by simp
    rw [show (Array.map (fun x=>match x with | (i,x)=>(i,ρ x)) ps.toArray).toList=ps.map fun p=>(p.1,ρ p.2) from he]
    split at h
    case h_2=>simp at h
    rename_i cs hcs
    rw [hcs]
    exact h
theorem Zoy {t:TypeId} {n:Nat} {ps:List (Nat×Operand)} (hp:(ps.all fun p=>Zaa p.2)=true) (hn:n≠0):opA P H ρ (.buildSlice t n ps.toArray) ty=Zke P H t n (ps.map fun p=>(p.1,ρ p.2)):=by
 cases hb:Zke P H t n (ps.map fun p=>(p.1,ρ p.2)) with
 | some r=>exact ZqY hp hb
 | none =>
  rw [Zcj (by simp) (by simp) (by simp) (by simp)]
  unfold ZaG
  have hok:(Op.buildSlice t n ps.toArray).operands.all Zaa=true:=by
   simp only [Op.operands]
   rw [List.all_toArray,List.all_map]
   exact hp
  simp only [hok,if_true]
  unfold Zke Za7 at hb
  cases hu:P.underlying t with
  | none=>rfl
  | some d =>
   rw [hu] at hb
   cases d<;>try rfl
   rename_i e
   dsimp only at hb ⊢
   cases hi:P.info? e with
   | none=>rfl
   | some i =>
    rw [hi] at hb
    dsimp only at hb ⊢
    cases hz:i.zero with
    | none=>rfl
    | some z =>
     rw [hz] at hb
     dsimp only at hb ⊢
     by_cases hc:n*i.size≤16777216∧n*i.size≠0∧ZcJ (Zbw z n i.size)=true
     · rw [if_pos hc] at hb
       rw [if_pos ⟨hc.1,hc.2.1,hc.2.2,by simpa using hp⟩]
       have he:(ps.toArray.map fun (p:Nat×Operand)=>(p.1,ρ p.2)).toList=ps.map fun p=>(p.1,ρ p.2):=by simp
       rw [show (Array.map (fun x=>match x with | (i,x)=>(i,ρ x)) ps.toArray).toList=ps.map fun p=>(p.1,ρ p.2) from he]
       exact hb
     · rw [if_neg (fun h=>hc ⟨h.1,h.2.1,h.2.2.1⟩),if_neg (fun h=>hn h.1)]
theorem Zru {t e:TypeId} {i:TypeInfo} {z:Value} {vs:List Value} (hi:Za7 P t=some (i,e)) (hz:i.zero=some z) (hzc:Zab z=true) (hzs:z.cells.size=i.size) (hs0:i.size≠0) (hsm:vs.length*i.size≤16777216) (hv0:vs≠[])
    (hv:∀ v∈vs,v.cells.size=i.size) (hf:(vs.flatMap fun v=>v.cells.toList).all Zba=true) :
    Zke P H t vs.length (vs.zipIdx.map fun p=>(p.2,p.1))=some (.val (.slice (some ⟨H.next,0,some 0⟩) vs.length vs.length) (H.push (.arr (vs.flatMap fun v=>v.cells.toList) (List.replicate (vs.length*i.size) 0) 0 e false))):=by
 unfold Zke
 rw [hi]
 dsimp only
 rw [hz]
 dsimp only
 have hl:0<vs.length:=List.length_pos_iff.2 hv0
 rw [if_pos ⟨hsm,Nat.mul_ne_zero (by omega) hs0,Zo1 hzc _ _ (by omega)⟩]
 have hic:(Zbw z vs.length i.size).size=(0+vs.length)*i.size:=by unfold Zbw;simp
 obtain ⟨out,e1,e2⟩:=Znb i.size vs 0 _ hic hv
 rw [e1]
 dsimp only
 rw [Nat.zero_mul,List.take_zero,List.nil_append] at e2
 have hos:out.size=vs.length*i.size:=by
  rw [←Array.length_toList,e2]
  clear e1 e2 hic hf hl hv0 hsm
  induction vs with
  | nil=>simp
  | cons v vs ih =>
   rw [List.flatMap_cons,List.length_append,ih fun x hx=>hv x (List.mem_cons_of_mem _ hx),Array.length_toList,hv v (List.mem_cons_self ..),List.length_cons,Nat.add_mul]
   omega
 rw [if_pos ⟨by rw [e2];exact hf,hos⟩,e2,hos]
def ZEb (P:Program) (H:AHeap) (v w:Value):Option ARes:=if Zab v&&Zab w then match Zaf P (Builtin.min2 v w) with
 | some r=>if Zab r then some (.val r H) else none
 | none=>none
 else none
theorem ZvO {k k':IntKind} {a b:Int}:ZEb P H (.int k a) (.int k' b)=some (.val (.int k (if b<a then b else a)) H):=rfl
theorem ZvK {x y:Operand} {t t':TypeId} (hx:Zaa x=true) (hy:Zaa y=true):opA P H ρ (.call ⟨.builtin .min,#[x,y],#[t,t']⟩) ty=ZEb P H (ρ x) (ρ y):=by
 unfold opA Zao
 have hok:(Op.call ⟨.builtin .min,#[x,y],#[t,t']⟩).operands.all Zaa=true:=by
  simp [Op.operands,Call.operands,hx,hy]
 simp only [hok,if_true]
 unfold Zbm
 dsimp only
 unfold Zaz ZEb
 have hop:(Op.call ⟨.builtin .min,#[x,y],#[t,t']⟩).operands = #[x,y]:=by simp [Op.operands,Call.operands]
 simp only [hop]
 have hcl:(#[x,y]:Array Operand).all (fun z=>Zab (ρ z))=(Zab (ρ x)&&Zab (ρ y)):=by simp
 rw [hcl]
 by_cases hc:(Zab (ρ x)&&Zab (ρ y))=true
 · rw [if_pos hc,if_pos hc]
   have he:Zaf P (execOp ρ ⟨none,.call ⟨.builtin .min,#[x,y],#[t,t']⟩,ty, "",#[],none⟩)=(Zaf P (Builtin.min2 (ρ x) (ρ y))).map .value:=by
    unfold execOp
    simp only [resolve,invoke,builtin,List.map_toArray,List.map_cons,List.map_nil,pure_bind]
    have e:Builtin.min_ #[t,t'] ty #[ρ x,ρ y]=(Builtin.min2 (ρ x) (ρ y) >>= fun v=>pure v):=rfl
    rw [e]
    have e2:∀ s:Sem Value,Zaf P ((s >>= fun v=>pure v) >>= fun v=>pure (Next.value v))=(Zaf P s).map .value:=by
     intro s
     cases hs:Zaf P s with
     | some v=>rw [Zac (Zac (f:=fun v=>pure v) hs)];rfl
     | none =>
      cases hr:Zaf P ((s >>= fun v=>pure v) >>= fun v=>pure (Next.value v)) with
      | none=>rfl
      | some r =>
       obtain ⟨a,h1,_⟩:=Zb4 hr
       obtain ⟨a',h2,_⟩:=Zb4 h1
       rw [hs] at h2;cases h2
    exact e2 _
   rw [he]
   cases Zaf P (Builtin.min2 (ρ x) (ρ y)) with
   | none=>rfl
   | some r =>
    simp only [Option.map_some]
    split<;>rename_i h<;>split at h<;>simp_all
 · rw [if_neg hc,if_neg hc]
end
end
section
open Go
theorem Zez {a b:Nat} (h:a≠b):Nat.beq a b=false:=by
 cases hb:Nat.beq a b with
 | false=>rfl
 | true=>exact absurd (Nat.eq_of_beq_eq_true hb) h
inductive Tri where
 | nil
 | node (o:Option AObj) (l r:Tri)
noncomputable def Tri.get (t:Tri):Nat→Option AObj:=Tri.rec (fun _=>none) (fun o _ _ il ir n=>Bool.rec (Bool.rec (ir (Nat.pred (Nat.div n 2))) (il (Nat.div n 2)) (Nat.beq (Nat.mod n 2) 1)) o (Nat.beq n 0)) t
noncomputable def Tri.put (x:AObj) (d:Nat):Tri→Nat→Tri:=Nat.rec (fun t _=>t) (fun _ ih t n=>Tri.rec
 (Bool.rec (Bool.rec (.node none .nil (ih .nil (Nat.pred (Nat.div n 2)))) (.node none (ih .nil (Nat.div n 2)) .nil) (Nat.beq (Nat.mod n 2) 1)) (.node (some x) .nil .nil) (Nat.beq n 0))
 (fun o l r _ _=>Bool.rec (Bool.rec (.node o l (ih r (Nat.pred (Nat.div n 2)))) (.node o (ih l (Nat.div n 2)) r) (Nat.beq (Nat.mod n 2) 1)) (.node (some x) l r) (Nat.beq n 0)) t) d
theorem Tri.get_nil (n:Nat):Tri.nil.get n=none:=rfl
theorem Tri.get_node (o:Option AObj) (l r:Tri) (n:Nat):(Tri.node o l r).get n=if n=0 then o else if n % 2=1 then l.get (n / 2) else r.get (n / 2-1):=by
 show (Bool.rec (Bool.rec (r.get (n / 2-1)) (l.get (n / 2)) (Nat.beq (n % 2) 1)) o (Nat.beq n 0):Option AObj)=_
 by_cases h0:n=0
 · subst h0;rfl
 · have:Nat.beq n 0=false:=by exact Zez h0
   rw [this,if_neg h0]
   by_cases h1:n % 2=1
   · rw [if_pos h1,h1];rfl
   · have:Nat.beq (n % 2) 1=false:=by exact Zez h1
     rw [this,if_neg h1]
theorem Tri.get_put (x:AObj):∀ (d:Nat) (t:Tri) (n m:Nat),n+1<2 ^ d→(Tri.put x d t n).get m=if m=n then some x else t.get m:=by
 intro d
 induction d with
 | zero=>intro t n m h;simp at h
 | succ d ih =>
  intro t n m h
  have hp:2 ^ (d+1)=2*2 ^ d:=by rw [Nat.pow_succ];omega
  rw [hp] at h
  have main:∀ (o:Option AObj) (l r:Tri),((Bool.rec (Bool.rec (.node o l (Tri.put x d r (n / 2-1))) (.node o (Tri.put x d l (n / 2)) r) (Nat.beq (n % 2) 1)) (.node (some x) l r) (Nat.beq n 0)):Tri).get m=if m=n then some x else (Tri.node o l r).get m:=by
   intro o l r
   by_cases h0:n=0
   · subst h0
     show (Tri.node (some x) l r).get m=_
     rw [Tri.get_node,Tri.get_node]
     by_cases hm:m=0
     · simp [hm]
     · simp [hm]
   · have e0:Nat.beq n 0=false:=by exact Zez h0
     rw [e0]
     by_cases h1:n % 2=1
     · rw [h1]
       show (Tri.node o (Tri.put x d l (n / 2)) r).get m=_
       rw [Tri.get_node,Tri.get_node]
       by_cases hm:m=0
       · rw [if_pos hm,if_pos hm,if_neg (by omega)]
       · rw [if_neg hm,if_neg hm]
         by_cases hm1:m % 2=1
         · rw [if_pos hm1,if_pos hm1,ih _ _ _ (by omega)]
           by_cases he:m / 2=n / 2
           · rw [if_pos he,if_pos (by omega)]
           · rw [if_neg he,if_neg (by omega)]
         · rw [if_neg hm1,if_neg hm1,if_neg (by omega)]
     · have e1:Nat.beq (n % 2) 1=false:=by exact Zez h1
       rw [e1]
       show (Tri.node o l (Tri.put x d r (n / 2-1))).get m=_
       rw [Tri.get_node,Tri.get_node]
       by_cases hm:m=0
       · rw [if_pos hm,if_pos hm,if_neg (by omega)]
       · rw [if_neg hm,if_neg hm]
         by_cases hm1:m % 2=1
         · rw [if_pos hm1,if_pos hm1,if_neg (by omega)]
         · rw [if_neg hm1,if_neg hm1,ih _ _ _ (by omega)]
           by_cases he:m / 2-1=n / 2-1
           · rw [if_pos he,if_pos (by omega)]
           · rw [if_neg he,if_neg (by omega)]
  cases t with
  | nil =>
   have:=main none .nil .nil
   rw [Tri.get_node] at this
   simp only [Tri.get_nil,ite_self] at this
   rw [Tri.get_nil,←this]
   rfl
  | node o l r=>exact main o l r
structure FH where
 next:Nat
 t:Tri
noncomputable def FH.abs (F:FH):AHeap:=⟨F.next,F.t.get⟩
inductive Chg where
 | same
 | push (o:AObj)
 | set (i:Nat) (o:AObj)
def Chg.onA (H:AHeap):Chg→AHeap
 | .same=>H
 | .push o=>H.push o
 | .set i o=>H.set i o
noncomputable def Chg.onF (F:FH):Chg→Option FH
 | .same=>some F
 | .push o=>bif Nat.blt F.next 1000000 then some ⟨F.next+1,F.t.put o 20 F.next⟩ else none
 | .set i o=>bif Nat.blt i 1000000 then some ⟨F.next,F.t.put o 20 i⟩ else none
theorem Chg.onF_abs {F F':FH}:∀ {c:Chg},c.onF F=some F'→F'.abs=c.onA F.abs
 | .same,h=>by simp only [Chg.onF,Option.some.injEq] at h;subst h;rfl
 | .push o,h=>by
  unfold Chg.onF at h
  dsimp only at h
  cases hb:Nat.blt F.next 1000000 with
  | false=>rw [hb] at h;simp at h
  | true =>
   rw [hb] at h
   simp only [cond_true,Option.some.injEq] at h
   subst h
   have:F.next<1000000:=by simpa [Nat.blt_eq] using hb
   refine AHeap.ext' rfl fun j=>?_
   show (F.t.put o 20 F.next).get j=if j=F.next then some o else F.t.get j
   exact Tri.get_put _ _ _ _ _ (by omega)
 | .set i o,h=>by
  unfold Chg.onF at h
  dsimp only at h
  cases hb:Nat.blt i 1000000 with
  | false=>rw [hb] at h;simp at h
  | true =>
   rw [hb] at h
   simp only [cond_true,Option.some.injEq] at h
   subst h
   have:i<1000000:=by simpa [Nat.blt_eq] using hb
   refine AHeap.ext' rfl fun j=>?_
   show (F.t.put o 20 i).get j=if j=i then some o else F.t.get j
   exact Tri.get_put _ _ _ _ _ (by omega)
inductive FR where
 | val (v:Value) (c:Chg)
 | skip (c:Chg)
 | enter (f:FuncId) (args:List Value)
 | panic (v:Value)
def FR.toA (H:AHeap):FR→ARes
 | .val v c=>.val v (c.onA H)
 | .skip c=>.skip (c.onA H)
 | .enter f args=>.enter f args H
 | .panic v=>.panic v H
structure Tabs where
 und:Nat→Option TypeDesc
 info:Nat→Option TypeInfo
 func:Nat→Option Func
structure TabOK (P:Program) (T:Tabs):Prop where
 und:∀ t d,T.und t=some d→P.underlying t=some d
 info:∀ t i,T.info t=some i→P.info? t=some i
 func:∀ f fn,T.func f=some fn→P.funcs[f]?=some fn
def ZdK (T:Tabs) (t:TypeId):Option Bool :=
 match T.und t with
 | some (.struct _)=>some true
 | some (.array _ _)=>some true
 | some _=>some false
 | none=>none
def ZeQ (T:Tabs) (t:TypeId):Option Value:=match T.info t with
 | some i=>match i.zero with
  | some z=>if Zab z&&z.cells.toList.all Zba then some z else none
  | none=>none
 | none=>none
def ZaD (T:Tabs) (t:TypeId):Option (TypeInfo×TypeId):=match T.und t with
 | some (.slice e)=>match T.info e with
  | some i=>some (i,e)
  | none=>none
 | _=>none
section
variable {P:Program} {T:Tabs}
theorem TabOK.agg (h:TabOK P T) {t:TypeId} {b:Bool} (hb:ZdK T t=some b):Zu4 P t=some b:=by
 unfold ZdK at hb
 unfold Zu4
 cases hu:T.und t with
 | none=>rw [hu] at hb;simp at hb
 | some d=>rw [hu] at hb;rw [h.und _ _ hu];cases d<;>exact hb
theorem TabOK.zero (h:TabOK P T) {t:TypeId} {z:Value} (hz:ZeQ T t=some z):ZiQ P t=some z:=by
 unfold ZeQ at hz
 unfold ZiQ
 cases hu:T.info t with
 | none=>rw [hu] at hz;simp at hz
 | some d=>rw [hu] at hz;rw [h.info _ _ hu];exact hz
theorem TabOK.sl (h:TabOK P T) {t:TypeId} {q:TypeInfo×TypeId} (hz:ZaD T t=some q):Za7 P t=some q:=by
 unfold ZaD at hz
 unfold Za7
 cases hu:T.und t with
 | none=>rw [hu] at hz;simp at hz
 | some d =>
  rw [hu] at hz;rw [h.und _ _ hu]
  cases d<;>first | (simp at hz;done) | skip
  rename_i e
  dsimp only at hz ⊢
  cases hi:T.info e with
  | none=>rw [hi] at hz;simp at hz
  | some i=>rw [hi] at hz;rw [h.info _ _ hi];exact hz
end
def ZrS (a b:UInt8):Bool:=Nat.beq a.toNat b.toNat
def Zc2:List UInt8→List UInt8→Bool
 | [],[]=>true
 | a::l,b::m=>bif ZrS a b then Zc2 l m else false
 | _,_=>false
theorem Zkd:∀ (l m:List UInt8),Zc2 l m=decide (l=m)
 | [],[]=>by simp [Zc2]
 | [],_::_=>by simp [Zc2]
 | _::_,[]=>by simp [Zc2]
 | a::l,b::m=>by
  unfold Zc2 ZrS
  by_cases h:a=b
  · subst h
    have:Nat.beq a.toNat a.toNat=true:=by rw [Nat.beq_eq]
    rw [this,cond_true,Zkd l m]
    simp
  · have:Nat.beq a.toNat b.toNat=false:=by
     exact Zez fun e=>h (UInt8.toNat_inj.1 e)
    rw [this,cond_false]
    simp [h]
def Zax (s u:ByteArray):Bool:=Zc2 s.data.toList u.data.toList
theorem ZbE (s u:ByteArray):Zax s u=decide (s=u):=by
 unfold Zax
 rw [Zkd]
 by_cases h:s=u
 · subst h;simp
 · have:¬s.data.toList=u.data.toList:=fun e=>h (by cases s;cases u;simpa using e)
   simp [h,this]
end
section
open Go
section
variable {P:Program} {T:Tabs} {H:AHeap} {ρ:Operand→Value} {ty:TypeId}
def fV (v:Value):Option FR:=some (.val v .same)
theorem Za4 {v:Value} {r:FR} (h:fV v=some r):r.toA H=.val v H:=by
 simp only [fV,Option.some.injEq] at h;subst h;rfl
def ZaO:List Operand→Bool
 | []=>true
 | x::l=>bif Zaa x then ZaO l else false
theorem Zas:∀ (l:List Operand),ZaO l=l.all Zaa
 | []=>rfl
 | x::l=>by unfold ZaO;rw [Zas l,List.all_cons];cases Zaa x<;>rfl
def Zng (ρ:Operand→Value) (x:Operand):Option FR:=bif Zaa x then fV (ρ x) else none
theorem ZiN {x:Operand} {r:FR} (h:Zng ρ x=some r):opA P H ρ (.move x) ty=some (r.toA H)∧opA P H ρ (.assign x) ty=some (r.toA H):=by
 unfold Zng at h
 cases hx:Zaa x with
 | false=>rw [hx] at h;simp at h
 | true =>
  rw [hx,cond_true] at h
  rw [Za4 h]
  exact ⟨ZpL hx,Zk0 hx⟩
def Zup (ρ:Operand→Value) (c a b:Operand):Option FR:=bif ZaO [c,a,b] then match ρ c with
    | .bool true=>fV (ρ a)
    | .bool false=>fV (ρ b)
    | _=>none
 else none
theorem Zp9 {c a b:Operand} {r:FR} (h:Zup ρ c a b=some r):opA P H ρ (.pick c a b) ty=some (r.toA H):=by
 unfold Zup at h
 cases hk:ZaO [c,a,b] with
 | false=>rw [hk] at h;simp at h
 | true =>
  rw [hk,cond_true] at h
  rw [Zas] at hk
  simp only [List.all_cons,List.all_nil,Bool.and_true,Bool.and_eq_true] at hk
  split at h
  · rename_i hc
    rw [ZlB hk.1 hk.2.1 hk.2.2 (by rw [hc];rfl),hc,Za4 h];rfl
  · rename_i hc
    rw [ZlB hk.1 hk.2.1 hk.2.2 (by rw [hc];rfl),hc,Za4 h];rfl
  · simp at h
def Znl (T:Tabs) (H:AHeap) (t:TypeId):Option FR:=match ZeQ T t with
 | some z=>some (.val (.pointer (some ⟨H.next,0,none⟩)) (.push (.box z.cells.toList t)))
 | none=>none
theorem Zj3 (hT:TabOK P T) {t:TypeId} {r:FR} (h:Znl T H t=some r):opA P H ρ (.alloc t) ty=some (r.toA H):=by
 unfold Znl at h
 split at h
 case h_2=>simp at h
 rename_i z hz
 simp only [Option.some.injEq] at h
 subst h
 rw [Ztx,hT.zero hz];rfl
def ZCf (T:Tabs) (H:AHeap) (ρ:Operand→Value) (t:TypeId) (x:Operand):Option FR:=match T.info t with
 | some _=>bif Zaa x&&(ρ x).cells.toList.all Zba then some (.val (.pointer (some ⟨H.next,0,none⟩)) (.push (.box (ρ x).cells.toList t))) else none
 | none=>none
theorem ZoS (hT:TabOK P T) {t:TypeId} {x:Operand} {r:FR} (h:ZCf T H ρ t x=some r):opA P H ρ (.box t x) ty=some (r.toA H):=by
 unfold ZCf at h
 split at h
 case h_2=>simp at h
 rename_i i hi
 cases hc:Zaa x&&(ρ x).cells.toList.all Zba with
 | false=>rw [hc] at h;simp at h
 | true =>
  rw [hc,cond_true] at h
  rw [Bool.and_eq_true] at hc
  simp only [Option.some.injEq] at h
  subst h
  rw [ZyH hc.1 (by rw [hT.info _ _ hi];rfl) hc.2];rfl
def Znh (T:Tabs) (H:AHeap) (ρ:Operand→Value) (t:TypeId) (x:Operand):Option FR:=bif Zaa x then match ρ x with
    | .pointer (some a)=>match ZdK T t with
     | some false=>match H.cell a with
      | some v=>fV v
      | none=>none
     | some true=>match T.info t with
      | some i=>match H.readN a i.size with
       | some vs=>fV (.agg vs.toArray)
       | none=>none
      | none=>none
     | none=>none
    | _=>none
 else none
theorem Zha (hT:TabOK P T) {t:TypeId} {x:Operand} {r:FR} (h:Znh T H ρ t x=some r):opA P H ρ (.load t x) ty=some (r.toA H):=by
 unfold Znh at h
 cases hx:Zaa x with
 | false=>rw [hx] at h;simp at h
 | true =>
  rw [hx,cond_true] at h
  rw [ZlC hx]
  split at h
  case h_2=>simp at h
  rename_i a ha
  rw [ha,ZjJ]
  unfold AHeap.loadV
  split at h
  · rename_i hg
    rw [hT.agg hg]
    dsimp only
    split at h
    · rename_i v hv;rw [hv,Za4 h];rfl
    · simp at h
  · rename_i hg
    rw [hT.agg hg]
    dsimp only
    split at h
    case h_2=>simp at h
    rename_i i hi
    rw [hT.info _ _ hi]
    dsimp only
    split at h
    · rename_i vs hv;rw [hv,Za4 h];rfl
    · simp at h
  · simp at h
def ZeT {α:Type} (cs:List α) (o:Nat):List α→List α
 | []=>cs
 | x::xs=>ZeT (cs.set o x) (o+1) xs
theorem ZmC:∀ (xs cs:List Value) (o:Nat),ZeT cs o xs=ZCN cs o xs
 | [],_,_=>rfl
 | x::xs,cs,o=>ZmC xs (cs.set o x) (o+1)
theorem ZpA {b g:Nat} {e:TypeId}:∀ (xs:List Value) (o:Nat) (cs:List Value) (st:List Nat) (H:AHeap),H.get b=some (.arr cs st g e false)→o+xs.length≤cs.length→o+xs.length≤st.length→xs.all Zba=true →
    H.setN ⟨b,o,some g⟩ xs=some (H.set b (.arr (ZeT cs o xs) (ZeT st o (xs.map fun _=>g)) g e false))
 | [],o,cs,st,H,hg,_,_,_=>by rw [show ZeT cs o []=cs from rfl];show some H=some (H.set b (.arr cs st g e false));rw [AHeap.set_self hg]
 | x::xs,o,cs,st,H,hg,hl,hl2,hf=>by
  simp only [List.all_cons,Bool.and_eq_true] at hf
  simp only [List.length_cons] at hl hl2
  unfold AHeap.setN
  rw [ZkR hf.1,hg,Option.getD_some]
  have:ZfE H b o g x (some (.arr cs st g e false))=some (H.set b (.arr (cs.set o x) (st.set o g) g e false)):=by
   unfold ZfE;dsimp only;rw [if_pos ⟨rfl,by omega,by omega⟩]
  rw [this]
  dsimp only
  rw [Zmi,ZpA xs (o+1) (cs.set o x) (st.set o g) _ Zif (by simpa using by omega) (by simpa using by omega) hf.2,AHeap.set_set]
  rfl
def Zb5 {α:Type} (n:Nat) (l:List α):Bool:=Nat.ble n l.length
theorem ZdS {α:Type} {n:Nat} {l:List α} (h:Zb5 n l=true):n≤l.length:=Nat.le_of_ble_eq_true h
def Zef (T:Tabs) (H:AHeap) (ρ:Operand→Value) (t:TypeId) (x y:Operand):Option FR:=bif ZaO [x,y] then match T.info t,ρ x with
    | some i,.pointer (some ⟨b,o,sp⟩)=>bif Nat.beq (ρ y).cells.toList.length i.size&&(ρ y).cells.toList.all Zba then match H.get b,sp with
        | some (.box cs e),none=>bif Zb5 (o+i.size) cs then some (.skip (.set b (.box (ZeT cs o (ρ y).cells.toList) e))) else none
        | some (.arr cs st g e false),some g'=>bif Nat.beq g g'&&Zb5 (o+i.size) cs&&Zb5 (o+i.size) st then some (.skip (.set b (.arr (ZeT cs o (ρ y).cells.toList) (ZeT st o ((ρ y).cells.toList.map fun _=>g)) g e false))) else none
        | _,_=>none
     else none
    | _,_=>none
 else none
theorem Zee (hT:TabOK P T) {t:TypeId} {x y:Operand} {r:FR} (h:Zef T H ρ t x y=some r):opA P H ρ (.store t x y) ty=some (r.toA H):=by
 unfold Zef at h
 cases hk:ZaO [x,y] with
 | false=>rw [hk] at h;simp at h
 | true =>
  rw [hk,cond_true] at h
  rw [Zas] at hk
  simp only [List.all_cons,List.all_nil,Bool.and_true,Bool.and_eq_true] at hk
  rw [Zts hk.1 hk.2]
  split at h
  case h_2=>simp at h
  rename_i i b o sp hi ha
  rw [ha,ZqG]
  cases hc:Nat.beq (ρ y).cells.toList.length i.size&&(ρ y).cells.toList.all Zba with
  | false=>rw [hc] at h;simp at h
  | true =>
   rw [hc,cond_true] at h
   rw [Bool.and_eq_true] at hc
   have hlen:(ρ y).cells.toList.length=i.size:=Nat.eq_of_beq_eq_true hc.1
   unfold AHeap.storeV
   rw [hT.info _ _ hi]
   dsimp only
   rw [if_pos (by rw [←hlen,Array.length_toList])]
   split at h
   · rename_i cs e hg
     cases hl:Zb5 (o+i.size) cs with
     | false=>rw [hl] at h;simp at h
     | true =>
      rw [hl,cond_true] at h
      simp only [Option.some.injEq] at h
      subst h
      rw [Zpz _ _ _ _ hg (by rw [hlen];exact ZdS hl) hc.2,←ZmC];rfl
   · rename_i cs st g e g' hg
     cases hl:Nat.beq g g'&&Zb5 (o+i.size) cs&&Zb5 (o+i.size) st with
     | false=>rw [hl] at h;simp at h
     | true =>
      rw [hl,cond_true] at h
      simp only [Bool.and_eq_true] at hl
      obtain rfl:g=g':=Nat.eq_of_beq_eq_true hl.1.1
      simp only [Option.some.injEq] at h
      subst h
      rw [ZpA _ _ _ _ _ hg (by rw [hlen];exact ZdS hl.1.2) (by rw [hlen];exact ZdS hl.2) hc.2];rfl
   · simp at h
def Zed (T:Tabs) (s:TypeId) (f:Nat):Option Nat:=match T.und s with
 | some (.struct fields)=>match fields.toList[f]? with
  | some fd=>match T.info fd.type with
   | some i=>bif Nat.beq i.size 0 then none else some fd.offset
   | none=>none
  | none=>none
 | _=>none
theorem Zne (hT:TabOK P T) {s:TypeId} {f n:Nat} (h:Zed T s f=some n):ZiM P s f=some n:=by
 unfold Zed at h
 unfold ZiM
 split at h
 case h_2=>simp at h
 rename_i fields hu
 rw [hT.und _ _ hu]
 dsimp only
 rw [Array.getElem?_toList] at h
 split at h
 case h_2=>simp at h
 rename_i fd hf
 rw [hf]
 dsimp only
 split at h
 case h_2=>simp at h
 rename_i i hi
 rw [hT.info _ _ hi]
 dsimp only
 cases hb:Nat.beq i.size 0 with
 | true=>rw [hb] at h;simp at h
 | false =>
  rw [hb,cond_false] at h
  rw [if_neg (fun e=>by rw [e] at hb;simp at hb)];exact h
def ZcU (T:Tabs) (ρ:Operand→Value) (s:TypeId) (x:Operand) (f:Nat):Option FR:=bif Zaa x then match ρ x with
    | .pointer (some ⟨b,o,sp⟩)=>match Zed T s f with
     | some off=>fV (.pointer (some ⟨b,o+off,sp⟩))
     | none=>none
    | _=>none
 else none
theorem Zdh (hT:TabOK P T) {s:TypeId} {x:Operand} {f:Nat} {r:FR} (h:ZcU T ρ s x f=some r):opA P H ρ (.fieldAddr s x f) ty=some (r.toA H):=by
 unfold ZcU at h
 cases hx:Zaa x with
 | false=>rw [hx] at h;simp at h
 | true =>
  rw [hx,cond_true] at h
  rw [ZlE hx]
  split at h
  case h_2=>simp at h
  rename_i b o sp ha
  rw [ha,ZlY]
  split at h
  case h_2=>simp at h
  rename_i off hoff
  rw [Zne hT hoff,Za4 h];rfl
def Zgl (T:Tabs) (t:TypeId) (cs:List Value) (off:Nat):Option Value :=
 match ZdK T t with
 | some true=>match T.info t with
  | some i=>bif Zb5 (off+i.size) cs then some (.agg ((cs.drop off).take i.size).toArray) else none
  | none=>none
 | some false=>cs[off]?
 | none=>none
theorem ZqU (hT:TabOK P T) {t:TypeId} {cs:List Value} {off:Nat} {v:Value} (h:Zgl T t cs off=some v):ZkX P t cs off=some v:=by
 unfold Zgl at h
 unfold ZkX
 split at h
 · rename_i hg
   rw [hT.agg hg]
   dsimp only
   split at h
   case h_2=>simp at h
   rename_i i hi
   rw [hT.info _ _ hi]
   dsimp only
   cases hb:Zb5 (off+i.size) cs with
   | false=>rw [hb] at h;simp at h
   | true=>rw [hb,cond_true] at h;rw [if_pos (ZdS hb)];exact h
 · rename_i hg
   rw [hT.agg hg];exact h
 · simp at h
def ZjZ (T:Tabs) (ρ:Operand→Value) (t:TypeId) (x:Operand) (f:Nat):Option FR:=bif Zaa x then match T.und t,ρ x with
    | some (.struct fields),.agg cs=>match fields.toList[f]? with
     | some fd=>match Zgl T fd.type cs.toList fd.offset with
      | some v=>fV v
      | none=>none
     | none=>none
    | _,_=>none
 else none
theorem Zhb (hT:TabOK P T) {t:TypeId} {x:Operand} {f:Nat} {r:FR} (h:ZjZ T ρ t x f=some r):opA P H ρ (.field t x f) ty=some (r.toA H):=by
 unfold ZjZ at h
 cases hx:Zaa x with
 | false=>rw [hx] at h;simp at h
 | true =>
  rw [hx,cond_true] at h
  rw [Ztv hx]
  unfold Zuo
  split at h
  case h_2=>simp at h
  rename_i fields cs hu ha
  rw [hT.und _ _ hu,ha]
  dsimp only
  rw [Array.getElem?_toList] at h
  split at h
  case h_2=>simp at h
  rename_i fd hf
  rw [hf]
  dsimp only
  split at h
  case h_2=>simp at h
  rename_i v hv
  rw [ZqU hT hv,Za4 h];rfl
def ZCY (ρ:Operand→Value) (x:Operand):Option FR:=bif Zaa x then match ρ x with
    | .pointer (some a)=>fV (.pointer (some a))
    | .func (.func f) u v=>fV (.func (.func f) u v)
    | _=>none
 else none
theorem Zuq {x:Operand} {r:FR} (h:ZCY ρ x=some r):opA P H ρ (.nilCheck x) ty=some (r.toA H):=by
 unfold ZCY at h
 cases hx:Zaa x with
 | false=>rw [hx] at h;simp at h
 | true =>
  rw [hx,cond_true] at h
  rw [Zfh hx]
  split at h
  · rename_i a ha;rw [ha,ZlL,Za4 h]
  · rename_i f u v ha;rw [ha,Zku,Za4 h]
  · simp at h
def ZfU (ρ:Operand→Value) (x:Operand) (ix:Nat):Option FR:=bif Zaa x then match ρ x with
    | .tuple vs=>match vs.toList[ix]? with
     | some v=>fV v
     | none=>none
    | _=>none
 else none
theorem Zgu {x:Operand} {ix:Nat} {r:FR} (h:ZfU ρ x ix=some r):opA P H ρ (.extract x ix) ty=some (r.toA H):=by
 unfold ZfU at h
 cases hx:Zaa x with
 | false=>rw [hx] at h;simp at h
 | true =>
  rw [hx,cond_true] at h
  rw [Zox hx]
  split at h
  case h_2=>simp at h
  rename_i vs ha
  rw [ha,Zkz]
  rw [Array.getElem?_toList] at h
  split at h
  case h_2=>simp at h
  rename_i v hv
  rw [hv,Za4 h];rfl
def ZcT (T:Tabs) (ρ:Operand→Value) (t:TypeId) (x y:Operand):Option FR:=bif ZaO [x,y] then match ZaD T t,ρ x,ρ y with
    | some (i,_),.slice (some ⟨b,o,sp⟩) len _,.int _ (.ofNat n)=>bif Nat.blt n len then fV (.pointer (some ⟨b,o+n*i.size,sp⟩)) else none
    | _,_,_=>none
 else none
theorem ZcG (hT:TabOK P T) {t:TypeId} {x y:Operand} {r:FR} (h:ZcT T ρ t x y=some r):opA P H ρ (.indexAddr t x y) ty=some (r.toA H):=by
 unfold ZcT at h
 cases hk:ZaO [x,y] with
 | false=>rw [hk] at h;simp at h
 | true =>
  rw [hk,cond_true] at h
  rw [Zas] at hk
  simp only [List.all_cons,List.all_nil,Bool.and_true,Bool.and_eq_true] at hk
  split at h
  case h_2=>simp at h
  rename_i i e b o sp len cap k n hi ha hb
  have hs:=hT.sl hi
  rw [ZlD hk.1 hk.2 (by rw [hs];rfl),ha,hb]
  cases hl:Nat.blt n len with
  | false=>rw [hl] at h;simp at h
  | true =>
   rw [hl,cond_true] at h
   have hlt:n<len:=by simpa [Nat.blt_eq] using hl
   have hes:ZfV P t=i.size:=by unfold ZfV;rw [hs]
   rw [ZlS (by constructor<;>simp<;>omega),hes,Za4 h];rfl
end
end
section
open Go
section
variable {P:Program} {T:Tabs} {H:AHeap} {ρ:Operand→Value} {ty:TypeId}
theorem Zwr {t:TypeId} {x y:Operand} {s u:ByteArray} (hb:s.data.toList.length+u.data.toList.length≤9223372036854775807):Zgc P H .add t x y (.string s) (.string u)=some (.val (.string ⟨(s.data.toList++u.data.toList).toArray⟩) H):=by
 have e:(⟨(s.data.toList++u.data.toList).toArray⟩:ByteArray)=s++u:=by
  apply ByteArray.ext
  simp
 rw [e]
 have hs:¬(9223372036854775807:Int)<(s.size:Int)+(u.size:Int):=by
  have h1:s.data.toList.length=s.size:=rfl
  have h2:u.data.toList.length=u.size:=rfl
  omega
 exact Zbi (by simp [Zej,Zab,Zal,go_sem,Op.stringOp,hs])
theorem ZuU {t:TypeId} {x y:Operand} {k k':IntKind} {a b:Int} (hb:¬b<0):Zgc P H .shl t x y (.int k a) (.int k' b)=some (.val (.int k (k.wrap (a*2 ^ min b.toNat k.bits))) H):=Zbi (by
 have h1:eqGuard .shl t x y (.int k a) (.int k' b)=pure ():=rfl
 have h2:binOp .shl t (.int k a) (.int k' b)=pure (.int k (k.wrap (a*2 ^ min b.toNat k.bits))):=by
  show Op.shift .shl k a k' b=_
  unfold Op.shift;rw [if_neg hb]
 simp [Zej,Zab,Zal,h1,h2])
theorem ZuT {t:TypeId} {x y:Operand} {k k':IntKind} {a b:Int} (hb:¬b<0):Zgc P H .shr t x y (.int k a) (.int k' b)=some (.val (.int k (a.fdiv (2 ^ min b.toNat k.bits))) H):=Zbi (by
 have h1:eqGuard .shr t x y (.int k a) (.int k' b)=pure ():=rfl
 have h2:binOp .shr t (.int k a) (.int k' b)=pure (.int k (a.fdiv (2 ^ min b.toNat k.bits))):=by
  show Op.shift .shr k a k' b=_
  unfold Op.shift;rw [if_neg hb]
 simp [Zej,Zab,Zal,h1,h2])
def Zz8 (op:BinOp) (k:IntKind) (a b:Int):Option Int:=match op with
 | .and=>some (k.wrap (BitVec.ofInt k.bits a &&& BitVec.ofInt k.bits b).toNat)
 | .or=>some (k.wrap (BitVec.ofInt k.bits a ||| BitVec.ofInt k.bits b).toNat)
 | .xor=>some (k.wrap (BitVec.ofInt k.bits a ^^^ BitVec.ofInt k.bits b).toNat)
 | .andNot=>some (k.wrap (BitVec.ofInt k.bits a &&& ~~~(BitVec.ofInt k.bits b)).toNat)
 | _=>none
theorem Zwt {op:BinOp} {t:TypeId} {x y:Operand} {k:IntKind} {a b r:Int} (h:Zz8 op k a b=some r):Zgc P H op t x y (.int k a) (.int k b)=some (.val (.int k r) H):=by
 have key:∀ op,eqGuard op t x y (.int k a) (.int k b)=pure ():=fun op=>by cases op<;>rfl
 have h2:binOp op t (.int k a) (.int k b)=pure (.int k r):=by
  cases op<;>simp only [Zz8,Option.some.injEq,reduceCtorEq] at h<;>subst h<;>(simp only [binOp,ne_eq,not_true_eq_false,if_false];rfl)
 exact Zbi (by simp [Zej,Zab,Zal,key,h2])
def Znk (T:Tabs) (ρ:Operand→Value) (op:BinOp) (t:TypeId) (x y:Operand):Option FR:=bif ZaO [x,y] then match ρ x,ρ y with
    | .int k a,.int k' b=>if k=k' then match op with
        | .lss=>fV (.bool (decide (a<b)))
        | .leq=>fV (.bool (decide (a≤b)))
        | .gtr=>fV (.bool (decide (b<a)))
        | .geq=>fV (.bool (decide (b≤a)))
        | .eql=>fV (.bool (decide (a=b)))
        | .neq=>fV (.bool (!decide (a=b)))
        | .add=>fV (.int k (k.wrap (a+b)))
        | .sub=>fV (.int k (k.wrap (a-b)))
        | .mul=>fV (.int k (k.wrap (a*b)))
        | .rem=>if b=0 then none else fV (.int k (a.tmod b))
        | .quo=>if b=0 then none else fV (.int k (k.wrap (a.tdiv b)))
        | .shl=>if b<0 then none else fV (.int k (k.wrap (a*2 ^ min b.toNat k.bits)))
        | .shr=>if b<0 then none else fV (.int k (a.fdiv (2 ^ min b.toNat k.bits)))
        | op=>match Zz8 op k a b with
         | some r=>fV (.int k r)
         | none=>none
     else match op with
      | .shl=>if b<0 then none else fV (.int k (k.wrap (a*2 ^ min b.toNat k.bits)))
      | .shr=>if b<0 then none else fV (.int k (a.fdiv (2 ^ min b.toNat k.bits)))
      | _=>none
    | .string s,.string u=>match op with
        | .eql=>fV (.bool (Zax s u))
        | .neq=>fV (.bool (!Zax s u))
        | .add=>bif Nat.ble (s.data.toList.length+u.data.toList.length) 9223372036854775807 then fV (.string ⟨(s.data.toList++u.data.toList).toArray⟩) else none
        | _=>none
    | .bool p,.bool q=>match T.und t with
        | some .bool=>match op with
         | .eql=>fV (.bool (p == q))
         | .neq=>fV (.bool (!(p == q)))
         | _=>none
        | _=>none
    | .pointer none,.pointer none=>match T.und t with
        | some (.pointer _)=>match op with
         | .eql=>fV (.bool true)
         | .neq=>fV (.bool false)
         | _=>none
        | _=>none
    | .slice none 0 0,.slice none 0 0=>match T.und t with
        | some (.slice _)=>match op with
         | .eql=>fV (.bool true)
         | .neq=>fV (.bool false)
         | _=>none
        | _=>none
    | v,w=>bif Zab v&&Zab w then none else match T.und t with
        | some d=>match ZjG d v w with
         | some b=>match op with
          | .eql=>fV (.bool b)
          | .neq=>fV (.bool (!b))
          | _=>none
         | none=>none
        | none=>none
 else none
theorem ZhH (hT:TabOK P T) {op:BinOp} {t u:TypeId} {x y:Operand} {r:FR} (h:Znk T ρ op t x y=some r):opA P H ρ (.binOp op t x y u) ty=some (r.toA H):=by
 unfold Znk at h
 cases hk:ZaO [x,y] with
 | false=>rw [hk] at h;simp at h
 | true =>
  rw [hk,cond_true] at h
  rw [Zas] at hk
  simp only [List.all_cons,List.all_nil,Bool.and_true,Bool.and_eq_true] at hk
  rw [ZlG hk.1 hk.2]
  split at h
  · rename_i k a k' b ha hb
    rw [ha,hb]
    split at h
    case isFalse =>
     split at h
     · split at h
       · simp at h
       · rename_i hb0;rw [ZuU hb0,Za4 h]
     · split at h
       · simp at h
       · rename_i hb0;rw [ZuT hb0,Za4 h]
     · simp at h
    rename_i hkk
    subst hkk
    split at h
    · rw [ZAf,Za4 h]
    · rw [ZAg,Za4 h]
    · rw [ZAh,Za4 h]
    · rw [ZAi,Za4 h]
    · rw [ZAj,Za4 h]
    · rw [ZAd,Za4 h]
    · rw [ZAk,Za4 h]
    · rw [ZAa,Za4 h]
    · rw [ZAe,Za4 h]
    · split at h
      · simp at h
      · rename_i hb0;rw [ZAb hb0,Za4 h]
    · split at h
      · simp at h
      · rename_i hb0;rw [ZAc hb0,Za4 h]
    · split at h
      · simp at h
      · rename_i hb0;rw [ZuU hb0,Za4 h]
    · split at h
      · simp at h
      · rename_i hb0;rw [ZuT hb0,Za4 h]
    · split at h
      · rename_i r hr;rw [Zwt hr,Za4 h]
      · simp at h
  · rename_i s v ha hb
    rw [ha,hb]
    split at h
    · rw [Zwq,Za4 h,ZbE]
    · rw [Zwp,Za4 h,ZbE]
    · cases hl:Nat.ble (s.data.toList.length+v.data.toList.length) 9223372036854775807 with
      | false=>rw [hl] at h;simp at h
      | true =>
       rw [hl,cond_true] at h
       rw [Zwr (Nat.le_of_ble_eq_true hl),Za4 h]
    · simp at h
  · rename_i p q ha hb
    rw [ha,hb]
    split at h
    case h_2=>simp at h
    rename_i hu
    split at h
    · rw [Zwu (hT.und _ _ hu),Za4 h]
    · rw [Zws (hT.und _ _ hu),Za4 h]
    · simp at h
  · rename_i ha hb
    rw [ha,hb]
    split at h
    case h_2=>simp at h
    rename_i e hu
    have hp:=Zv0 (hT.und _ _ hu)
    split at h
    · rw [Zpc hp,Za4 h]
    · rw [Zpb hp,Za4 h]
    · simp at h
  · rename_i ha hb
    rw [ha,hb]
    split at h
    case h_2=>simp at h
    rename_i e hu
    have hp:=Zk3 (hT.und _ _ hu)
    split at h
    · rw [ZnP hp,Za4 h]
    · rw [ZnO hp,Za4 h]
    · simp at h
  · cases hc:Zab (ρ x)&&Zab (ρ y) with
    | true=>rw [hc] at h;simp at h
    | false =>
     rw [hc,cond_false] at h
     have hcl:Zej P op t x y (ρ x) (ρ y)=none∨Zab (ρ x)=false∨Zab (ρ y)=false:=by
      rcases Bool.and_eq_false_iff.1 hc with h | h
      · exact .inr (.inl h)
      · exact .inr (.inr h)
     split at h
     case h_2=>simp at h
     rename_i d hu
     split at h
     case h_2=>simp at h
     rename_i b hn
     split at h
     · rw [(ZuV hcl (hT.und _ _ hu) hn).1 rfl,Za4 h]
     · rw [(ZuV hcl (hT.und _ _ hu) hn).2 rfl,Za4 h]
     · simp at h
def fUn (ρ:Operand→Value) (op:UnOp) (x:Operand):Option FR:=bif Zaa x then match op,ρ x with
    | .not,.bool b=>fV (.bool !b)
    | _,_=>none
 else none
theorem Zp8 {op:UnOp} {t:TypeId} {x:Operand} {r:FR} (h:fUn ρ op x=some r):opA P H ρ (.unOp op t x) ty=some (r.toA H):=by
 unfold fUn at h
 cases hx:Zaa x with
 | false=>rw [hx] at h;simp at h
 | true =>
  rw [hx,cond_true] at h
  rw [ZBE hx]
  split at h
  · rename_i b hb;rw [hb,ZAS,Za4 h]
  · simp at h
theorem Zhf {op:Op} {v:Value} {s:Sem Value} (hev:opA P H ρ op ty=match Zaz P ρ ⟨none,op,ty, "",#[],none⟩ with
      | some v=>some (.val v H)
      | none=>none)
 (hex:execOp ρ ⟨none,op,ty, "",#[],none⟩=(do pure (Next.value (← s)):Sem Next)) (hc:op.operands.all (fun x=>Zab (ρ x))=true) (hs:Zaf P s=some v) (hv:Zab v=true):opA P H ρ op ty=some (.val v H):=by
 rw [hev]
 unfold Zaz
 rw [if_pos hc,hex,Zew hs]
 dsimp only
 rw [if_pos hv]
def Zj1 (T:Tabs) (ρ:Operand→Value) (src dst:TypeId) (x:Operand):Option FR:=bif Zaa x then match T.und src,T.und dst,ρ x with
    | some _,some (.int k),.int _ n=>fV (.int k (k.wrap n))
    | some _,some .string,.string s=>fV (.string s)
    | _,_,_=>none
 else none
theorem Zl2 (hT:TabOK P T) {src dst:TypeId} {x:Operand} {r:FR} (h:Zj1 T ρ src dst x=some r):opA P H ρ (.convert src dst x) ty=some (r.toA H):=by
 unfold Zj1 at h
 cases hx:Zaa x with
 | false=>rw [hx] at h;simp at h
 | true =>
  rw [hx,cond_true] at h
  have hev:opA P H ρ (.convert src dst x) ty=match Zaz P ρ ⟨none,.convert src dst x,ty, "",#[],none⟩ with
   | some v=>some (.val v H)
   | none=>none:=by
   rw [Zcj (by simp) (by simp) (by simp) (by simp)];unfold ZaG;simp [Op.operands,hx];rfl
  have hex:execOp ρ ⟨none,.convert src dst x,ty, "",#[],none⟩=(do pure (Next.value (← convert src dst (ρ x))):Sem Next):=rfl
  split at h
  · rename_i d k k0 n hu1 hu2 ha
    rw [Za4 h]
    refine Zhf hev hex (by simp [Op.operands,ha,Zab]) ?_ rfl
    unfold convert
    rw [Zac (Zai (hT.und _ _ hu1)),Zac (Zai (hT.und _ _ hu2)),ha]
    rfl
  · rename_i d s hu1 hu2 ha
    rw [Za4 h]
    refine Zhf hev hex (by simp [Op.operands,ha,Zab]) ?_ rfl
    unfold convert
    rw [Zac (Zai (hT.und _ _ hu1)),Zac (Zai (hT.und _ _ hu2)),ha]
    cases d<;>rfl
  · simp at h
theorem ZgV {t:TypeId} {b:Bool} (h:Zu4 P t=some b):Zaf P (isAgg t)=some b:=by
 unfold Zu4 at h
 unfold isAgg
 cases hu:P.underlying t with
 | none=>rw [hu] at h;simp at h
 | some d =>
  rw [hu] at h
  rw [Zac (Zai hu)]
  cases d<;>simp at h<;>subst h<;>rfl
theorem Zks {t:TypeId} {i:TypeInfo} (h:P.info? t=some i):Zaf P (sizeOf t)=some i.size:=by
 unfold Go.sizeOf typeInfo
 have e:Zaf P (program:Sem Program)=some P:=rfl
 rw [Zac (a:=i)]
 · rfl
 · rw [Zac e,h];rfl
def ZdC (T:Tabs) (ρ:Operand→Value) (t:TypeId) (x y:Operand):Option FR:=bif ZaO [x,y] then match T.und t,ρ x,ρ y with
    | some .string,.string s,.int _ (.ofNat n)=>match s.data.toList[n]? with
     | some b=>fV (.int .u8 b.toNat)
     | none=>none
    | some (.array len e),.agg cs,.int _ (.ofNat n)=>match ZdK T e,T.info e with
     | some false,some i=>bif Nat.blt n len&&Zab (.agg cs) then match cs.toList[n*i.size]? with
         | some v=>bif Zab v then fV v else none
         | none=>none
      else none
     | _,_=>none
    | _,_,_=>none
 else none
theorem Zfq (hT:TabOK P T) {t:TypeId} {x y:Operand} {r:FR} (h:ZdC T ρ t x y=some r):opA P H ρ (.index t x y) ty=some (r.toA H):=by
 unfold ZdC at h
 cases hk:ZaO [x,y] with
 | false=>rw [hk] at h;simp at h
 | true =>
  rw [hk,cond_true] at h
  rw [Zas] at hk
  simp only [List.all_cons,List.all_nil,Bool.and_true,Bool.and_eq_true] at hk
  have hev:opA P H ρ (.index t x y) ty=match Zaz P ρ ⟨none,.index t x y,ty, "",#[],none⟩ with
   | some v=>some (.val v H)
   | none=>none:=by
   rw [Zcj (by simp) (by simp) (by simp) (by simp)];unfold ZaG;simp [Op.operands,hk.1,hk.2];rfl
  have hex:execOp ρ ⟨none,.index t x y,ty, "",#[],none⟩=(do pure (Next.value (← Instr.index t (ρ x) (ρ y))):Sem Next):=rfl
  split at h
  · rename_i s k n hu ha hb
    split at h
    case h_2=>simp at h
    rename_i b hs
    rw [Za4 h]
    refine Zhf hev hex (by simp [Op.operands,ha,hb,Zab]) ?_ rfl
    unfold Instr.index
    rw [hb]
    have e1:Zaf P (asIntOf (.int k (.ofNat n)))=some (k,.ofNat n):=rfl
    rw [Zac e1]
    dsimp only
    rw [Zac (Zai (hT.und _ _ hu)),ha]
    dsimp only
    have h0:(0:Int)≤Int.ofNat n:=Int.natCast_nonneg n
    rw [if_pos h0]
    have hg:s[(Int.ofNat n).toNat]?=some b:=by
     show s[n]?=some b
     rw [Array.getElem?_toList] at hs
     have:=Array.getElem?_eq_some_iff.1 hs
     obtain ⟨hlt,hv⟩:=this
     have hlt':n<s.size:=hlt
     rw [getElem?_pos s n hlt']
     congr 1
    rw [hg]
    rfl
  · rename_i len e cs k n hu ha hb
    split at h
    case h_2=>simp at h
    rename_i i hag hi
    cases hc:Nat.blt n len&&Zab (.agg cs) with
    | false=>rw [hc] at h;simp at h
    | true =>
     rw [hc,cond_true] at h
     rw [Bool.and_eq_true] at hc
     have hlt:n<len:=by simpa [Nat.blt_eq] using hc.1
     split at h
     case h_2=>simp at h
     rename_i v hv
     cases hcv:Zab v with
     | false=>rw [hcv] at h;simp at h
     | true =>
      rw [hcv,cond_true] at h
      rw [Za4 h]
      refine Zhf hev hex (by simp [Op.operands,ha,hb];exact ⟨hc.2,rfl⟩) ?_ hcv
      unfold Instr.index
      rw [hb]
      have e1:Zaf P (asIntOf (.int k (.ofNat n)))=some (k,.ofNat n):=rfl
      rw [Zac e1]
      dsimp only
      rw [Zac (Zai (hT.und _ _ hu)),ha]
      dsimp only
      rw [if_pos ⟨Int.natCast_nonneg n,by simpa using hlt⟩,Zac (Zks (hT.info _ _ hi))]
      unfold part
      rw [Zac (ZgV (hT.agg hag))]
      rw [Array.getElem?_toList] at hv
      have:cs[(Int.ofNat n).toNat*i.size]?=some v:=hv
      simp only [Bool.false_eq_true,if_false,this]
      rfl
  · simp at h
end
end
section
open Go
section
variable {P:Program} {T:Tabs} {H:AHeap} {ρ:Operand→Value} {ty:TypeId}
def ZlA:Option Operand→List Operand
 | some x=>[x]
 | none=>[]
def Zii (T:Tabs) (H:AHeap) (ρ:Operand→Value) (t:TypeId) (x:Operand) (lo hi:Option Operand):Option FR:=bif ZaO (x::(ZlA lo++ZlA hi)) then match ρ x with
    | .string s=>match T.und t with
     | some .string=>match Za6 0 (lo.map ρ),Za6 s.data.toList.length (hi.map ρ) with
      | some l,some h=>bif Nat.ble l h&&Nat.ble h s.data.toList.length then fV (.string ⟨((s.data.toList.drop l).take (h-l)).toArray⟩) else none
      | _,_=>none
     | _=>none
    | v=>match ZaD T t with
     | some (i,e)=>match Zdu H e i.size v (lo.map ρ) (hi.map ρ) with
      | some w=>fV w
      | none=>none
     | none=>none
 else none
theorem ZvJ {o:Option Operand} (h:(ZlA o).all Zaa=true):o.toArray.all Zaa=true:=by
 cases o with
 | none=>simp
 | some x=>simpa [ZlA] using h
theorem Zhi {k:Nat} {v:Value} {y n:Nat} {c:BoundsCode} (h:Za6 k (some v)=some n) (hn:n≤y):Zaf P (Instr.sliceBound v y c)=some n:=by
 unfold Za6 at h
 split at h
 · rename_i h0;cases h0
 · rename_i k' m hm
   simp only [Option.some.injEq] at hm
   subst hm
   split at h
   case isFalse=>simp at h
   rename_i h0
   simp only [Option.some.injEq] at h
   unfold Instr.sliceBound
   have e1:Zaf P (asIntOf (.int k' m))=some (k',m):=rfl
   rw [Zac e1]
   dsimp only
   rw [if_pos ⟨h0,by omega⟩,h]
   rfl
 · simp at h
theorem Znm (s:ByteArray) (l h:Nat) (hh:h≤s.data.toList.length):(⟨((s.data.toList.drop l).take (h-l)).toArray⟩:ByteArray)=s.extract l h:=by
 apply ByteArray.ext
 rw [ByteArray.data_extract]
 apply Array.ext'
 rw [Array.toList_extract]
theorem ZnB {o:Option Operand} {d n:Nat} (h:Za6 d (o.map ρ)=some n):(ZlA o).all (fun x=>Zab (ρ x))=true:=by
 cases o with
 | none=>rfl
 | some x =>
  simp only [Option.map_some,Za6] at h
  simp only [ZlA,List.all_cons,List.all_nil,Bool.and_true]
  split at h
  · rename_i h0;cases h0
  · rename_i k m hm
    simp only [Option.some.injEq] at hm
    rw [hm];rfl
  · simp at h
theorem Zfp (hT:TabOK P T) {t:TypeId} {x:Operand} {lo hi:Option Operand} {r:FR} (h:Zii T H ρ t x lo hi=some r):opA P H ρ (.slice t x lo hi none) ty=some (r.toA H):=by
 unfold Zii at h
 cases hk:ZaO (x::(ZlA lo++ZlA hi)) with
 | false=>rw [hk] at h;simp at h
 | true =>
  rw [hk,cond_true] at h
  rw [Zas] at hk
  simp only [List.all_cons,List.all_append,Bool.and_eq_true] at hk
  obtain ⟨hx,hlo,hhi⟩:=hk
  split at h
  · rename_i s ha
    split at h
    case h_2=>simp at h
    rename_i hu
    split at h
    case h_2=>simp at h
    rename_i l hh hl1 hl2
    cases hc:Nat.ble l hh&&Nat.ble hh s.data.toList.length with
    | false=>rw [hc] at h;simp at h
    | true =>
     rw [hc,cond_true] at h
     rw [Bool.and_eq_true] at hc
     have c1:l≤hh:=Nat.le_of_ble_eq_true hc.1
     have c2:hh≤s.data.toList.length:=Nat.le_of_ble_eq_true hc.2
     have c3:hh≤s.size:=c2
     rw [Za4 h,Znm s l hh c2]
     have hok:(Op.slice t x lo hi none).operands.all Zaa=true:=by
      simp only [Op.operands,Array.all_append,ZvJ hlo,ZvJ hhi,Bool.and_true]
      simp [hx]
     have hev:opA P H ρ (.slice t x lo hi none) ty=match Zaz P ρ ⟨none,.slice t x lo hi none,ty, "",#[],none⟩ with
      | some v=>some (.val v H)
      | none=>none:=by
      rw [Zcj (by simp) (by simp) (by simp) (by simp)];unfold ZaG
      simp only [hok,if_true]
      rw [hT.und _ _ hu]
      rfl
     refine Zhf (s:=Instr.sliceAt t (ρ x) (lo.map ρ) (hi.map ρ) none) hev rfl ?_ ?_ rfl
     · have e1:=ZnB hl1
       have e2:=ZnB hl2
       have e3:Zab (ρ x)=true:=by rw [ha];rfl
       simp only [Op.operands,Array.all_append,Bool.and_eq_true]
       cases lo<;>cases hi<;>simp_all [ZlA]
     · unfold Instr.sliceAt
       rw [Zac (Zai (hT.und _ _ hu))]
       dsimp only
       unfold Instr.slice
       rw [Zac (Zai (hT.und _ _ hu)),ha]
       dsimp only
       have hb:Zaf P (Instr.sliceBounds false s.size s.size (lo.map ρ) (hi.map ρ) none)=some (l,hh,s.size):=by
        cases hi with
        | none =>
         simp only [Option.map_none,Za6,Option.some.injEq] at hl2
         have hl2':s.size=hh:=hl2
         subst hl2'
         cases lo with
         | none =>
          simp only [Option.map_none,Za6,Option.some.injEq] at hl1
          subst hl1
          rfl
         | some y =>
          show Zaf P (Instr.sliceBound (ρ y) s.size .sliceB >>= fun l=>pure (l,s.size,s.size))=_
          rw [Zac (Zhi hl1 c1)];rfl
        | some z =>
         cases lo with
         | none =>
          simp only [Option.map_none,Za6,Option.some.injEq] at hl1
          subst hl1
          show Zaf P (Instr.sliceBound (ρ z) s.size .sliceAlen >>= fun h=>pure (0,h,s.size))=_
          rw [Zac (Zhi hl2 c3)];rfl
         | some y =>
          show Zaf P (Instr.sliceBound (ρ z) s.size .sliceAlen >>= fun h=>Instr.sliceBound (ρ y) h .sliceB >>= fun l=>pure (l,h,s.size))=_
          rw [Zac (Zhi hl2 c3),Zac (Zhi hl1 c1)];rfl
       show Zaf P (Instr.sliceBounds false s.size s.size (lo.map ρ) (hi.map ρ) none >>= _)=_
       rw [Zac hb]
       rfl
  · split at h
    case h_2=>simp at h
    rename_i i e hi'
    have hs:=hT.sl hi'
    split at h
    case h_2=>simp at h
    rename_i w hw
    rw [Ztt hx (ZvJ hlo) (ZvJ hhi) (by rw [hs];rfl)]
    unfold ZsH
    rw [hs]
    dsimp only
    rw [hw,Za4 h];rfl
def Zut (ρ:Operand→Value) (f:FuncId) (u v:Array Operand):Option FR:=bif ZaO u.toList&&ZaO v.toList then fV (.func (.func f) (u.toList.map ρ).toArray (v.toList.map ρ).toArray) else none
theorem Zl1 {f:FuncId} {u v:Array Operand} {r:FR} (h:Zut ρ f u v=some r):opA P H ρ (.makeFunc (.func f) u v) ty=some (r.toA H):=by
 unfold Zut at h
 cases hc:ZaO u.toList&&ZaO v.toList with
 | false=>rw [hc] at h;simp at h
 | true =>
  rw [hc,cond_true] at h
  rw [Bool.and_eq_true,Zas,Zas] at hc
  rw [Za4 h,ZmT (by simpa using hc.1) (by simpa using hc.2)]
  have e1:Array.map ρ u=(u.toList.map ρ).toArray:=by apply Array.ext';simp
  have e2:Array.map ρ v=(v.toList.map ρ).toArray:=by apply Array.ext';simp
  rw [e1,e2]
def ZqA:List (Value×Value)→Option (List (ByteArray×Value))
 | []=>some []
 | (.string s,v)::l=>match ZqA l with
  | some m=>some ((s,v)::m)
  | none=>none
 | _=>none
theorem Zlm:∀ (es:List (Value×Value)) (l:List (ByteArray×Value)),ZqA es=some l→es=Zvq l
 | [],l,h=>by simp only [ZqA,Option.some.injEq] at h;subst h;rfl
 | (k,v)::es,l,h=>by
  unfold ZqA at h
  split at h
  · simp at *
  · rename_i s v' es' he
    simp only [List.cons.injEq,Prod.mk.injEq] at he
    obtain ⟨⟨rfl,rfl⟩,rfl⟩:=he
    split at h
    case h_2=>simp at h
    rename_i m hm
    simp only [Option.some.injEq] at h
    subst h
    rw [Zlm es m hm];rfl
  · simp at h
def ZtT (l:List (ByteArray×Value)) (k:ByteArray):Option Value:=match l with
 | []=>none
 | p::l=>bif Zax k p.1 then some p.2 else ZtT l k
theorem ZiJ (k:ByteArray):∀ l,ZtT l k=ZhC l k
 | []=>rfl
 | p::l=>by
  unfold ZtT ZhC
  rw [ZbE,ZiJ k l]
  by_cases h:k=p.1<;>simp [h]
def Zmo (T:Tabs) (t:TypeId):Option Value:=match T.info t with
 | some i=>match i.zero with
  | some z=>if Zab z then some z else none
  | none=>none
 | none=>none
theorem ZrF (hT:TabOK P T) {t:TypeId} {z:Value} (h:Zmo T t=some z):Zvc P t=some z:=by
 unfold Zmo at h
 unfold Zvc
 cases hi:T.info t with
 | none=>rw [hi] at h;simp at h
 | some i=>rw [hi] at h;rw [hT.info _ _ hi];exact h
def okV (ok:Bool) (v:Value) (b:Bool):Value:=bif ok then .tuple #[v,.bool b] else v
def ZzK (P:Program) (T:Tabs) (H:AHeap) (ρ:Operand→Value) (t:TypeId) (m k:Operand) (ok:Bool):Option FR:=bif ZaO [m,k] then match ρ k,ρ m with
    | .string s,.map (some b)=>match T.und t with
     | some (.map kt et)=>match T.und kt,H.get b,Zmo T et with
      | some .string,some (.map es),some z=>match ZqA es with
       | some l=>match ZtT l s with
        | some v=>fV (okV ok v true)
        | none=>fV (okV ok z false)
       | none=>none
      | _,_,_=>none
     | _=>none
    | _,_=>match H.look P t (ρ m) (ρ k) with
     | some (v,b)=>fV (okV ok v b)
     | none=>none
 else none
theorem Zv7 (hT:TabOK P T) {t:TypeId} {m k:Operand} {ok:Bool} {r:FR} (h:ZzK P T H ρ t m k ok=some r):opA P H ρ (.lookup t m k ok) ty=some (r.toA H):=by
 unfold ZzK at h
 cases hk:ZaO [m,k] with
 | false=>rw [hk] at h;simp at h
 | true =>
  rw [hk,cond_true] at h
  rw [Zas] at hk
  simp only [List.all_cons,List.all_nil,Bool.and_true,Bool.and_eq_true] at hk
  rw [ZkZ hk.1 hk.2]
  split at h
  · rename_i s b ha hb
    split at h
    case h_2=>simp at h
    rename_i kt et hu
    split at h
    case h_2=>simp at h
    rename_i es z hkt hg hz
    split at h
    case h_2=>simp at h
    rename_i l hl
    have he:=Zlm _ _ hl
    subst he
    rw [ha,hb,ZtS (hT.und _ _ hu) (hT.und _ _ hkt) (ZrF hT hz) hg]
    split at h
    · rename_i v hv
      rw [ZiJ] at hv
      rw [Za4 h,hv];cases ok<;>rfl
    · rename_i hv
      rw [ZiJ] at hv
      rw [Za4 h,hv];cases ok<;>rfl
  · split at h
    case h_2=>simp at h
    rename_i v b hv
    unfold Zq2
    rw [hv,Za4 h]
    cases ok<;>rfl
def ZlM (H:AHeap) (P:Program) (t:TypeId) (m k v:Value):Option Chg :=
 match P.underlying t,m with
 | some (.map kt _),.map (some r)=>match H.get r with
  | some (.map es)=>if (Zab k&&Zg2 P kt k es)=true then
      match Zaf P (Instr.checkKey false 10000 kt k),Zaf P (Instr.findKey kt k (ZaI es)) with
      | some (),some (some (i,_))=>match es[i]? with
       | some (old,_)=>if Instr.sameBits 10000 old k then some (.set r (.map (es.set i (k,v)))) else none
       | none=>none
      | some (),some none=>some (.set r (.map (es++[(k,v)])))
      | _,_=>none
   else none
  | _=>none
 | _,_=>none
theorem Zk1 {t:TypeId} {m k v:Value} {c:Chg} (h:ZlM H P t m k v=some c):H.mapPut P t m k v=some (c.onA H):=by
 unfold ZlM at h
 unfold AHeap.mapPut
 split at h
 case h_2=>simp at h
 rename_i kt et r hu
 split at h
 case h_2=>simp at h
 rename_i es hg
 split at h
 case isFalse=>simp at h
 rename_i hc
 rw [hu]
 dsimp only
 rw [hg]
 dsimp only
 rw [if_pos hc]
 split at h
 · rename_i i w h1 h2
   split at h
   case h_2=>simp at h
   rename_i old ov ho
   split at h
   case isFalse=>simp at h
   rename_i hsb
   simp only [Option.some.injEq] at h
   subst h
   rw [h1,h2]
   dsimp only
   rw [ho]
   dsimp only
   rw [if_pos hsb];rfl
 · rename_i h1 h2
   simp only [Option.some.injEq] at h
   subst h
   rw [h1,h2];rfl
 · simp at h
def ZEv (P:Program) (T:Tabs) (H:AHeap) (ρ:Operand→Value) (t:TypeId) (m k v:Operand):Option FR:=bif ZaO [m,k,v] then match ρ k,ρ m with
    | .string s,.map (some b)=>match T.und t with
     | some (.map kt _)=>match T.und kt,H.get b with
      | some .string,some (.map es)=>match ZqA es with
       | some l=>match ZtT l s with
        | none=>some (.skip (.set b (.map (es++[(.string s,ρ v)]))))
        | some _=>match ZlM H P t (ρ m) (ρ k) (ρ v) with
         | some c=>some (.skip c)
         | none=>none
       | none=>none
      | _,_=>none
     | _=>none
    | _,_=>match ZlM H P t (ρ m) (ρ k) (ρ v) with
     | some c=>some (.skip c)
     | none=>none
 else none
theorem ZzI (hT:TabOK P T) {t:TypeId} {m k v:Operand} {r:FR} (h:ZEv P T H ρ t m k v=some r):opA P H ρ (.mapUpdate t m k v) ty=some (r.toA H):=by
 unfold ZEv at h
 cases hk:ZaO [m,k,v] with
 | false=>rw [hk] at h;simp at h
 | true =>
  rw [hk,cond_true] at h
  rw [Zas] at hk
  simp only [List.all_cons,List.all_nil,Bool.and_true,Bool.and_eq_true] at hk
  rw [ZgX hk.1 hk.2.1 hk.2.2]
  split at h
  · rename_i s b ha hb
    split at h
    case h_2=>simp at h
    rename_i kt et hu
    split at h
    case h_2=>simp at h
    rename_i es hkt hg
    split at h
    case h_2=>simp at h
    rename_i l hl
    have he:=Zlm _ _ hl
    split at h
    · rename_i hv
      rw [ZiJ] at hv
      simp only [Option.some.injEq] at h
      subst h
      rw [ha,hb,Zq1 (hT.und _ _ hu) (hT.und _ _ hkt) (by rw [hg,he]) hv,he]
      simp [Zvt,FR.toA,Chg.onA,Zvq]
    · split at h
      case h_2=>simp at h
      rename_i c hc
      simp only [Option.some.injEq] at h
      subst h
      rw [Zk1 hc];rfl
  · split at h
    case h_2=>simp at h
    rename_i c hc
    simp only [Option.some.injEq] at h
    subst h
    rw [Zk1 hc];rfl
end
end
section
open Go
section
variable {P:Program} {T:Tabs} {H:AHeap} {ρ:Operand→Value} {ty:TypeId}
def Znc (pl:Nat→Option (Nat×Nat)) (cells:List Value):List (Nat×Value)→Option (List Value)
 | []=>some cells
 | (i,v)::rest=>match pl i with
  | some (off,size)=>bif Nat.beq v.cells.toList.length size&&Zb5 (off+size) cells then Znc pl (cells.take off++v.cells.toList++cells.drop (off+size)) rest else none
  | none=>none
theorem ZlX {pl:Nat→Option (Nat×Nat)}:∀ (parts:List (Nat×Value)) (cells cs:List Value),Znc pl cells parts=some cs→Instr.fill pl cells.toArray parts=some cs.toArray
 | [],cells,cs,h=>by simp only [Znc,Option.some.injEq] at h;subst h;rfl
 | (i,v)::rest,cells,cs,h=>by
  unfold Znc at h
  unfold Instr.fill
  split at h
  case h_2=>simp at h
  rename_i off size hp
  rw [hp]
  dsimp only
  cases hc:Nat.beq v.cells.toList.length size&&Zb5 (off+size) cells with
  | false=>rw [hc] at h;simp at h
  | true =>
   rw [hc,cond_true] at h
   rw [Bool.and_eq_true] at hc
   have h1:v.cells.toList.length=size:=Nat.eq_of_beq_eq_true hc.1
   have h2:=ZdS hc.2
   have h1':v.cells.size=size:=by rw [←h1,Array.length_toList]
   have hcond:(v.cells.size≠size||off+v.cells.size > cells.toArray.size)=false:=by
    simp only [h1',List.size_toArray,ne_eq,not_true_eq_false,decide_false,Bool.false_or,decide_eq_false_iff_not]
    omega
   have hf:=ZdZ off v.cells.toList 0 cells.toArray (by simp only [List.size_toArray,h1];omega)
   rw [←Array.toList_zipIdx,Array.foldl_toList] at hf
   simp only [Nat.add_zero] at hf
   have he:Array.foldl (fun cs (p:Value×Nat)=>cs.setIfInBounds (off+p.2) p.1) cells.toArray v.cells.zipIdx=(cells.take off++v.cells.toList++cells.drop (off+size)).toArray:=by
    apply Array.ext'
    rw [hf,h1]
   have:=ZlX rest _ cs h
   rw [←he] at this
   simp only [hcond]
   exact this
def Zhz (T:Tabs):List Field→Option (List (Nat×Nat))
 | []=>some []
 | f::l=>match T.info f.type with
  | some i=>match Zhz T l with
   | some m=>some ((f.offset,i.size)::m)
   | none=>none
  | none=>none
theorem ZkW (hT:TabOK P T):∀ (l:List Field) (m:List (Nat×Nat)),Zhz T l=some m→l.mapM (fun f=>(P.info? f.type).map fun i=>(f.offset,i.size))=some m
 | [],m,h=>by simp only [Zhz,Option.some.injEq] at h;subst h;simp
 | f::l,m,h=>by
  unfold Zhz at h
  split at h
  case h_2=>simp at h
  rename_i i hi
  split at h
  case h_2=>simp at h
  rename_i m' hm
  simp only [Option.some.injEq] at h
  subst h
  have:=ZkW hT l m' hm
  rw [List.mapM_cons,hT.info _ _ hi,this]
  rfl
def ZnK (T:Tabs) (t:TypeId) (parts:List (Nat×Value)):Option (List Value):=match T.info t,T.und t with
 | some it,some (.array _ e)=>match it.zero,T.info e with
  | some z,some ie=>Znc (fun i=>some (i*ie.size,ie.size)) z.cells.toList parts
  | _,_=>none
 | some it,some (.struct fields)=>match it.zero,Zhz T fields.toList with
  | some z,some places=>Znc (fun i=>places[i]?) z.cells.toList parts
  | _,_=>none
 | _,_=>none
theorem ZuM (hT:TabOK P T) {t:TypeId} {parts:List (Nat×Value)} {cs:List Value} (h:ZnK T t parts=some cs):P.built t parts=some cs.toArray:=by
 unfold ZnK at h
 unfold Program.built
 split at h
 · rename_i it n e hi hu
   split at h
   case h_2=>simp at h
   rename_i z ie hz hie
   rw [hT.info _ _ hi,hT.und _ _ hu]
   dsimp only
   rw [hz,hT.info _ _ hie]
   dsimp only
   have:=ZlX _ _ _ h
   rwa [Array.toArray_toList] at this
 · rename_i it fields hi hu
   split at h
   case h_2=>simp at h
   rename_i z places hz hpl
   rw [hT.info _ _ hi,hT.und _ _ hu]
   dsimp only
   rw [hz,ZkW hT _ _ hpl]
   dsimp only
   have:=ZlX _ _ _ h
   rw [Array.toArray_toList] at this
   simpa using this
 · simp at h
def Znj (T:Tabs) (ρ:Operand→Value) (t:TypeId) (ps:List (Nat×Operand)):Option FR:=bif ZaO (ps.map fun p=>p.2) then match ZeQ T t with
    | some _=>match ZnK T t (ps.map fun p=>(p.1,ρ p.2)) with
     | some cs=>fV (.agg cs.toArray)
     | none=>none
    | none=>none
 else none
theorem ZnU {ps:List (Nat×Operand)} (h:ZaO (ps.map fun p=>p.2)=true):(ps.all fun p=>Zaa p.2)=true:=by
 rw [Zas,List.all_map] at h;exact h
theorem Zj2 (hT:TabOK P T) {t:TypeId} {ps:Array (Nat×Operand)} {r:FR} (h:Znj T ρ t ps.toList=some r):opA P H ρ (.build t ps) ty=some (r.toA H):=by
 unfold Znj at h
 cases hk:ZaO (ps.toList.map fun p=>p.2) with
 | false=>rw [hk] at h;simp at h
 | true =>
  rw [hk,cond_true] at h
  split at h
  case h_2=>simp at h
  rename_i z hz
  split at h
  case h_2=>simp at h
  rename_i cs hcs
  have hz':=hT.zero hz
  have:=Ztw (P:=P) (H:=H) (ρ:=ρ) (ty:=ty) (t:=t) (ZnU hk) (by rw [hz'];rfl)
  rw [Array.toArray_toList] at this
  rw [this]
  unfold ZuP
  rw [hz',ZuM hT hcs,Za4 h]
def Zfl:Nat→List (Nat×Operand)→Bool
 | _,[]=>true
 | k,p::l=>bif Nat.beq p.1 k then Zfl (k+1) l else false
theorem Zk5:∀ (l:List (Nat×Operand)) (k:Nat),Zfl k l=true→(l.map fun p=>(p.1,ρ p.2))=((l.map fun p=>ρ p.2).zipIdx k).map fun q=>(q.2,q.1)
 | [],k,_=>rfl
 | p::l,k,h=>by
  unfold Zfl at h
  cases hb:Nat.beq p.1 k with
  | false=>rw [hb] at h;simp at h
  | true =>
   rw [hb,cond_true] at h
   have hp:p.1=k:=Nat.eq_of_beq_eq_true hb
   rw [List.map_cons,List.map_cons,List.zipIdx_cons,List.map_cons,←Zk5 l (k+1) h,hp]
def Ze4 (n:Nat):List Value→Bool
 | []=>true
 | v::l=>bif Nat.beq v.cells.toList.length n then Ze4 n l else false
theorem ZkP {n:Nat}:∀ {l:List Value},Ze4 n l=true→∀ v∈l,v.cells.size=n
 | [],_,v,hv=>by simp at hv
 | u::l,h,v,hv=>by
  unfold Ze4 at h
  cases hb:Nat.beq u.cells.toList.length n with
  | false=>rw [hb] at h;simp at h
  | true =>
   rw [hb,cond_true] at h
   rcases List.mem_cons.1 hv with rfl | hv
   · rw [←Nat.eq_of_beq_eq_true hb,Array.length_toList]
   · exact ZkP h v hv
def Zcs (T:Tabs) (H:AHeap) (ρ:Operand→Value) (t:TypeId) (n:Nat) (ps:List (Nat×Operand)):Option FR:=bif ZaO (ps.map fun p=>p.2) then match ZaD T t with
    | some (i,e)=>match i.zero with
     | some z=>bif Nat.beq n 0 then match ps with
         | []=>some (.val (.slice (some ⟨H.next,0,some 0⟩) 0 0) (.push (.arr [] [] 0 e false)))
         | _=>none
      else bif Nat.beq ps.length n&&Zfl 0 ps&&Zab z&&Nat.beq z.cells.toList.length i.size&&!(Nat.beq i.size 0)&&Nat.ble (n*i.size) 16777216&&Ze4 i.size (ps.map fun p=>ρ p.2)&&((ps.map fun p=>ρ p.2).flatMap fun v=>v.cells.toList).all Zba then
       some (.val (.slice (some ⟨H.next,0,some 0⟩) n n) (.push (.arr ((ps.map fun p=>ρ p.2).flatMap fun v=>v.cells.toList) (List.replicate (n*i.size) 0) 0 e false)))
      else none
     | none=>none
    | none=>none
 else none
theorem Zc0 (hT:TabOK P T) {t n:Nat} {ps:Array (Nat×Operand)} {r:FR} (h:Zcs T H ρ t n ps.toList=some r):opA P H ρ (.buildSlice t n ps) ty=some (r.toA H):=by
 unfold Zcs at h
 cases hk:ZaO (ps.toList.map fun p=>p.2) with
 | false=>rw [hk] at h;simp at h
 | true =>
  rw [hk,cond_true] at h
  split at h
  case h_2=>simp at h
  rename_i i e hi
  have hs:=hT.sl hi
  split at h
  case h_2=>simp at h
  rename_i z hz
  cases hn:Nat.beq n 0 with
  | true =>
   rw [hn,cond_true] at h
   have hn0:n=0:=Nat.eq_of_beq_eq_true hn
   subst hn0
   split at h
   case h_2=>simp at h
   rename_i hps
   simp only [Option.some.injEq] at h
   subst h
   have hps':ps = #[]:=by apply Array.ext';rw [hps]
   subst hps'
   obtain ⟨hu,hi'⟩:=Zes hs
   rw [Zcj (by simp) (by simp) (by simp) (by simp)];unfold ZaG
   simp only [Op.operands]
   rw [hu]
   dsimp only
   rw [hi']
   dsimp only
   rw [hz]
   simp [FR.toA,Chg.onA]
  | false =>
   rw [hn,cond_false] at h
   cases hc:(Nat.beq ps.toList.length n&&Zfl 0 ps.toList&&Zab z&&Nat.beq z.cells.toList.length i.size&&!(Nat.beq i.size 0)&&Nat.ble (n*i.size) 16777216&&Ze4 i.size (ps.toList.map fun p=>ρ p.2)&&((ps.toList.map fun p=>ρ p.2).flatMap fun v=>v.cells.toList).all Zba) with
   | false=>rw [hc] at h;simp at h
   | true =>
    rw [hc,cond_true] at h
    simp only [Bool.and_eq_true,Bool.not_eq_true'] at hc
    obtain ⟨⟨⟨⟨⟨⟨⟨c1,c2⟩,c3⟩,c4⟩,c5⟩,c6⟩,c7⟩,c8⟩:=hc
    simp only [Option.some.injEq] at h
    subst h
    have hlen:ps.toList.length=n:=Nat.eq_of_beq_eq_true c1
    have hn0:n≠0:=fun e=>by rw [e] at hn;simp at hn
    have hs0:i.size≠0:=fun e=>by rw [e] at c5;simp at c5
    have hb:=Zoy (P:=P) (H:=H) (ρ:=ρ) (ty:=ty) (t:=t) (n:=n) (ZnU hk) hn0
    rw [Array.toArray_toList] at hb
    rw [hb,Zk5 _ _ c2]
    have hl2:(ps.toList.map fun p=>ρ p.2).length=n:=by rw [List.length_map,hlen]
    have hall:=Zru (P:=P) (H:=H) (vs:=ps.toList.map fun p=>ρ p.2) hs hz c3 (by rw [←Nat.eq_of_beq_eq_true c4,Array.length_toList]) hs0 (by rw [hl2];exact Nat.le_of_ble_eq_true c6) (by intro e0;rw [e0] at hl2;exact hn0 hl2.symm) (ZkP c7) c8
    rw [hl2] at hall
    exact hall
def ZeJ (H:AHeap) (i:TypeInfo) (e:TypeId) (s x:Value):Option (Value×Chg) :=
 if i.size=0 then none else
 match i.zero with
 | none=>none
 | some z=>if z.cells.size=i.size then
  match AHeap.elems H i.size x with
  | none=>none
  | some (0,_)=>match s with
   | .slice none 0 0=>some (s,.same)
   | .slice (some _) _ _=>some (s,.same)
   | _=>none
  | some (n+1,xs)=>if xs.all Zba then
   match s with
   | .slice none 0 0=>if (n+1)≤9223372036854775807∧(n+1)*i.bytes≤Zbx then
       some (.slice (some ⟨H.next,0,some 0⟩) (n+1) (n+1),.push (.arr xs (List.replicate xs.length 0) 0 e false)) else none
   | .slice (some a) len _=>match H.get a.block with
    | some (.arr cs st g e' false) =>
     if a.off=0∧e'=e∧ZnV a≤g∧len*i.size≤st.length∧(len+(n+1))≤9223372036854775807∧(len+(n+1))*i.bytes≤Zbx then
      match H.readN a (len*i.size) with
      | some _=>some (.slice (some ⟨a.block,0,some (g+1)⟩) (len+(n+1)) (len+(n+1)),
          .set a.block (.arr (cs.take (len*i.size)++xs) (st.take (len*i.size)++List.replicate xs.length (g+1)) (g+1) e false))
      | none=>none
     else none
    | _=>none
   | _=>none
   else none
  else none
theorem Zrw {i:TypeInfo} {e:TypeId} {s x v:Value} {c:Chg} (h:ZeJ H i e s x=some (v,c)):H.append i e s x=some (v,c.onA H):=by
 unfold ZeJ at h
 unfold AHeap.append
 repeat' (split at h)
 all_goals first | (simp at h;done) | skip
 all_goals (simp only [Option.some.injEq,Prod.mk.injEq] at h;obtain ⟨rfl,rfl⟩:=h;simp_all [Chg.onA])
def ZhI (T:Tabs) (H:AHeap) (ρ:Operand→Value) (t:TypeId) (s x:Operand):Option FR:=bif ZaO [s,x] then match ZaD T t with
    | some (i,e)=>match ZeJ H i e (ρ s) (ρ x) with
     | some (v,c)=>some (.val v c)
     | none=>none
    | none=>none
 else none
theorem Zeg (hT:TabOK P T) {t:TypeId} {s x:Operand} {r:FR} (h:ZhI T H ρ t s x=some r):opA P H ρ (.call ⟨.builtin .append,#[s,x],#[t,t]⟩) ty=some (r.toA H):=by
 unfold ZhI at h
 cases hk:ZaO [s,x] with
 | false=>rw [hk] at h;simp at h
 | true =>
  rw [hk,cond_true] at h
  rw [Zas] at hk
  simp only [List.all_cons,List.all_nil,Bool.and_true,Bool.and_eq_true] at hk
  split at h
  case h_2=>simp at h
  rename_i i e hi
  split at h
  case h_2=>simp at h
  rename_i v c hc
  simp only [Option.some.injEq] at h
  subst h
  rw [ZqZ hk.1 hk.2 (hT.sl hi),Zrw hc];rfl
def Zv6 (T:Tabs) (H:AHeap) (ρ:Operand→Value) (t t':TypeId) (s x:Operand):Option FR:=bif ZaO [s,x] then match ρ s,ρ x with
    | .slice none 0 0,.int .i64 (.ofNat (n+1))=>match ZaD T t,T.und t' with
     | some (i,e),some (.int _)=>match i.zero with
      | some z=>match z.cells.toList with
       | [v]=>bif Zab v&&Zba v&&Nat.beq i.size 1&&Nat.ble (n+1) 9223372036854775807&&Nat.ble ((n+1)*i.bytes) Zbx then
           some (.val (.slice (some ⟨H.next,0,some 0⟩) (n+1) (n+1)) (.push (.arr (List.replicate (n+1) v) (List.replicate (n+1) 0) 0 e false))) else none
       | _=>none
      | none=>none
     | _,_=>none
    | _,_=>none
 else none
theorem Zqa (hT:TabOK P T) {t t':TypeId} (htt:t≠t') {s x:Operand} {r:FR} (h:Zv6 T H ρ t t' s x=some r):opA P H ρ (.call ⟨.builtin .append,#[s,x],#[t,t']⟩) ty=some (r.toA H):=by
 unfold Zv6 at h
 cases hk:ZaO [s,x] with
 | false=>rw [hk] at h;simp at h
 | true =>
  rw [hk,cond_true] at h
  rw [Zas] at hk
  simp only [List.all_cons,List.all_nil,Bool.and_true,Bool.and_eq_true] at hk
  split at h
  case h_2=>cases h
  rename_i n hs hx
  split at h
  case h_2=>cases h
  rename_i i e kn hi hu'
  split at h
  case h_2=>cases h
  rename_i z hz
  split at h
  case h_2=>cases h
  rename_i v hzv
  have bifs:∀ {b:Bool} {a r:FR},(bif b then some a else none)=some r→b=true∧a=r:=fun {b a r} h=>by cases b with | true=>exact ⟨rfl,by simpa using h⟩ | false=>cases h
  obtain ⟨hb,rfl⟩:=bifs h
  have hsi:=hT.sl hi
  unfold Za7 at hsi
  split at hsi
  case h_2=>cases hsi
  rename_i e' hu
  obtain ⟨j,hj,hj2⟩:∃ j,P.info? e'=some j∧(j,e')=(i,e):=by
   cases hpi:P.info? e' with
   | none=>rw [hpi] at hsi;simp at hsi
   | some j=>rw [hpi] at hsi;exact ⟨j,rfl,by simpa using hsi⟩
  simp only [Prod.mk.injEq] at hj2
  obtain ⟨rfl,rfl⟩:=hj2
  unfold opA Zao
  have hok:(Op.call ⟨.builtin .append,#[s,x],#[t,t']⟩).operands.all Zaa=true:=by
   simp [Op.operands,Call.operands,hk.1,hk.2]
  simp only [hok,if_true]
  unfold Zbm
  dsimp only
  rw [if_neg htt]
  have hm:ZoE P H t t' (ρ s) (ρ x)=some (.slice (some ⟨H.next,0,some 0⟩) (n+1) (n+1),H.push (.arr (List.replicate (n+1) v) (List.replicate (n+1) 0) 0 e' false)):=by
   rw [hs,hx]
   unfold ZoE
   rw [hu,hT.und _ _ hu']
   dsimp only
   rw [hj]
   dsimp only
   rw [hz]
   dsimp only
   rw [hzv]
   exact if_pos hb
  rw [hm];rfl
def ZzJ (T:Tabs) (H:AHeap) (ρ:Operand→Value) (t:TypeId) (l c:Operand):Option FR:=bif ZaO [l,c] then match ρ l,ρ c with
    | .int .i64 (.ofNat n),.int .i64 (.ofNat m)=>bif Nat.beq n m then match ZaD T t with
     | some (i,e)=>match i.zero with
      | some z=>match z.cells.toList with
       | [v]=>bif Zab v&&Zba v&&Nat.beq i.size 1&&Nat.ble n 9223372036854775807&&Nat.ble (n*i.bytes) 140737488355328 then
           some (.val (.slice (some ⟨H.next,0,some 0⟩) n n) (.push (.arr (List.replicate n v) (List.replicate n 0) 0 e false))) else none
       | _=>none
      | none=>none
     | none=>none
     else none
    | _,_=>none
 else none
theorem Zv5 (hT:TabOK P T) {t:TypeId} {l c:Operand} {r:FR} (h:ZzJ T H ρ t l c=some r):opA P H ρ (.makeSlice t l c) ty=some (r.toA H):=by
 unfold ZzJ at h
 cases hk:ZaO [l,c] with
 | false=>rw [hk] at h;simp at h
 | true =>
  rw [hk,cond_true] at h
  rw [Zas] at hk
  simp only [List.all_cons,List.all_nil,Bool.and_true,Bool.and_eq_true] at hk
  have bifs:∀ {b:Bool} {a r:FR},(bif b then some a else none)=some r→b=true∧a=r:=fun {b a r} h=>by cases b with | true=>exact ⟨rfl,by simpa using h⟩ | false=>cases h
  split at h
  case h_2=>cases h
  rename_i n m hl hc
  cases hnm:Nat.beq n m with
  | false=>rw [hnm] at h;cases h
  | true =>
  rw [hnm,cond_true] at h
  obtain rfl:=Nat.eq_of_beq_eq_true hnm
  split at h
  case h_2=>cases h
  rename_i i e hi
  split at h
  case h_2=>cases h
  rename_i z hz
  split at h
  case h_2=>cases h
  rename_i v hzv
  obtain ⟨hb,rfl⟩:=bifs h
  have hsi:=hT.sl hi
  unfold Za7 at hsi
  split at hsi
  case h_2=>cases hsi
  rename_i e' hu
  obtain ⟨j,hj,hj2⟩:∃ j,P.info? e'=some j∧(j,e')=(i,e):=by
   cases hpi:P.info? e' with
   | none=>rw [hpi] at hsi;simp at hsi
   | some j=>rw [hpi] at hsi;exact ⟨j,rfl,by simpa using hsi⟩
  simp only [Prod.mk.injEq] at hj2
  obtain ⟨rfl,rfl⟩:=hj2
  rw [Zcj (by simp) (by simp) (by simp) (by simp)]
  have hm:ZAH P H t (ρ l) (ρ c)=some (.slice (some ⟨H.next,0,some 0⟩) n n,H.push (.arr (List.replicate n v) (List.replicate n 0) 0 e' false)):=by
   rw [hl,hc]
   unfold ZAH
   dsimp only
   rw [if_pos rfl,hu]
   dsimp only
   rw [hj]
   dsimp only
   rw [hz]
   dsimp only
   rw [hzv]
   exact if_pos hb
  unfold ZaG
  have hok:(Op.makeSlice t l c).operands.all Zaa=true:=by simp [Op.operands,hk.1,hk.2]
  simp only [hok,if_true]
  rw [hm];rfl
def ZEx (T:Tabs) (ρ:Operand→Value) (t:TypeId) (x:Operand):Option FR:=bif Zaa x then match ρ x,T.und t with
    | .slice none 0 0,some (.slice _)=>fV (.int .i64 0)
    | _,_=>none
 else none
theorem ZzL (hT:TabOK P T) {t:TypeId} {x:Operand} {r:FR} (h:ZEx T ρ t x=some r):opA P H ρ (.call ⟨.builtin .cap,#[x],#[t]⟩) ty=some (r.toA H):=by
 unfold ZEx at h
 cases hx:Zaa x with
 | false=>rw [hx] at h;simp at h
 | true =>
  rw [hx,cond_true] at h
  split at h
  case h_2=>cases h
  rename_i e hv hu
  rw [Za4 h]
  unfold opA Zao
  have hok:(Op.call ⟨.builtin .cap,#[x],#[t]⟩).operands.all Zaa=true:=by
   simp [Op.operands,Call.operands,hx]
  simp only [hok,if_true]
  unfold Zbm
  dsimp only
  have h2:Zaz P ρ ⟨none,.call ⟨.builtin .cap,#[x],#[t]⟩,ty, "",#[],none⟩=some (.int .i64 0):=by
   unfold Zaz
   have hop:(Op.call ⟨.builtin .cap,#[x],#[t]⟩).operands = #[x]:=by simp [Op.operands,Call.operands]
   simp only [hop]
   have hcl:(#[x]:Array Operand).all (fun y=>Zab (ρ y))=true:=by simp [hv,Zab]
   rw [if_pos hcl]
   have:Zaf P (Builtin.cap_ #[t] ty #[.slice none 0 0])=some (.int .i64 0):=by
    unfold Builtin.cap_
    show Zaf P (underlying t >>= _)=_
    rw [Zac (Zai (hT.und _ _ hu))]
    rfl
   have he:Zaf P (execOp ρ ⟨none,.call ⟨.builtin .cap,#[x],#[t]⟩,ty, "",#[],none⟩)=some (.value (.int .i64 0)):=by
    unfold execOp
    simp only [resolve,invoke,builtin,hv,List.map_toArray,List.map_cons,List.map_nil,pure_bind]
    rw [Zac this]
    rfl
   rw [he]
   rfl
  rw [h2]
def ZrB (T:Tabs) (H:AHeap) (ρ:Operand→Value) (t:TypeId) (x:Operand):Option FR:=bif Zaa x then match ρ x,T.und t with
    | .slice _ n _,some (.slice _)=>fV (.int .i64 n)
    | .string s,some .string=>fV (.int .i64 s.data.toList.length)
    | .map m,some (.map _ _)=>match H.entries (.map m) with
     | some es=>fV (.int .i64 es.length)
     | none=>none
    | _,_=>none
 else none
theorem Zd0 (hT:TabOK P T) {t:TypeId} {x:Operand} {r:FR} (h:ZrB T H ρ t x=some r):opA P H ρ (.call ⟨.builtin .len,#[x],#[t]⟩) ty=some (r.toA H):=by
 unfold ZrB at h
 cases hx:Zaa x with
 | false=>rw [hx] at h;simp at h
 | true =>
  rw [hx,cond_true] at h
  split at h
  · rename_i a n c e ha hu
    have hl:=Zq4 (P:=P) (H:=H) (a:=a) (n:=n) (c:=c) (Zk3 (hT.und _ _ hu))
    rw [Ztu hx (by rw [ha,hl];rfl),ha,hl,Za4 h]
  · rename_i s ha hu
    rw [ZqX hx ha (hT.und _ _ hu),Za4 h];rfl
  · rename_i m k e ha hu
    split at h
    case h_2=>simp at h
    rename_i es hes
    have hl:ZpS P H t (.map m)=some (.val (.int .i64 es.length) H):=by
     unfold ZpS Zd7
     dsimp only
     rw [if_pos (Zv1 (hT.und _ _ hu)),hes];rfl
    rw [Ztu hx (by rw [ha,hl];rfl),ha,hl,Za4 h]
  · simp at h
def ZCZ (ρ:Operand→Value) (x y:Operand):Option FR:=bif ZaO [x,y] then match ρ x,ρ y with
    | .int k a,.int _ b=>fV (.int k (if b<a then b else a))
    | _,_=>none
 else none
theorem Zur {t t':TypeId} {x y:Operand} {r:FR} (h:ZCZ ρ x y=some r):opA P H ρ (.call ⟨.builtin .min,#[x,y],#[t,t']⟩) ty=some (r.toA H):=by
 unfold ZCZ at h
 cases hk:ZaO [x,y] with
 | false=>rw [hk] at h;simp at h
 | true =>
  rw [hk,cond_true] at h
  rw [Zas] at hk
  simp only [List.all_cons,List.all_nil,Bool.and_true,Bool.and_eq_true] at hk
  split at h
  · rename_i k a k' b ha hb
    rw [ZvK hk.1 hk.2,ha,hb,ZvO,Za4 h]
  · simp at h
def Zrj (T:Tabs) (ρ:Operand→Value) (f:Operand) (args:List Operand):Option FR:=bif ZaO (f::args) then match ρ f with
    | .func (.func g) first cap=>match T.func g with
     | some _=>some (.enter g (first.toList++args.map ρ++cap.toList))
     | none=>none
    | _=>none
 else none
theorem Zl3 (he:∀ f fn,T.func f=some fn→ZcP P f=true) {f:Operand} {args:Array Operand} {tys:Array TypeId} {r:FR} (h:Zrj T ρ f args.toList=some r):opA P H ρ (.call ⟨.value f,args,tys⟩) ty=some (r.toA H):=by
 unfold Zrj at h
 cases hk:ZaO (f::args.toList) with
 | false=>rw [hk] at h;simp at h
 | true =>
  rw [hk,cond_true] at h
  rw [Zas] at hk
  simp only [List.all_cons,Bool.and_eq_true] at hk
  split at h
  case h_2=>simp at h
  rename_i g first cap ha
  split at h
  case h_2=>simp at h
  rename_i fn hfn
  simp only [Option.some.injEq] at h
  subst h
  have:=ZlF (P:=P) (H:=H) (ρ:=ρ) (ty:=ty) (tys:=tys) hk.1 hk.2
  rw [Array.toArray_toList] at this
  rw [this,ha]
  have hc:=Zrt (P:=P) (H:=H) (args:=args.toList.map ρ) (g:=g) (first:=first.toList) (cap:=cap.toList) (he _ _ hfn)
  simpa [FR.toA] using hc
def fop (P:Program) (T:Tabs) (H:AHeap) (ρ:Operand→Value):Op→Option FR
 | .move x=>Zng ρ x
 | .assign x=>Zng ρ x
 | .pick c a b=>Zup ρ c a b
 | .alloc t=>Znl T H t
 | .box t x=>ZCf T H ρ t x
 | .build t ps=>Znj T ρ t ps.toList
 | .buildSlice t n ps=>Zcs T H ρ t n ps.toList
 | .load t x=>Znh T H ρ t x
 | .store t x y=>Zef T H ρ t x y
 | .nilCheck x=>ZCY ρ x
 | .binOp op t x y _=>Znk T ρ op t x y
 | .unOp op _ x=>fUn ρ op x
 | .convert s d x=>Zj1 T ρ s d x
 | .makeFunc (.func f) u v=>Zut ρ f u v
 | .makeMap _ none=>some (.val (.map (some H.next)) (.push (.map [])))
 | .slice t x lo hi none=>Zii T H ρ t x lo hi
 | .fieldAddr s x f=>ZcU T ρ s x f
 | .field t x f=>ZjZ T ρ t x f
 | .indexAddr t x y=>ZcT T ρ t x y
 | .index t x y=>ZdC T ρ t x y
 | .lookup t m k ok=>ZzK P T H ρ t m k ok
 | .mapUpdate t m k v=>ZEv P T H ρ t m k v
 | .extract x i=>ZfU ρ x i
 | .call ⟨.value f,args,_⟩=>Zrj T ρ f args.toList
 | .call ⟨.builtin .len,args,tys⟩=>match args.toList,tys.toList with
  | [x],[t]=>ZrB T H ρ t x
  | _,_=>none
 | .call ⟨.builtin .append,args,tys⟩=>match args.toList,tys.toList with
  | [s,x],[t,t']=>bif Nat.beq t t' then ZhI T H ρ t s x else Zv6 T H ρ t t' s x
  | _,_=>none
 | .call ⟨.builtin .min,args,tys⟩=>match args.toList,tys.toList with
  | [x,y],[_,_]=>ZCZ ρ x y
  | _,_=>none
 | .call ⟨.builtin .cap,args,tys⟩=>match args.toList,tys.toList with
  | [x],[t]=>ZEx T ρ t x
  | _,_=>none
 | .makeSlice t l c=>ZzJ T H ρ t l c
 | _=>none
theorem Zcg {α:Type} {a:Array α} {l:List α} (h:a.toList=l):a=l.toArray:=by rw [←h,Array.toArray_toList]
theorem Zp2 (hT:TabOK P T) (he:∀ f fn,T.func f=some fn→ZcP P f=true) {op:Op} {r:FR} (h:fop P T H ρ op=some r):opA P H ρ op ty=some (r.toA H):=by
 unfold fop at h
 split at h
 · exact (ZiN h).1
 · exact (ZiN h).2
 · exact Zp9 h
 · exact Zj3 hT h
 · exact ZoS hT h
 · exact Zj2 hT h
 · exact Zc0 hT h
 · exact Zha hT h
 · exact Zee hT h
 · exact Zuq h
 · exact ZhH hT h
 · exact Zp8 h
 · exact Zl2 hT h
 · exact Zl1 h
 · simp only [Option.some.injEq] at h;subst h;exact Zjz
 · exact Zfp hT h
 · exact Zdh hT h
 · exact Zhb hT h
 · exact ZcG hT h
 · exact Zfq hT h
 · exact Zv7 hT h
 · exact ZzI hT h
 · exact Zgu h
 · exact Zl3 he h
 · split at h
   case h_2=>simp at h
   rename_i x t ha ht
   rw [Zcg ha,Zcg ht];exact Zd0 hT h
 · split at h
   case h_2=>simp at h
   rename_i s x t t' ha ht
   cases hb:Nat.beq t t' with
   | false =>
    rw [hb,cond_false] at h
    rw [Zcg ha,Zcg ht]
    exact Zqa hT (fun e=>by rw [e,Nat.beq_refl] at hb;cases hb) h
   | true =>
    rw [hb,cond_true] at h
    obtain rfl:t=t':=Nat.eq_of_beq_eq_true hb
    rw [Zcg ha,Zcg ht];exact Zeg hT h
 · split at h
   case h_2=>simp at h
   rename_i x y t t' ha ht
   rw [Zcg ha,Zcg ht];exact Zur h
 · split at h
   case h_2=>simp at h
   rename_i x t ha ht
   rw [Zcg ha,Zcg ht];exact ZzL hT h
 · exact Zv5 hT h
 · simp at h
end
end
end B
end Go.Proofs.YtmocfnfnhgognaaGreat
