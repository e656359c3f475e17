/-
  Joined by program out of B11, B12, B13, B14, B15, B16, B17, B18a, B18, B18b, B19, B20.
-/
import Derived.Test.YtmocfnfnhgognaaGreatM1
import Derived.DefersIn
import Derived.LoopNIn
import Derived.RangeFuncRecord
import Derived.OrdersIn
import Derived.RangeFuncIn
namespace Go.Proofs.YtmocfnfnhgognaaGreat
namespace B
section
open Go
inductive AEnd where
 | ret (v:Value)
 | panic (v:Value)
inductive AExit where
 | normal
 | exit (id:Nat)
 | ret
 | panic (v:Value)
structure ADef where
 f:FuncId
 args:List Value
structure St where
 tmps:List Value
 dfs:List ADef
 H:AHeap
abbrev CallT:=FuncId→List Value→AHeap→Option (AEnd×AHeap)
def ZbX (dst:Option Nat) (v:Value) (tmps:List Value):List Value :=
 match dst with
 | some d=>tmps.set d v
 | none=>tmps
def ZdF:Value→Option Bool
 | .bool b=>some b
 | _=>none
def ZcL (ops:List Oper) (tmps:List Value) (j:Nat):Option Bool :=
 match ops[j]? with
 | some o=>match o.dst with
  | some d=>match tmps[d]? with
   | some v=>ZdF v
   | none=>none
  | none=>none
 | none=>none
def Zat (ops:List Oper) (tmps:List Value) (o:Oper):Bool :=
 match o.guard with
 | none=>true
 | some (j,want)=>ZcL ops tmps j == some want
def Zd1 (P:Program) (ρ:Operand→Value) (c:Call):Option ADef :=
 match c.callee with
 | .value f=>match ρ f with
  | .func (.func g) first captured=>match P.funcs[g]? with
   | some fn=>if Func.enters fn then some ⟨g,first.toList++c.args.toList.map ρ++captured.toList⟩ else none
   | none=>none
  | _=>none
 | _=>none
def ZaT (P:Program) (call:CallT) (rnd:Bool) (ops:List Oper):List Nat→St→Option (AExit×St)
 | [],s=>some (.normal,s)
 | i::rest,s=>match ops[i]? with
  | none=>ZaT P call rnd ops rest s
  | some o =>
   if Zat ops s.tmps o then
    match o.op with
    | .defer c=>if rnd=false∧o.op.operands.all Zaa=true then match Zd1 P (aev s.tmps) c with
        | some d=>ZaT P call rnd ops rest { s with tmps:=ZbX o.dst undef s.tmps,dfs:=d::s.dfs }
        | none=>none
     else none
    | _=>match Zao P s.H (aev s.tmps) o with
     | some (.val v H)=>ZaT P call rnd ops rest { s with tmps:=ZbX o.dst v s.tmps,H:=H }
     | some (.skip H)=>ZaT P call rnd ops rest { s with tmps:=ZbX o.dst undef s.tmps,H:=H }
     | some (.enter f args H)=>match call f args H with
      | some (.ret v,H')=>ZaT P call rnd ops rest { s with tmps:=ZbX o.dst v s.tmps,H:=H' }
      | some (.panic v,H')=>some (.panic v,{ s with H:=H' })
      | none=>none
     | some (.panic v H)=>some (.panic v,{ s with H:=H })
     | _=>none
   else ZaT P call rnd ops rest { s with tmps:=ZbX o.dst undef s.tmps }
structure DRel (P:Program) (β:Emb) (d:ADef) (c:Deferred):Prop where
 ex:∃ cap,c.target=.fn (.func d.f) cap∧VRels β d.args (c.args++cap).toList
 en:∃ fn,P.funcs[d.f]?=some fn∧Func.enters fn=true
inductive DRels (P:Program) (N0:Fz) (β:Emb) (w:World):List ADef→List Deferred→Prop
 | nil:DRels P N0 β w [] []
 | cons {d:ADef} {c:Deferred} {l:List ADef} {l':List Deferred} (h:DRel P β d c) (g:DRels P N0 β w l l'):DRels P N0 β w (d::l) (c::l')
 | mark {r:Nat} {l:List ADef} {l':List Deferred} (h1:N0.low r) (h2:N0.b≤r) (h3:w.heap[r]?=some (.deferred (some []))) (h4:∀ d∈l',d.target≠.collected r) (g:DRels P N0 β w l l'):DRels P N0 β w l ({ target:=.collected r,args:=#[] }::l')
theorem DRels.monoU {P:Program} {N0:Fz} {β γ:Emb} {w w':World} (le:Emb.leU β γ) (fr:Fr N0 w w') {l:List ADef} {l':List Deferred} (h:DRels P N0 β w l l'):DRels P N0 γ w' l l':=by
 induction h with
 | nil=>exact .nil
 | cons h _ ih=>exact .cons ⟨by obtain ⟨cap,a,b⟩:=h.ex;exact ⟨cap,a,VRels.monoU le b⟩,h.en⟩ ih
 | mark h1 h2 h3 h4 _ ih=>exact .mark h1 h2 (by rw [fr.low _ h1];exact h3) h4 ih
theorem DRels.marks_lt {P:Program} {N0:Fz} {β:Emb} {w:World} {l:List ADef} {l':List Deferred} (h:DRels P N0 β w l l'):∀ d∈l',∀ r,d.target=.collected r→r<w.heap.size:=by
 induction h with
 | nil=>intro d hd;simp at hd
 | cons h _ ih =>
  intro d hd r hr
  rcases List.mem_cons.1 hd with rfl | hd
  · obtain ⟨cap,a,_⟩:=h.ex;rw [a] at hr;simp at hr
  · exact ih d hd r hr
 | mark h1 h2 h3 h4 _ ih =>
  intro d hd r hr
  rcases List.mem_cons.1 hd with rfl | hd
  · simp only [Target.collected.injEq] at hr;subst hr;exact (Array.getElem?_eq_some_iff.1 h3).1
  · exact ih d hd r hr
theorem DRels.put {P:Program} {N0:Fz} {β:Emb} {w:World} {l:List ADef} {l':List Deferred} (h:DRels P N0 β w l l') {r:Nat} {o:Obj} (hr:∀ d∈l',d.target≠.collected r):DRels P N0 β (w.putObj r o) l l':=by
 induction h with
 | nil=>exact .nil
 | cons h _ ih=>exact .cons h (ih fun d hd=>hr d (List.mem_cons_of_mem _ hd))
 | mark h1 h2 h3 h4 _ ih =>
  refine .mark h1 h2 ?_ h4 (ih fun d hd=>hr d (List.mem_cons_of_mem _ hd))
  rw [World.putObj_heap_other];exact h3
  rintro rfl
  exact hr _ (List.mem_cons_self ..) rfl
theorem DRels.mono {P:Program} {N0:Fz} {β γ:Emb} {w w':World} (le:Emb.le β γ) (fr:Fr N0 w w') {l:List ADef} {l':List Deferred} (h:DRels P N0 β w l l'):DRels P N0 γ w' l l':=h.monoU le.u fr
structure SRel (P:Program) (N0:Fz) (β:Emb) (s:St) (a:Act) (w:World):Prop where
 tmps:VRels β s.tmps a.tmps.toList
 dfs:DRels P N0 β w s.dfs a.defers
 heap:HRel P N0 β s.H w
structure SRelX (P:Program) (N0:Fz) (β:Emb) (x:AExit) (s:St) (a:Act) (w:World):Prop where
 tmps:VRels β s.tmps a.tmps.toList∨(s.tmps=[]∧∃ v,x=.panic v)
 dfs:DRels P N0 β w s.dfs a.defers
 heap:HRel P N0 β s.H w
theorem SRel.x {P:Program} {N0:Fz} {β:Emb} {s:St} {a:Act} {w:World} (h:SRel P N0 β s a w) (x:AExit):SRelX P N0 β x s a w:=⟨.inl h.tmps,h.dfs,h.heap⟩
def ZCH (γ:Emb):AEnd→Ending→Prop
 | .ret v,.returned v'=>VRel γ v v'
 | .panic v,.panicked chain=>∃ v',chain=[{ v:=v',recovered:=false }]∧VRel γ v v'
 | _,_=>False
def Zmj (γ:Emb):AExit→Exit→Prop
 | .normal,.normal=>True
 | .exit i,.exit j=>i=j
 | .ret,.ret=>True
 | .panic v,.panic chain=>∃ v',chain=[{ v:=v',recovered:=false }]∧VRel γ v v'
 | _,_=>False
def OutRel (P:Program) (N0:Fz) (β:Emb) (w:World) (x:AExit) (s:St):Exit→Act→World→Prop :=
 fun e a' w'=>∃ γ,Emb.le β γ∧SRelX P N0 γ x s a' w'∧Fr N0 w w'∧Zmj γ x e
theorem OutRel.trans {P:Program} {N0:Fz} {β γ:Emb} {w w1:World} {x:AExit} {s:St} (le:Emb.le β γ) (hf:Fr N0 w w1) {e:Exit} {a:Act} {w':World} (h:OutRel P N0 γ w1 x s e a w'):OutRel P N0 β w x s e a w':=by
 obtain ⟨δ,h1,h2,h3,h4⟩:=h
 exact ⟨δ,le.trans h1,h2,hf.trans h3,h4⟩
def ZeP (P:Program) (N0:Fz) (β:Emb) (w:World) (e:AEnd) (H:AHeap):Ending→World→Prop :=
 fun e' w'=>∃ γ,Emb.le β γ∧HRel P N0 γ H w'∧ZCH γ e e'∧Fr N0 w w'
def WF (ro:Option Nat):Fence:={ Fence.wide with round:=ro }
def ZnY (F:Fence) (n:Nat) (P:Program) (nx:Next) (w:World) (R:Ending→World→Prop):Prop :=
 match nx with
 | .enter f args=>CallsIn F n P f args w R
 | .round l f tmps assign body=>RoundIn F n P l f tmps assign body w R
 | _=>False
def Zbn (P:Program) (call:CallT):Prop :=
 ∀ (f:FuncId) (args:List Value) (H:AHeap) (e:AEnd) (H':AHeap),call f args H=some (e,H')→AHeap.le H H'∧∀ (N0:Fz) (β:Emb) (w:World) (nx:Next),HRel P N0 β H w→Comes P β w f args nx →
  ∀ (ro:Option Nat) (n:Nat),ZnY (WF ro) n P nx w (ZeP P N0 β w e H')
theorem ZgD {ro:Option Nat} {n:Nat} {P:Program} {o:Oper} {a:Act} {next:Act→World→Prop} {Q:Exit→Act→World→Prop} {nx:Next} {w:World} {R:Ending→World→Prop} (h:ZnY (WF ro) (n-1) P nx w R)
    (hr:∀ e w',R e w'→match e with
     | .returned v=>next (a.put o.dst v) w'
     | .panicked chain=>Q (.panic chain) a w'
     | .outgrown=>LetsOut Q):o.uponIn (WF ro) n P a next Q (.ok nx w):=by
 unfold ZnY at h
 split at h
 · exact ⟨fun hx=>by simp [WF,Fence.wide] at hx,h.mono fun e w' he=>by have:=hr e w' he;cases e<;>exact this⟩
 · exact ⟨fun hx=>by simp [WF,Fence.wide] at hx,h.mono fun e w' he=>by have:=hr e w' he;cases e<;>exact this⟩
 · exact h.elim
section
variable {P:Program} {N0:Fz} {β:Emb} {w:World}
theorem ZhQ {v v':Value} (h:VRel β v v'):ZdF v'=ZdF v:=by cases h<;>rfl
theorem Zqu {tmps:List Value} {a:Act} (h:VRels β tmps a.tmps.toList) (ops:Array Oper) (j:Nat):yielded ops a.tmps j=ZcL ops.toList tmps j:=by
 unfold yielded ZcL
 rw [Array.getElem?_toList]
 cases ho:ops[j]? with
 | none=>rfl
 | some o =>
  simp only [Option.bind_some]
  cases hd:o.dst with
  | none=>rfl
  | some d =>
   simp only [Option.bind_some]
   rcases Nat.lt_or_ge d tmps.length with hl | hl
   · obtain ⟨v',h1,h2⟩:=VRels.get h (List.getElem?_eq_getElem hl)
     rw [List.getElem?_eq_getElem hl]
     rw [Array.getElem?_toList] at h1
     rw [h1]
     have:=ZhQ h2
     dsimp only
     rw [←this]
     cases v'<;>rfl
   · have hl':a.tmps.size≤d:=by have:=VRels.length h;simp at this;omega
     rw [List.getElem?_eq_none hl,Array.getElem?_eq_none hl']
theorem Zge {tmps:List Value} {a:Act} (h:VRels β tmps a.tmps.toList) (ops:Array Oper) (o:Oper):Region.wanted o (yielded ops a.tmps)=Zat ops.toList tmps o:=by
 unfold Region.wanted Zat
 cases o.guard with
 | none=>rfl
 | some p=>obtain ⟨j,want⟩:=p;simp only [Zqu h]
theorem ZcY {tmps:List Value} {a:Act} (h:VRels β tmps a.tmps.toList) (dst:Option Nat) {v v':Value} (hv:VRel β v v'):VRels β (ZbX dst v tmps) (a.put dst v').tmps.toList:=by
 unfold ZbX Act.put
 cases dst with
 | none=>exact h
 | some d=>simp only [Array.toList_setIfInBounds];exact VRels.set h d hv
theorem ZbW (a:Act) (dst:Option Nat) (v:Value):(a.put dst v).defers=a.defers:=by cases dst<;>rfl
theorem Zfz {ro:Option Nat} {o:Oper} {a:Act} {w:World}:∀ f,o.about P w a.eval=some f→(WF ro).fn f:=fun _ _=>trivial
theorem ZoY {ρ ρ':Operand→Value} {c:Call} {d:ADef} (hρ:∀ x,Zaa x=true→VRel β (ρ x) (ρ' x)) (hok:c.operands.all Zaa=true) (h:Zd1 P ρ c=some d) (ty:TypeId) (w:World) :
    ∃ dc,(resolve ρ' c ty).run P w=.ok dc w∧DRel P β d dc:=by
 unfold Zd1 at h
 split at h
 case h_2=>simp at h
 rename_i f hc
 split at h
 case h_2=>simp at h
 rename_i g first captured hf
 split at h
 case h_2=>simp at h
 rename_i fn hfn
 split at h
 case isFalse=>simp at h
 rename_i hen
 simp at h;subst h
 have hv:=hρ f (Zbu hok (by simp [Call.operands,hc]))
 rw [hf] at hv
 obtain ⟨first',captured',hf',h1,h2⟩:=hv.inv_func
 have hargs:VRels β (c.args.toList.map ρ) (c.args.toList.map ρ'):=VRels.mapOps hρ _ (by
  rw [List.all_eq_true];intro x hx';exact Zbu hok (by simp only [Call.operands,Array.mem_append];exact .inr (by simpa using hx')))
 refine ⟨{ target:=.fn (.func g) captured',args:=first'++c.args.map ρ' },?_,⟨captured',rfl,?_⟩,fn,hfn,hen⟩
 · simp only [resolve,hc,hf',Deferred.ofValue,Sem.run_pure]
 · have:=VRels.append (VRels.append h1 hargs) h2
   simpa [List.append_assoc] using this
theorem ResRel.inv_val {v:Value} {H:AHeap} {R:Result Next} (h:ResRel P N0 β w (.val v H) R):∃ v' w' γ,R=.ok (.value v') w'∧Emb.le β γ∧HRel P N0 γ H w'∧VRel γ v v'∧Fr N0 w w':=by
 cases R with
 | halt x w'=>exact h.elim
 | ok nx w'=>cases nx<;>first | exact h.elim | skip
             obtain ⟨γ,a,b,c,d⟩:=h
             exact ⟨_,_,γ,rfl,a,b,c,d⟩
theorem ResRel.inv_skip {H:AHeap} {R:Result Next} (h:ResRel P N0 β w (.skip H) R):∃ w' γ,R=.ok .skip w'∧Emb.le β γ∧HRel P N0 γ H w'∧Fr N0 w w':=by
 cases R with
 | halt x w'=>exact h.elim
 | ok nx w'=>cases nx<;>first | exact h.elim | skip
             obtain ⟨γ,a,b,c⟩:=h
             exact ⟨_,γ,rfl,a,b,c⟩
theorem ResRel.inv_enter {f:FuncId} {args:List Value} {H:AHeap} {R:Result Next} (h:ResRel P N0 β w (.enter f args H) R) :
    ∃ nx w' γ,R=.ok nx w'∧Emb.le β γ∧HRel P N0 γ H w'∧Comes P γ w' f args nx∧Fr N0 w w':=by
 cases R with
 | halt x w'=>exact h.elim
 | ok nx w' =>
  obtain ⟨γ,a,b,c,d⟩:=h
  exact ⟨_,_,γ,rfl,a,b,c,d⟩
theorem ResRel.inv_panic {v:Value} {H:AHeap} {R:Result Next} (h:ResRel P N0 β w (.panic v H) R):∃ v' w' γ,R=.halt (.panic v') w'∧Emb.le β γ∧HRel P N0 γ H w'∧VRel γ v v'∧Fr N0 w w':=by
 cases R with
 | ok nx w'=>cases nx<;>exact h.elim
 | halt x w'=>cases x<;>first | exact h.elim | skip
              obtain ⟨γ,a,b,c,d⟩:=h
              exact ⟨_,_,γ,rfl,a,b,c,d⟩
theorem Zl5 {call:CallT} (hcall:Zbn P call) {ro:Option Nat} {n:Nat} {ops:Array Oper} {x:AExit} {s':St}:∀ (is:List Nat) (s:St) (β:Emb) (a:Act) (w:World),
    ZaT P call ro.isSome ops.toList is s=some (x,s')→SRel P N0 β s a w→∀ Q:Exit→Act→World→Prop,(∀ e a' w',OutRel P N0 β w x s' e a' w'→Q e a' w')→wpOpsIn (WF ro) n P ops Q is a w:=by
 intro is
 induction is with
 | nil =>
  intro s β a w he hs Q hQ
  simp only [ZaT,Option.some.injEq,Prod.mk.injEq] at he
  obtain ⟨rfl,rfl⟩:=he
  exact hQ _ _ _ ⟨β,Emb.le.refl _,hs.x _,Fr.refl _ _,trivial⟩
 | cons i rest ih =>
  intro s β a w he hs Q hQ
  unfold ZaT at he
  rw [Array.getElem?_toList] at he
  unfold wpOpsIn
  cases ho:ops[i]? with
  | none=>rw [ho] at he;exact ih s β a w he hs Q hQ
  | some o =>
   rw [ho] at he
   dsimp only at he ⊢
   rw [Zge hs.tmps]
   split at he
   · rename_i hw
     rw [if_pos hw]
     have hρ:∀ x,Zaa x=true→VRel β (aev s.tmps x) (a.eval x):=fun x hx=>ZhS hs.tmps hx
     split at he
     ·
      rename_i c hop
      split at he
      case isFalse=>simp at he
      rename_i hcond
      obtain ⟨hrnd,hok⟩:=hcond
      have hro:ro=none:=by cases ro<;>simp_all
      subst hro
      split at he
      case h_2=>simp at he
      rename_i d hd
      rw [hop] at hok
      obtain ⟨dc,h1,h2⟩:=ZoY hρ hok hd o.type w
      refine ⟨Zfz,?_⟩
      have hrun:(o.semAt (WF none).round a.eval).run P w=.ok (.defer dc) w:=by
       show (execOp a.eval o).run P w=_
       unfold execOp;rw [hop]
       simp only [Sem.run_bind,h1,Result.andThen_ok,Sem.run_pure]
      rw [hrun]
      show wpOpsIn _ _ _ _ _ _ _ _
      refine ih _ β _ w he ⟨?_,?_,hs.heap⟩ Q hQ
      · exact ZcY (a:={ a with defers:=dc::a.defers }) hs.tmps o.dst (.closed rfl)
      · rw [ZbW];exact .cons h2 hs.dfs
     · rename_i hnd
       have hsem:(o.semAt (WF ro).round a.eval)=execOp a.eval o:=Oper.semAt_eq _ _ _ hnd
       refine ⟨Zfz,?_⟩
       rw [hsem]
       split at he
       · rename_i v H hev
         obtain ⟨v',w',γ,hR,le,hh,hv,hf⟩:=(Zbe hs.heap hρ hev).inv_val
         rw [hR]
         show wpOpsIn _ _ _ _ _ _ _ _
         refine ih _ γ _ w' he ⟨ZcY (hs.tmps.mono le) o.dst hv,by rw [ZbW];exact hs.dfs.mono le hf,hh⟩ Q fun e' a' w'' ho'=>hQ _ _ _ (ho'.trans le hf)
       · rename_i H hev
         obtain ⟨w',γ,hR,le,hh,hf⟩:=(Zbe hs.heap hρ hev).inv_skip
         rw [hR]
         show wpOpsIn _ _ _ _ _ _ _ _
         refine ih _ γ _ w' he ⟨ZcY (hs.tmps.mono le) o.dst (.closed rfl),by rw [ZbW];exact hs.dfs.mono le hf,hh⟩ Q fun e' a' w'' ho'=>hQ _ _ _ (ho'.trans le hf)
       · rename_i f args H hev
         obtain ⟨nx,w',γ,hR,le,hh,hv,hf⟩:=(Zbe hs.heap hρ hev).inv_enter
         rw [hR]
         split at he
         · rename_i v H' hc
           refine ZgD ((hcall _ _ _ _ _ hc).2 N0 γ w' nx hh hv ro _) ?_
           intro e' w'' hcr
           obtain ⟨δ,le2,hh2,he2,hf2⟩:=hcr
           cases e' with
           | returned v' =>
            show wpOpsIn _ _ _ _ _ _ _ _
            refine ih _ δ _ w'' he ⟨ZcY (hs.tmps.mono (le.trans le2)) o.dst he2,by rw [ZbW];exact hs.dfs.mono (le.trans le2) (hf.trans hf2),hh2⟩ Q fun e'' a' w3 ho'=>hQ _ _ _ (ho'.trans (le.trans le2) (hf.trans hf2))
           | panicked chain=>exact he2.elim
           | outgrown=>exact he2.elim
         · rename_i v H' hc
           simp only [Option.some.injEq,Prod.mk.injEq] at he
           obtain ⟨rfl,rfl⟩:=he
           refine ZgD ((hcall _ _ _ _ _ hc).2 N0 γ w' nx hh hv ro _) ?_
           intro e' w'' hcr
           obtain ⟨δ,le2,hh2,he2,hf2⟩:=hcr
           cases e' with
           | returned v'=>exact he2.elim
           | panicked chain=>exact hQ _ _ _ ⟨δ,le.trans le2,⟨.inl (hs.tmps.mono (le.trans le2)),hs.dfs.mono (le.trans le2) (hf.trans hf2),hh2⟩,hf.trans hf2,he2⟩
           | outgrown=>exact he2.elim
         · simp at he
       · rename_i v H hev
         obtain ⟨v',w',γ,hR,le,hh,hv,hf⟩:=(Zbe hs.heap hρ hev).inv_panic
         rw [hR]
         simp only [Option.some.injEq,Prod.mk.injEq] at he
         obtain ⟨rfl,rfl⟩:=he
         exact hQ _ _ _ ⟨γ,le,⟨.inl (hs.tmps.mono le),hs.dfs.mono le hf,hh⟩,hf,v',rfl,hv⟩
       · simp at he
   · rename_i hw
     rw [if_neg hw]
     exact ⟨Zfz,ih _ β _ w he ⟨ZcY hs.tmps o.dst (.closed rfl),by rw [ZbW];exact hs.dfs,hs.heap⟩ Q hQ⟩
end
end
section
open Go
theorem ZbM {P:Program} {ρ ρ':Operand→Value} {o:Oper} (hs:∀ cs b,o.op≠.select cs b) (h:∀ x∈o.op.operands,ρ x=ρ' x):Zaz P ρ o=Zaz P ρ' o:=by
 unfold Zaz
 have h1:o.op.operands.all (fun x=>Zab (ρ x))=o.op.operands.all (fun x=>Zab (ρ' x)):=by
  rw [Bool.eq_iff_iff,Array.all_eq_true',Array.all_eq_true']
  exact ⟨fun hh x hx=>by rw [←h x hx];exact hh x hx,fun hh x hx=>by rw [h x hx];exact hh x hx⟩
 rw [h1,execOp_congr o hs h]
theorem Zjx {ρ ρ':Operand→Value} {parts:Array (Nat×Operand)} (h:∀ x∈(parts.toList.map (·.2)).toArray,ρ x=ρ' x):(parts.map fun (i,x)=>(i,ρ x))=(parts.map fun (i,x)=>(i,ρ' x)):=by
 refine Array.map_congr_left fun p hp=>?_
 have:p.2∈(parts.toList.map (·.2)).toArray:=by
  simp only [List.mem_toArray,List.mem_map]
  exact ⟨p,by simpa using hp,rfl⟩
 simp [h _ this]
theorem ZgZ {ρ ρ':Operand→Value} {l:Array Operand} (h:∀ x∈l,ρ x=ρ' x):l.map ρ=l.map ρ':=Array.map_congr_left h
set_option maxHeartbeats 2000000 in
theorem Znp {P:Program} {H:AHeap} {ρ ρ':Operand→Value} {o:Oper} (h:∀ x∈o.op.operands,ρ x=ρ' x):ZaG P H ρ o=ZaG P H ρ' o:=by
 unfold ZaG
 congr 1
 cases hop:o.op<;>(first | rfl | skip)<;>rw [hop] at h<;>simp only [Op.operands] at h
 case move x=>simp only [h x (by simp)]
 case assign x=>simp only [h x (by simp)]
 case pick c a b=>simp only [h c (by simp),h a (by simp),h b (by simp)]
 case box t x=>simp only [h x (by simp)]
 case build t parts=>simp only [Zjx h]
 case buildSlice t n parts=>simp only [Zjx h]
 case load t x=>simp only [h x (by simp)]
 case store t x y=>simp only [h x (by simp),h y (by simp)]
 case nilCheck x=>simp only [h x (by simp)]
 case binOp op t x y t2 =>
  have hc:=ZbM (P:=P) (ρ:=ρ) (ρ':=ρ') (o:=o) (by rw [hop];simp) (by rw [hop];simpa [Op.operands] using h)
  simp only [hc,h x (by simp),h y (by simp)]
 case unOp op t x =>
  have hc:=ZbM (P:=P) (ρ:=ρ) (ρ':=ρ') (o:=o) (by rw [hop];simp) (by rw [hop];simpa [Op.operands] using h)
  simp only [hc]
 case convert t u x =>
  have hc:=ZbM (P:=P) (ρ:=ρ) (ρ':=ρ') (o:=o) (by rw [hop];simp) (by rw [hop];simpa [Op.operands] using h)
  simp only [hc]
 case index t x y =>
  have hc:=ZbM (P:=P) (ρ:=ρ) (ρ':=ρ') (o:=o) (by rw [hop];simp) (by rw [hop];simpa [Op.operands] using h)
  simp only [hc]
 case makeInterface t x=>simp only [h x (by simp)]
 case makeFunc fn u v =>
  cases fn<;>first | rfl | skip
  have h1:u.map ρ=u.map ρ':=ZgZ fun x hx=>h x (by simp [hx])
  have h2:v.map ρ=v.map ρ':=ZgZ fun x hx=>h x (by simp [hx])
  simp only [h1,h2]
 case slice t x lo hi mx =>
  cases mx<;>first | rfl | skip
  have hc:=ZbM (P:=P) (ρ:=ρ) (ρ':=ρ') (o:=o) (by rw [hop];simp) (by rw [hop];simpa [Op.operands] using h)
  have h1:lo.map ρ=lo.map ρ':=Zdf fun z hz=>h z (by simp [hz])
  have h2:hi.map ρ=hi.map ρ':=Zdf fun z hz=>h z (by simp [hz])
  simp only [hc,h1,h2,h x (by simp)]
 case fieldAddr t x f=>simp only [h x (by simp)]
 case field t x f=>simp only [h x (by simp)]
 case indexAddr t x y=>simp only [h x (by simp),h y (by simp)]
 case extract x i=>simp only [h x (by simp)]
 case typeAssert x t u ok=>simp only [h x (by simp)]
 case panic x=>simp only [h x (by simp)]
 case makeMap t r=>cases r<;>rfl
 case makeSlice t l c=>simp only [h l (by simp),h c (by simp)]
theorem ZkC {P:Program} {H:AHeap} {ρ ρ':Operand→Value} {o:Oper} {c:Call} (ho:o.op=.call c) (h:∀ x∈o.op.operands,ρ x=ρ' x):Zbm P H ρ o c=Zbm P H ρ' o c:=by
 have hc:=ZbM (P:=P) (ρ:=ρ) (ρ':=ρ') (o:=o) (by rw [ho];simp) h
 rw [ho] at h
 simp only [Op.operands,Call.operands] at h
 have ha:∀ x∈c.args.toList,ρ x=ρ' x:=fun x hx=>h x (by simp only [Array.mem_append];exact .inr (by simpa using hx))
 have hm:c.args.toList.map ρ=c.args.toList.map ρ':=List.map_congr_left ha
 unfold Zbm
 rw [hc,hm]
 split
 · split
   · rename_i e _;rw [ha _ (by rw [e];simp)]
   · rfl
 · split
   · rename_i e _;rw [ha _ (by rw [e];simp),ha _ (by rw [e];simp)]
   · rfl
 · rfl
 · rfl
 · rfl
 · rename_i f hf
   rw [h f (by rw [hf];simp)]
 · rfl
theorem Zhd {P:Program} {H:AHeap} {ρ ρ':Operand→Value} {o:Oper} (h:∀ x∈o.op.operands,ρ x=ρ' x):Zao P H ρ o=Zao P H ρ' o:=by
 unfold Zao
 split
 · rename_i c ho;rw [ZkC ho h]
 · rename_i t m k ok ho
   rw [ho] at h
   simp only [Op.operands] at h
   rw [h m (by simp),h k (by simp)]
 · rename_i t m k v ho
   rw [ho] at h
   simp only [Op.operands] at h
   rw [h m (by simp),h k (by simp),h v (by simp)]
 · rename_i t m k v ho
   rw [ho] at h
   simp only [Op.operands] at h
   rw [h m (by simp),h k (by simp),h v (by simp)]
 · exact Znp h
inductive OKind where
 | pure
 | read
 | alloc
 | effect
 deriving DecidableEq
def ZaS:Op→OKind
 | .move _ | .assign _ | .pick _ _ _ | .build _ _ | .nilCheck _ | .binOp _ _ _ _ _ | .unOp _ _ _ | .convert _ _ _ | .index _ _ _ | .makeInterface _ _ | .makeFunc _ _ _ | .fieldAddr _ _ _ | .field _ _ _
 | .indexAddr _ _ _ | .extract _ _ | .typeAssert _ _ _ _=>.pure
 | .load _ _ | .lookup _ _ _ _ | .slice _ _ _ _ _=>.read
 | .call { callee:=.builtin .len,.. }=>.read
 | .call { callee:=.builtin .min,.. }=>.read
 | .call { callee:=.builtin .max,.. }=>.read
 | .alloc _ | .box _ _ | .buildSlice _ _ _=>.alloc
 | _=>.effect
theorem ZfH (c:Call):ZaS (.call c)=.read∨ZaS (.call c)=.effect:=by
 unfold ZaS;split<;>simp_all
set_option maxHeartbeats 4000000 in
theorem Zev {P:Program} {H:AHeap} {ρ:Operand→Value} {o:Oper} (hk:ZaS o.op=.pure) {r:ARes} (e:Zao P H ρ o=some r):∃ v,r=.val v H∧∀ H2,Zao P H2 ρ o=some (.val v H2):=by
 have hnc:∀ c,o.op≠.call c:=by
  intro c hc;rw [hc] at hk;rcases ZfH c with h | h<;>rw [h] at hk<;>cases hk
 have ev:∀ H2,Zao P H2 ρ o=ZaG P H2 ρ o:=by
  intro H2
  unfold Zao
  split
  · rename_i c hc;exact absurd hc (hnc c)
  · rename_i ho;rw [ho] at hk;cases hk
  · rename_i ho;rw [ho] at hk;cases hk
  · rename_i ho;rw [ho] at hk;cases hk
  · rfl
 rw [ev] at e
 simp only [ev]
 unfold ZaG at e ⊢
 split at e
 case isFalse=>simp at e
 rename_i hok
 simp only [hok,if_true]
 cases hop:o.op
 all_goals rw [hop] at hk
 all_goals (first | (simp [ZaS] at hk;done) | (exact absurd hop (hnc _)) | skip)
 all_goals simp only [hop] at e ⊢
 all_goals (repeat' split at e)
 all_goals (first | contradiction | (simp at e;done) | skip)
 all_goals (simp only [Option.some.injEq] at e;subst e)
 all_goals (refine ⟨_,rfl,fun H2=>?_⟩;simp_all)
theorem Zeu {P:Program} {H:AHeap} {ρ:Operand→Value} {o:Oper} (hk:ZaS o.op=.read) {r:ARes} (e:Zao P H ρ o=some r):∃ v,r=.val v H:=by
 unfold Zao at e
 split at e
 · rename_i c hc
   rw [hc] at hk
   split at e
   · unfold Zbm at e
     split at e
     · (repeat' split at e)<;>first | (simp at e;done) | (simp at e;exact ⟨_,e.symm⟩)
     · rename_i hcb;unfold ZaS at hk;split at hk<;>simp_all
     · rename_i hcb;unfold ZaS at hk;split at hk<;>simp_all
     · (repeat' split at e)<;>first | (simp at e;done) | (simp at e;exact ⟨_,e.symm⟩)
     · (repeat' split at e)<;>first | (simp at e;done) | (simp at e;exact ⟨_,e.symm⟩)
     · rename_i hcb;unfold ZaS at hk;split at hk<;>simp_all
     · simp at e
   · simp at e
 · (repeat' split at e)<;>first | (simp at e;done) | (simp at e;exact ⟨_,e.symm⟩)
 · rename_i ho;rw [ho] at hk;cases hk
 · rename_i ho;rw [ho] at hk;cases hk
 · rename_i hnc _ _ _
   unfold ZaG at e
   split at e
   case isFalse=>simp at e
   cases hop:o.op
   all_goals rw [hop] at hk
   all_goals (first | (simp [ZaS] at hk;done) | (exact absurd hop (hnc _)) | skip)
   all_goals simp only [hop] at e
   all_goals (repeat' split at e)<;>first | contradiction | (simp at e;done) | (simp at e;exact ⟨_,e.symm⟩)
end
section
open Go
def ARes.heap:ARes→AHeap
 | .val _ H=>H
 | .skip H=>H
 | .enter _ _ H=>H
 | .defer _ _ H=>H
 | .panic _ H=>H
theorem ZsO:∀ {vs:List Value} {H H':AHeap} {a:Addr},H.setN a vs=some H'→AHeap.le H H'
 | [],H,H',a,h=>by simp [AHeap.setN] at h;rw [h];exact AHeap.le_refl _
 | v::vs,H,H',a,h=>by
  unfold AHeap.setN at h
  cases h1:H.setCell a v with
  | none=>rw [h1] at h;simp at h
  | some H1 =>
   rw [h1] at h
   dsimp only at h
   obtain ⟨_,h2,h3,r,r',h4,_⟩:=Ze5 h1
   have hx:∃ x,H.get a.block=some x:=by
    unfold AHeap.view at h4
    cases hg:H.get a.block with
    | none=>rw [hg] at h4;simp at h4
    | some x=>exact ⟨x,rfl⟩
   obtain ⟨x,hx⟩:=hx
   exact AHeap.le_trans (AHeap.le_of h2 h3 hx) (ZsO h)
theorem ZsA {P:Program} {H H':AHeap} {t:TypeId} {a:Addr} {v:Value} (h:H.storeV P t a v=some H'):AHeap.le H H':=by
 unfold AHeap.storeV at h
 split at h
 · split at h
   · exact ZsO h
   · simp at h
 · simp at h
theorem Zu1 {H H':AHeap} {i:TypeInfo} {e:TypeId} {s x v:Value} (h:H.append i e s x=some (v,H')):AHeap.le H H':=by
 unfold AHeap.append at h
 (repeat' split at h)<;>first | (simp at h;done) | (simp at h;obtain ⟨_,rfl⟩:=h;first | exact AHeap.le_refl _ | exact AHeap.le_push _ _ | exact AHeap.le_set (by assumption))
theorem Zzl {P:Program} {H H':AHeap} {t:TypeId} {l c v:Value} (h:ZAH P H t l c=some (v,H')):AHeap.le H H':=by
 unfold ZAH at h
 (repeat' split at h)<;>first | (simp at h;done) | (simp at h;obtain ⟨_,rfl⟩:=h;exact AHeap.le_push _ _)
theorem Zzo {P:Program} {H H':AHeap} {t t':TypeId} {s x v:Value} (h:ZoE P H t t' s x=some (v,H')):AHeap.le H H':=by
 unfold ZoE at h
 (repeat' split at h)<;>first | (simp at h;done) | (simp at h;obtain ⟨_,rfl⟩:=h;exact AHeap.le_push _ _)
theorem ZmV {P:Program} {H H':AHeap} {t:TypeId} {m k v:Value} (h:H.mapPut P t m k v=some H'):AHeap.le H H':=by
 unfold AHeap.mapPut at h
 (repeat' split at h)<;>first | (simp at h;done) | (simp at h;subst h;exact AHeap.le_set (by assumption))
set_option maxHeartbeats 4000000 in
theorem Za3 {P:Program} {H:AHeap} {ρ:Operand→Value} {o:Oper} {r:ARes} (h:Zao P H ρ o=some r):AHeap.le H r.heap:=by
 unfold Zao at h
 split at h
 · split at h
   · unfold Zbm Zo9 at h
     (repeat' split at h)<;>first | (simp at h;done) | (simp at h;subst h;first | exact AHeap.le_refl _ | (exact Zu1 (by assumption)) | (exact Zzo (by assumption)))
   · simp at h
 · (repeat' split at h)<;>first | (simp at h;done) | (simp at h;subst h;exact AHeap.le_refl _)
 · (repeat' split at h)<;>first | (simp at h;done) | (simp at h;subst h;exact ZmV (by assumption))
 · (repeat' split at h)<;>first | (simp at h;done) | (simp at h;subst h;exact ZmV (by assumption))
 · unfold ZaG at h
   (repeat' split at h)<;>first | (simp at h;done) | (simp at h;subst h;first | exact AHeap.le_refl _ | exact AHeap.le_push _ _ | (exact ZsA (by assumption)) | (exact Zzl (by assumption)))
structure AllocRun (P:Program) (β:Emb) (w:World) (H H':AHeap) (V:Value) (s:Sem Next):Prop where
 ex:∃ (obj:AObj) (r:RowV) (c:Array Value) (i:TypeInfo) (V':Value) (w':World),obj.view=some r∧r.ro=false∧r.g=0∧(∀ j,r.st j≤r.g)∧P.info? r.e=some i∧H'=H.push obj ∧
  (∀ (j:Nat) (v:Value),r.cs[j]?=some v→∃ v',c[j]?=some v'∧VRel β v v')∧s.run P w=.ok (.value V') w'∧(w'.heap=w.heap.push (.cells c r.e)∧w'.os=w.os∧w'.output=w.output) ∧
  ∀ γ:Emb,γ.row H.next 0=some (w.heap.size,0)→γ.live H.next=true→γ.bsz w.heap.size=c.size→γ.bes w.heap.size=i.size→VRel γ V V'
section
variable {P:Program} {β:Emb} {H:AHeap} {w:World} {ρ ρ':Operand→Value} {o:Oper}
set_option maxHeartbeats 2000000 in
theorem Zu3 (hρ:∀ x,Zaa x=true→VRel β (ρ x) (ρ' x)) (hk:ZaS o.op=.alloc) {r:ARes} (e:Zao P H ρ o=some r):∃ V H',r=.val V H'∧AllocRun P β w H H' V (execOp ρ' o):=by
 have hnc:∀ c,o.op≠.call c:=by
  intro c hc;rw [hc] at hk;rcases ZfH c with h | h<;>rw [h] at hk<;>cases hk
 have ev:Zao P H ρ o=ZaG P H ρ o:=by
  unfold Zao
  split
  · rename_i c hc;exact absurd hc (hnc c)
  · rename_i ho;rw [ho] at hk;cases hk
  · rename_i ho;rw [ho] at hk;cases hk
  · rename_i ho;rw [ho] at hk;cases hk
  · rfl
 rw [ev] at e
 unfold ZaG at e
 split at e
 case isFalse=>simp at e
 rename_i hok
 have hop:∀ x∈o.op.operands,VRel β (ρ x) (ρ' x):=fun x hx=>hρ x (Zbu hok hx)
 cases ho:o.op
 all_goals rw [ho] at hk
 all_goals (first | (simp [ZaS] at hk;done) | (exact absurd ho (hnc _)) | skip)
 all_goals simp only [ho] at e
 case alloc t =>
  have hx:execOp ρ' o=(do pure (.value (← Instr.alloc t true (.tuple #[])))):=by unfold execOp;rw [ho]
  rw [hx]
  split at e
  · rename_i i hi
    split at e
    · rename_i z hz
      split at e
      · rename_i hc
        simp at e;subst e
        rw [Bool.and_eq_true] at hc
        have hcl:VRels β z.cells.toList z.cells.toList:=(VRel.closed (β:=β) hc.1).cells
        have:(Instr.alloc t true (.tuple #[])).run P w=.ok (.pointer (some ⟨w.heap.size,0,none⟩)) (w.alloc (.cells z.cells t)):=by
         simp [Instr.alloc,zeroValue,typeInfo,hi,hz,newVar,newRow]
        refine ⟨_,_,rfl,⟨.box z.cells.toList t,⟨z.cells.toList,fun _=>0,0,t,false⟩,z.cells,i,.pointer (some ⟨w.heap.size,0,none⟩),w.alloc (.cells z.cells t),rfl,rfl,rfl,fun _=>Nat.le_refl _,hi,rfl,?_,?_,⟨rfl,rfl,rfl⟩,?_⟩⟩
        · intro j v hj;obtain ⟨v',h1,h2⟩:=VRels.get hcl hj;exact ⟨v',by rw [←Array.getElem?_toList];exact h1,h2⟩
        · simp only [Sem.run_bind,this,Result.andThen_ok];rfl
        · intro γ h1 _ _ _;exact .pointer ⟨w.heap.size,0,h1,by simp⟩
      · simp at e
    · simp at e
  · simp at e
 case box t x =>
  have hx:execOp ρ' o=(do pure (.value (← Instr.box t (ρ' x)))):=by unfold execOp;rw [ho]
  rw [hx]
  split at e
  · rename_i i hi
    split at e
    · simp at e;subst e
      have hv:=hop x (by rw [ho];simp [Op.operands])
      have hcl:=hv.cells
      have:(Instr.box t (ρ' x)).run P w=.ok (.pointer (some ⟨w.heap.size,0,none⟩)) (w.alloc (.cells (ρ' x).cells t)):=by
       simp [Instr.box,newVar,newRow]
      refine ⟨_,_,rfl,⟨.box (ρ x).cells.toList t,⟨(ρ x).cells.toList,fun _=>0,0,t,false⟩,(ρ' x).cells,i,.pointer (some ⟨w.heap.size,0,none⟩),w.alloc (.cells (ρ' x).cells t),rfl,rfl,rfl,fun _=>Nat.le_refl _,hi,rfl,?_,?_,⟨rfl,rfl,rfl⟩,?_⟩⟩
      · intro j v hj;obtain ⟨v',h1,h2⟩:=VRels.get hcl hj;exact ⟨v',by rw [←Array.getElem?_toList];exact h1,h2⟩
      · simp only [Sem.run_bind,this,Result.andThen_ok];rfl
      · intro γ h1 _ _ _;exact .pointer ⟨w.heap.size,0,h1,by simp⟩
    · simp at e
  · simp at e
 case buildSlice t len parts =>
  have hx:execOp ρ' o=(do pure (.value (← Instr.buildSlice t len (parts.map fun (i,x)=>(i,ρ' x))))):=by unfold execOp;rw [ho]
  rw [hx]
  split at e
  · rename_i ee hu
    split at e
    · rename_i i hi
      split at e
      · rename_i z hz
        split at e
        · rename_i hc
          obtain ⟨hc1,hc2,hc3,hc4⟩:=hc
          split at e
          · rename_i cs hcs
            split at e
            · rename_i hcc
              simp at e;subst e
              have hp:PRels β (parts.map fun (i,x)=>(i,ρ x)).toList (parts.map fun (i,x)=>(i,ρ' x)).toList:=by
               simpa using PRels.map hρ parts.toList hc4
              have hzc:VRels β (Zbw z len i.size).toList (Zbw z len i.size).toList:=by
               rw [ZaP] at hc3;exact VRels.closed hc3
              obtain ⟨cs',h1,h2⟩:=Zg9 _ _ _ _ _ _ hp hzc hcs
              have hsz:cs'.size=cs.size:=by have:=VRels.length h2;simpa using this
              have:(Instr.buildSlice t len (parts.map fun (i,x)=>(i,ρ' x))).run P w=.ok (.slice (some ⟨w.heap.size,0,none⟩) len len) (w.alloc (.cells cs' ee)):=by
               unfold Zbw at h1
               simp [Instr.buildSlice,run_underlying hu,sizeOf,typeInfo,hi,zeroValue,hz,hc2,Nat.not_lt.2 hc1,newRow]
               simp only [Array.toList_map] at h1
               rw [h1]
               rfl
              refine ⟨_,_,rfl,⟨.arr cs.toList (List.replicate cs.size 0) 0 ee false,⟨cs.toList,fun j=>(List.replicate cs.size 0).getD j 0,0,ee,false⟩,cs',i,.slice (some ⟨w.heap.size,0,none⟩) len len,w.alloc (.cells cs' ee),rfl,rfl,rfl,
               fun j=>Zbt _ _ _,hi,rfl,?_,?_,⟨rfl,rfl,rfl⟩,?_⟩⟩
              · intro j v hj;obtain ⟨v',h1,h2⟩:=VRels.get h2 hj;exact ⟨v',by rw [←Array.getElem?_toList];exact h1,h2⟩
              · simp only [Sem.run_bind,this,Result.andThen_ok];rfl
              · intro γ g1 _ g3 g4
                refine .slice ⟨w.heap.size,0,g1,by simp⟩ (Nat.le_refl _) (Nat.le_refl _) fun _=>?_
                rw [g3,g4,hsz,hcc.2];simp
            · simp at e
          · simp at e
        · split at e
          · rename_i hc
            simp at e;subst e
            obtain ⟨hl,hpz⟩:=hc
            subst hl
            have:(Instr.buildSlice t 0 (parts.map fun (i,x)=>(i,ρ' x))).run P w=.ok (.slice (some ⟨w.heap.size,0,none⟩) 0 0) (w.alloc (.cells #[] ee)):=by
             have hp0:parts = #[]:=by cases parts;simp at hpz;subst hpz;rfl
             subst hp0
             have e0:∀ (f:Nat→Value),(Array.range 0).map f = #[]:=fun f=>Array.eq_empty_of_size_eq_zero (by simp)
             simp [Instr.buildSlice,run_underlying hu,sizeOf,typeInfo,hi,newRow,Instr.fill]
             rw [e0]
            refine ⟨_,_,rfl,⟨.arr [] [] 0 ee false,⟨[],fun j=>([]:List Nat).getD j 0,0,ee,false⟩,#[],i,.slice (some ⟨w.heap.size,0,none⟩) 0 0,w.alloc (.cells #[] ee),rfl,rfl,rfl,fun j=>by simp,hi,rfl,?_,?_,⟨rfl,rfl,rfl⟩,?_⟩⟩
            · intro j v hj;simp at hj
            · simp only [Sem.run_bind,this,Result.andThen_ok];rfl
            · intro γ _ g2 _ _;exact .sliceZ g2
          · simp at e
      · simp at e
    · simp at e
  · simp at e
end
theorem Zhk {P:Program} {H:AHeap} {ρ:Operand→Value} {o:Oper} (hk:ZaS o.op=.alloc) {r:ARes} (e:Zao P H ρ o=some r):∃ V H',r=.val V H':=by
 have hnc:∀ c,o.op≠.call c:=by
  intro c hc;rw [hc] at hk;rcases ZfH c with h | h<;>rw [h] at hk<;>cases hk
 unfold Zao at e
 split at e
 · rename_i c hc;exact absurd hc (hnc c)
 · rename_i ho;rw [ho] at hk;cases hk
 · rename_i ho;rw [ho] at hk;cases hk
 · rename_i ho;rw [ho] at hk;cases hk
 · unfold ZaG at e
   split at e
   case isFalse=>simp at e
   cases hop:o.op
   all_goals rw [hop] at hk
   all_goals (first | (simp [ZaS] at hk;done) | (exact absurd hop (hnc _)) | skip)
   all_goals simp only [hop] at e
   all_goals (repeat' split at e)<;>first | contradiction | (simp at e;done) | (simp at e;exact ⟨_,_,e.symm⟩)
theorem Zek {P:Program} {H H':AHeap} {ρ:Operand→Value} {o:Oper} (hk:ZaS o.op=.alloc) {V:Value} (e:Zao P H ρ o=some (.val V H')):∃ obj r,AObj.view obj=some r∧(∀ j,r.st j≤r.g)∧H'=H.push obj:=by
 have hnc:∀ c,o.op≠.call c:=by
  intro c hc;rw [hc] at hk;rcases ZfH c with h | h<;>rw [h] at hk<;>cases hk
 unfold Zao at e
 split at e
 · rename_i c hc;exact absurd hc (hnc c)
 · rename_i ho;rw [ho] at hk;cases hk
 · rename_i ho;rw [ho] at hk;cases hk
 · rename_i ho;rw [ho] at hk;cases hk
 · unfold ZaG at e
   split at e
   case isFalse=>simp at e
   cases hop:o.op
   all_goals rw [hop] at hk
   all_goals (first | (simp [ZaS] at hk;done) | (exact absurd hop (hnc _)) | skip)
   all_goals simp only [hop] at e
   all_goals (repeat' split at e)<;>first | contradiction | (simp at e;done) | (simp at e;exact ⟨_,_,rfl,fun j=>by first | exact Nat.le_refl _ | exact Zbt _ _ _ | simp,e.2.symm⟩)
theorem Zgd {P:Program} {H H':AHeap} {ρ:Operand→Value} {o:Oper} (hk:ZaS o.op=.alloc):Zao P H ρ o≠some (.skip H'):=by
 intro e;obtain ⟨_,_,h⟩:=Zhk hk e;simp at h
theorem Zfv {P:Program} {H H':AHeap} {ρ:Operand→Value} {o:Oper} {f:FuncId} {args:List Value} (hk:ZaS o.op=.alloc):Zao P H ρ o≠some (.enter f args H'):=by
 intro e;obtain ⟨_,_,h⟩:=Zhk hk e;simp at h
end
section
open Go
def Zuz (acc:List Nat) (o:Oper):Nat :=
 o.after.toList.foldl (fun s e=>if Region.binds .any e then s ||| 2 ^ e.on ||| acc.getD e.on 0 else s) 0
def ZxI:List Oper→List Nat→List Nat
 | [],acc=>acc
 | o::r,acc=>ZxI r (acc++[Zuz acc o])
def Zbf (ops:List Oper):List Nat:=ZxI ops []
def bit (B:List Nat) (j i:Nat):Bool:=(B.getD j 0).testBit i
def ZBc:Operand→Option Nat
 | .tmp t=>some t
 | _=>none
def ZhB (ops:List Oper) (o:Oper):List Nat :=
 o.dst.toList++o.op.operands.toList.filterMap ZBc++(match o.guard with
  | some (g,_)=>match ops[g]? with
   | some og=>og.dst.toList
   | none=>[]
  | none=>[])
def conf (ops:List Oper) (x y:Oper):Bool :=
 (match x.dst with | some d=>(ZhB ops y).contains d | none=>false)||(match y.dst with | some d=>(ZhB ops x).contains d | none=>false)
def ZaM (o:Oper):Bool:=ZaS o.op == .effect
def Zcl (ops:List Oper) (i:Nat):Bool:=match ops[i]? with
 | some o=>ZaM o
 | none=>false
def ZmR (ops:List Oper) (B:List Nat) (i j:Nat):Bool :=
 match ops[i]?,ops[j]? with
 | some x,some y=>(!(conf ops x y)||bit B j i||bit B i j)&&(!(ZaM x&&ZaM y)||bit B j i||bit B i j)
 | _,_=>true
def ZpJ (ops:List Oper) (B:List Nat) (done:List Nat):List Nat→Bool
 | []=>true
 | j::rest=>!(done.contains j)&&(List.range ops.length).all (fun i=>!(bit B j i)||done.contains i)&&(Zcl ops j||done.all (fun e=>!(Zcl ops e)||bit B j e)) &&
    ZpJ ops B (done++[j]) rest
def Zcn (ops:List Oper) (B:List Nat) (plan:List Nat):Bool :=
 (List.range ops.length).all (fun j=>(List.range j).all fun i=>ZmR ops B i j)&&ZpJ ops B [] plan&&plan.length == ops.length&&(List.range ops.length).all (fun i=>plan.contains i) &&
 plan.all (fun i=>decide (i<ops.length))
def Ztm (ops:List Oper) (B:List Nat):Nat→List Nat→List Nat→List Nat
 | 0,_,done=>done
 | k+1,left,done =>
  let ready:=left.filter fun j=>(List.range ops.length).all fun i=>!(bit B j i)||done.contains i
  match ready.filter fun j=>!(Zcl ops j) with
  | j::_=>Ztm ops B k (left.filter (· != j)) (done++[j])
  | []=>match ready with
   | j::_=>Ztm ops B k (left.filter (· != j)) (done++[j])
   | []=>done
def Zbo (ops:List Oper):List Nat:=Ztm ops (Zbf ops) ops.length (List.range ops.length) []
structure Tr where
 j:Nat
 o:Oper
 tm:List Value
 H:AHeap
 v:Value
 H':AHeap
 w:Bool
def Zfs (t:Tr):Option (List Tr×AHeap×AExit×St)→Option (List Tr×AHeap×AExit×St)
 | some (T,r)=>some (t::T,r)
 | none=>none
def ZaB (P:Program) (call:CallT) (ops:List Oper) (dfs:List ADef):List Nat→List Value→AHeap→Option (List Tr×AHeap×AExit×St)
 | [],tm,H=>some ([],H,.normal,⟨tm,dfs,H⟩)
 | j::rest,tm,H=>match ops[j]? with
  | none=>none
  | some o=>if Zat ops tm o then
      match Zao P H (aev tm) o with
      | some (.val v H')=>Zfs ⟨j,o,tm,H,v,H',true⟩ (ZaB P call ops dfs rest (ZbX o.dst v tm) H')
      | some (.skip H')=>Zfs ⟨j,o,tm,H,undef,H',true⟩ (ZaB P call ops dfs rest (ZbX o.dst undef tm) H')
      | some (.enter f args H1)=>match call f args H1 with
       | some (.ret v,H')=>Zfs ⟨j,o,tm,H,v,H',true⟩ (ZaB P call ops dfs rest (ZbX o.dst v tm) H')
       | some (.panic v,H')=>some ([],H,.panic v,⟨[],dfs,H'⟩)
       | none=>none
      | some (.panic v H1)=>some ([],H,.panic v,⟨[],dfs,H1⟩)
      | _=>none
   else Zfs ⟨j,o,tm,H,undef,H,false⟩ (ZaB P call ops dfs rest (ZbX o.dst undef tm) H)
def same (P:Program) (t:Tr) (H:AHeap):Prop :=
 match ZaS t.o.op with
 | .read=>Zao P H (aev t.tm) t.o=some (.val t.v H)
 | .alloc=>H.get t.H.next=t.H'.get t.H.next
 | _=>True
def ZaC (P:Program) (B:List Nat) (t:Tr):List Tr→AHeap→Prop
 | [],He=>same P t He
 | u::us,He=>if ZaM u.o then same P t u.H∧(bit B u.j t.j=true∨ZaC P B t us He) else ZaC P B t us He
def Zbz (P:Program) (B:List Nat):List Tr→AHeap→Prop
 | [],_=>True
 | t::ts,He=>(t.w=true→ZaM t.o=false→ZaC P B t ts He)∧Zbz P B ts He
def ZcV (ops:List Oper):Bool:=ops.all fun o=>o.after.toList.all fun e=>!(Region.binds .any e)||decide (e.on<ops.length)
def ZkV (ops:List Oper) (i:Nat):Bool:=match ops[i]? with
 | some o=>ZaS o.op == .pure
 | none=>false
def Zfe (ops:List Oper) (B:List Nat):List Nat→Bool
 | []=>true
 | j::rest=>(Zcl ops j||ZkV ops j||(rest.all fun u=>!(Zcl ops u)||bit B u j))&&Zfe ops B rest
def Zaj (l:List Oper) (a b:Nat):List Oper:=match l[a]? with
 | some o=>l.set a { o with after:=o.after.push ⟨b,.data⟩ }
 | none=>l
def ZiL (o:Oper):Bool:=match o.op,o.guard,o.dst with
 | .store _ _ _,none,none=>true
 | _,_,_=>false
def storeAt (l:List Oper) (i:Nat):Bool:=match l[i]? with
 | some o=>ZiL o
 | none=>false
def Zpp (l:List Oper):Option (Nat×Nat):=match ((List.range l.length).filter (Zcl l)).reverse with
 | f::e::_=>if (storeAt l e&&storeAt l f&&!(bit (Zbf l) f e||bit (Zbf l) e f)&&Nat.blt e f)=true then some (e,f) else none
 | _=>none
def endsIn (p:List Nat) (e f:Nat):Option (List Nat):=match p.reverse with
 | b::a::r=>if a=e∧b=f then some r.reverse else none
 | _=>none
def Zd4 (l:List Oper) (e f:Nat):Bool:=match endsIn (Zbo (Zaj l f e)) e f with
 | some p=>ZcV (Zaj l f e)&&ZcV (Zaj l e f)&&Zcn (Zaj l f e) (Zbf (Zaj l f e)) (p++[e,f])&&Zcn (Zaj l e f) (Zbf (Zaj l e f)) (p++[f,e]) &&
     p.all (fun j=>ZkV l j||Zcl l j||bit (Zbf (Zaj l e f)) f j)&&p.all (fun u=>p.all fun t=>bit (Zbf (Zaj l f e)) u t == bit (Zbf (Zaj l e f)) u t)&&storeAt l e&&storeAt l f&&!(Nat.beq e f)
 | none=>false
def ZCt (t:Tr):Option Nat:=match t.o.op with
 | .store _ x _=>match aev t.tm x with
  | .pointer (some a)=>some a.block
  | _=>none
 | _=>none
def Zqn (T:List Tr):Prop:=∃ T' te tf b c,T=T'++[te,tf]∧te.w=true∧tf.w=true∧ZCt te=some b∧ZCt tf=some c∧b≠c
open Classical in
noncomputable def ZeG (P:Program) (call:CallT) (ops:List Oper) (s:St) (e f:Nat):Option (AExit×St) :=
 match ZaB P call (Zaj ops f e) s.dfs (Zbo (Zaj ops f e)) s.tmps s.H with
 | some (T,He,x,s')=>if Zd4 ops e f=true∧Zbz P (Zbf (Zaj ops f e)) T He∧(x=.normal→Zqn T) then some (x,s') else none
 | none=>none
open Classical in
noncomputable def Zdj (P:Program) (call:CallT) (ops:List Oper) (s:St):Option (AExit×St) :=
 match ZaB P call ops s.dfs (Zbo ops) s.tmps s.H with
 | some (T,He,x,s')=>if ZcV ops=true∧Zcn ops (Zbf ops) (Zbo ops)=true∧(Zfe ops (Zbf ops) (Zbo ops)=true∨Zbz P (Zbf ops) T He) then some (x,s') else none
 | none=>none
noncomputable def ZbK (P:Program) (call:CallT) (ops:List Oper) (s:St):Option (AExit×St):=match Zpp ops with
 | none=>Zdj P call ops s
 | some (e,f)=>ZeG P call ops s e f
theorem Zoe {l:List Oper} {p:List Nat} (h:Zcn l (Zbf l) p=true):Zpp l=none:=by
 unfold Zpp
 split
 case h_2=>rfl
 rename_i f e r hr
 rw [if_neg]
 intro hc
 simp only [Bool.and_eq_true,Bool.not_eq_true',Bool.or_eq_false_iff] at hc
 obtain ⟨⟨⟨h1,h2⟩,h3,h5⟩,h4⟩:=hc
 have hlt:e<f:=by simpa using h4
 have hm:∀ x,x∈f::e::r→x<l.length∧Zcl l x=true:=by
  intro x hx
  rw [←hr,List.mem_reverse,List.mem_filter,List.mem_range] at hx
  exact hx
 obtain ⟨hf1,hf2⟩:=hm f (by simp)
 obtain ⟨he1,he2⟩:=hm e (by simp)
 unfold Zcn at h
 simp only [Bool.and_eq_true] at h
 have hp:=h.1.1.1.1
 have a:=List.all_eq_true.1 hp f (by simpa using hf1)
 have b:=List.all_eq_true.1 a e (by simpa using hlt)
 unfold ZmR at b
 unfold Zcl at hf2 he2
 cases hx:l[e]? with
 | none=>rw [hx] at he2;cases he2
 | some x =>
  cases hy:l[f]? with
  | none=>rw [hy] at hf2;cases hf2
  | some y =>
   rw [hx] at he2 b
   rw [hy] at hf2 b
   simp only [he2,hf2,Bool.and_self,Bool.not_true,Bool.false_or,Bool.and_eq_true,Bool.or_eq_true] at b
   rcases b.2 with b | b
   · rw [b] at h3;cases h3
   · rw [b] at h5;cases h5
theorem Zka {P:Program} {call:CallT} {l:List Oper} {p:List Nat} {s:St} (h:Zcn l (Zbf l) p=true):ZbK P call l s=Zdj P call l s:=by
 unfold ZbK;rw [Zoe h]
theorem Zuy (acc:List Nat) (o:Oper) (i:Nat) (h:(Zuz acc o).testBit i=true):∃ e∈o.after.toList,Region.binds .any e=true∧(e.on=i∨(acc.getD e.on 0).testBit i=true):=by
 have key:∀ (l:List Edge) (s:Nat),(l.foldl (fun s e=>if Region.binds .any e then s ||| 2 ^ e.on ||| acc.getD e.on 0 else s) s).testBit i=true →
     s.testBit i=true∨∃ e∈l,Region.binds .any e=true∧(e.on=i∨(acc.getD e.on 0).testBit i=true):=by
  intro l
  induction l with
  | nil=>intro s h;exact .inl h
  | cons e l ih =>
   intro s h
   simp only [List.foldl_cons] at h
   rcases ih _ h with h1 | ⟨e',he',h2⟩
   · split at h1
     · rename_i hb
       rw [Nat.testBit_or,Nat.testBit_or,Bool.or_eq_true,Bool.or_eq_true,Nat.testBit_two_pow] at h1
       rcases h1 with (h1 | h1) | h1
       · exact .inl h1
       · exact .inr ⟨e,by simp,hb,.inl (by simpa using h1)⟩
       · exact .inr ⟨e,by simp,hb,.inr h1⟩
     · exact .inl h1
   · exact .inr ⟨e',by simp [he'],h2⟩
 rcases key _ _ h with h1 | h1
 · simp at h1
 · exact h1
theorem ZnS (ops:List Oper):∀ (acc:List Nat) (j:Nat),j<acc.length→(ZxI ops acc).getD j 0=acc.getD j 0:=by
 induction ops with
 | nil=>intro acc j _;rfl
 | cons o r ih =>
  intro acc j hj
  unfold ZxI
  rw [ih _ _ (by simp;omega)]
  simp only [List.getD_eq_getElem?_getD]
  rw [List.getElem?_append_left hj]
theorem ZuY (ops:List Oper):∀ (acc:List Nat) (k:Nat) (o:Oper),ops[k]?=some o→∃ acc',acc'.length=acc.length+k∧(∀ j,j<acc.length+k→(ZxI ops acc).getD j 0=acc'.getD j 0) ∧
    (ZxI ops acc).getD (acc.length+k) 0=Zuz acc' o:=by
 induction ops with
 | nil=>intro acc k o h;simp at h
 | cons x r ih =>
  intro acc k o h
  cases k with
  | zero =>
   simp at h;subst h
   refine ⟨acc,rfl,fun j hj=>?_,?_⟩
   · exact ZnS _ _ _ (by simpa using hj)
   · unfold ZxI
     rw [Nat.add_zero,ZnS _ _ _ (by simp)]
     simp [List.getD_eq_getElem?_getD]
  | succ k =>
   obtain ⟨acc',h1,h2,h3⟩:=ih (acc++[Zuz acc x]) k o (by simpa using h)
   simp only [List.length_append,List.length_singleton] at h1 h2 h3
   refine ⟨acc',by omega,fun j hj=>h2 j (by omega),?_⟩
   unfold ZxI
   rw [show acc.length+(k+1)=acc.length+1+k by omega]
   exact h3
theorem Zmf {ops:List Oper} {j:Nat} {o:Oper} (ho:ops[j]?=some o) {i:Nat} (h:bit (Zbf ops) j i=true) :
    ∃ e∈o.after.toList,Region.binds .any e=true∧(e.on=i∨(e.on<j∧bit (Zbf ops) e.on i=true)):=by
 obtain ⟨acc',h1,h2,h3⟩:=ZuY ops [] j o ho
 simp only [List.length_nil,Nat.zero_add] at h1 h2 h3
 unfold bit Zbf at h
 rw [h3] at h
 obtain ⟨e,he,hb,hh⟩:=Zuy _ _ _ h
 refine ⟨e,he,hb,?_⟩
 rcases hh with hh | hh
 · exact .inl hh
 · rcases Nat.lt_or_ge e.on j with hl | hl
   · refine .inr ⟨hl,?_⟩
     unfold bit Zbf
     rw [h2 _ hl];exact hh
   · rw [List.getD_eq_getElem?_getD,List.getElem?_eq_none (by omega)] at hh
     simp at hh
theorem Zwb (acc:List Nat) (o:Oper) {e:Edge} (he:e∈o.after.toList) (hb:Region.binds .any e=true):(Zuz acc o).testBit e.on=true:=by
 have keep:∀ (l:List Edge) (s:Nat),s.testBit e.on=true→(l.foldl (fun s e=>if Region.binds .any e then s ||| 2 ^ e.on ||| acc.getD e.on 0 else s) s).testBit e.on=true:=by
  intro l
  induction l with
  | nil=>intro s h;exact h
  | cons x l ih =>
   intro s h
   simp only [List.foldl_cons]
   refine ih _ ?_
   split
   · rw [Nat.testBit_or,Nat.testBit_or,h];simp
   · exact h
 have key:∀ (l:List Edge) (s:Nat),e∈l→(l.foldl (fun s e=>if Region.binds .any e then s ||| 2 ^ e.on ||| acc.getD e.on 0 else s) s).testBit e.on=true:=by
  intro l
  induction l with
  | nil=>intro s h;simp at h
  | cons x l ih =>
   intro s h
   simp only [List.foldl_cons]
   rcases List.mem_cons.1 h with rfl | h
   · refine keep _ _ ?_
     rw [if_pos hb,Nat.testBit_or,Nat.testBit_or,Nat.testBit_two_pow];simp
   · exact ih _ h
 exact key _ _ he
theorem Zrv {ops:List Oper} {j:Nat} {o:Oper} (ho:ops[j]?=some o) {e:Edge} (he:e∈o.after.toList) (hb:Region.binds .any e=true):bit (Zbf ops) j e.on=true:=by
 obtain ⟨acc',h1,h2,h3⟩:=ZuY ops [] j o ho
 simp only [List.length_nil,Nat.zero_add] at h1 h2 h3
 unfold bit Zbf
 rw [h3]
 exact Zwb _ _ he hb
def Zc9 (ops:List Oper) (D:Nat→Bool):Prop:=∀ (j:Nat) (o:Oper),D j=true→ops[j]?=some o→∀ e∈o.after.toList,Region.binds .any e=true→D e.on=true
theorem Zeh {ops:List Oper} {D:Nat→Bool} (hD:Zc9 ops D) {i:Nat}:∀ (n j:Nat),j≤n→D j=true→bit (Zbf ops) j i=true→j<ops.length→D i=true:=by
 intro n
 induction n with
 | zero =>
  intro j hj hd hb hl
  obtain ⟨e,he,hbb,hh⟩:=Zmf (List.getElem?_eq_getElem hl) hb
  have:=hD _ _ hd (List.getElem?_eq_getElem hl) e he hbb
  rcases hh with rfl | ⟨h,_⟩
  · exact this
  · omega
 | succ n ih =>
  intro j hj hd hb hl
  obtain ⟨e,he,hbb,hh⟩:=Zmf (List.getElem?_eq_getElem hl) hb
  have:=hD _ _ hd (List.getElem?_eq_getElem hl) e he hbb
  rcases hh with rfl | ⟨h,h2⟩
  · exact this
  · exact ih e.on (by omega) this h2 (by omega)
theorem Zjq {ops:List Oper} {D:Nat→Bool} (hD:Zc9 ops D) {i j:Nat} {o:Oper} (ho:ops[j]?=some o) (hr:∀ e∈o.after.toList,Region.binds .any e=true→D e.on=true) (hb:bit (Zbf ops) j i=true):D i=true:=by
 obtain ⟨e,he,hbb,hh⟩:=Zmf ho hb
 have:=hr e he hbb
 rcases hh with rfl | ⟨h,h2⟩
 · exact this
 · exact Zeh hD _ _ (Nat.le_refl _) this h2 (by have:=(List.getElem?_eq_some_iff.1 ho).1;omega)
def tmD (D:Nat→Bool):List Tr→List Value→List Value
 | [],tm=>tm
 | t::ts,tm=>tmD D ts (if D t.j then ZbX t.o.dst t.v tm else tm)
theorem ZpI (dst:Option Nat) (v:Value) (tm:List Value) (x:Nat):(ZbX dst v tm)[x]?=if dst=some x then (if x<tm.length then some v else none) else tm[x]?:=by
 unfold ZbX
 cases dst with
 | none=>simp
 | some d =>
  simp only [Option.some.injEq,List.getElem?_set]
  split
  · rename_i e;subst e;rfl
  · rfl
theorem Zor (dst:Option Nat) (v:Value) (tm:List Value):(ZbX dst v tm).length=tm.length:=by
 unfold ZbX;cases dst<;>simp
theorem Zdo (D:Nat→Bool):∀ (T1 T2:List Tr) (tm:List Value),tmD D (T1++T2) tm=tmD D T2 (tmD D T1 tm)
 | [],_,_=>rfl
 | t::T1,T2,tm=>by simp only [List.cons_append,tmD];exact Zdo D T1 T2 _
theorem ZiC {D1 D2:Nat→Bool} {x:Nat}:∀ (T:List Tr) (tm1 tm2:List Value),tm1.length=tm2.length→tm1[x]?=tm2[x]?→(∀ t∈T,t.o.dst=some x→D1 t.j=D2 t.j)→(tmD D1 T tm1)[x]?=(tmD D2 T tm2)[x]?
 | [],_,_,_,h,_=>h
 | t::T,tm1,tm2,hl,h,hh=>by
  simp only [tmD]
  refine ZiC T _ _ ?_ ?_ (fun u hu=>hh u (by simp [hu]))
  · by_cases h1:D1 t.j<;>by_cases h2:D2 t.j<;>simp [h1,h2,Zor,hl]
  · by_cases hd:t.o.dst=some x
    · rw [hh t (by simp) hd]
      by_cases h2:D2 t.j
      · simp only [h2,if_true,ZpI,hd,hl]
      · simp only [h2,Bool.false_eq_true,if_false,h]
    · by_cases h1:D1 t.j<;>by_cases h2:D2 t.j<;>simp [h1,h2,ZpI,hd,h]
theorem Zsp {D:Nat→Bool} {dst:Option Nat} {v:Value}:∀ (T:List Tr) (tm:List Value),(∀ u∈T,D u.j=true→∀ d,dst=some d→u.o.dst≠some d)→tmD D T (ZbX dst v tm)=ZbX dst v (tmD D T tm)
 | [],_,_=>rfl
 | t::T,tm,h=>by
  simp only [tmD]
  rw [←Zsp T _ (fun u hu=>h u (by simp [hu]))]
  congr 1
  split
  · rename_i hd
    have:=h t (by simp) hd
    unfold ZbX
    cases hdst:dst with
    | none=>rfl
    | some d =>
     cases htd:t.o.dst with
     | none=>rfl
     | some e =>
      simp only
      rw [List.set_comm]
      intro e0;subst e0
      exact this d hdst htd
  · rfl
theorem Ze1 {D1 D2:Nat→Bool}:∀ (T:List Tr) (tm:List Value),(∀ t∈T,D1 t.j=D2 t.j)→tmD D1 T tm=tmD D2 T tm
 | [],_,_=>rfl
 | t::T,tm,h=>by
  simp only [tmD]
  rw [h t (by simp)]
  exact Ze1 T _ fun u hu=>h u (by simp [hu])
def ZaX (D:Nat→Bool):List Tr→AHeap→AHeap
 | [],He=>He
 | t::ts,He=>if ZaM t.o&&!(D t.j) then t.H else ZaX D ts He
theorem Zie {D1 D2:Nat→Bool} {He:AHeap}:∀ (T:List Tr),(∀ t∈T,ZaM t.o=true→D1 t.j=D2 t.j)→ZaX D1 T He=ZaX D2 T He
 | [],_=>rfl
 | t::T,h=>by
  simp only [ZaX]
  rw [Zie T fun u hu=>h u (by simp [hu])]
  by_cases he:ZaM t.o=true
  · rw [h t (by simp) he]
  · simp [he]
theorem Zcq {D:Nat→Bool} {He:AHeap}:∀ (T1 T2:List Tr),(∀ t∈T1,ZaM t.o=true→D t.j=true)→ZaX D (T1++T2) He=ZaX D T2 He
 | [],_,_=>rfl
 | t::T1,T2,h=>by
  simp only [List.cons_append,ZaX]
  rw [Zcq T1 T2 fun u hu=>h u (by simp [hu])]
  by_cases he:ZaM t.o=true
  · simp [h t (by simp) he]
  · simp [he]
end
section
open Go
theorem ZmN {ops:List Oper} {B:List Nat}:∀ (plan done:List Nat),ZpJ ops B done plan=true→∀ (P1:List Nat) (j:Nat) (P2:List Nat),plan=P1++j::P2 →
    j∉done++P1∧(∀ i,i<ops.length→bit B j i=true→i∈done++P1)∧(Zcl ops j=false→∀ e∈done++P1,Zcl ops e=true→bit B j e=true)
 | [],_,_,P1,j,P2,e=>by simp at e
 | x::plan,done,h,P1,j,P2,e=>by
  unfold ZpJ at h
  simp only [Bool.and_eq_true] at h
  obtain ⟨⟨⟨h1,h2⟩,h3⟩,h4⟩:=h
  cases P1 with
  | nil =>
   simp only [List.nil_append,List.cons.injEq] at e
   obtain ⟨rfl,rfl⟩:=e
   simp only [List.append_nil]
   refine ⟨by simpa using h1,fun i hi hb=>?_,fun he e' he' hef=>?_⟩
   · have:=List.all_eq_true.1 h2 i (by simpa using hi)
     simp only [hb,Bool.not_true,Bool.false_or,List.contains_iff_mem] at this
     exact this
   · rw [he] at h3
     simp only [Bool.false_or] at h3
     have:=List.all_eq_true.1 h3 e' he'
     simpa [hef] using this
  | cons y P1 =>
   simp only [List.cons_append,List.cons.injEq] at e
   obtain ⟨rfl,rfl⟩:=e
   have:=ZmN _ _ h4 P1 j P2 rfl
   simpa [List.append_assoc] using this
structure StaticOK (ops:List Oper) (B:List Nat) (plan:List Nat):Prop where
 conf:∀ (i j:Nat) (x y:Oper),i<j→ops[i]?=some x→ops[j]?=some y→conf ops x y=true→bit B j i=true∨bit B i j=true
 eff:∀ (i j:Nat) (x y:Oper),i<j→ops[i]?=some x→ops[j]?=some y→ZaM x=true→ZaM y=true→bit B j i=true∨bit B i j=true
 nd:∀ (P1:List Nat) (j:Nat) (P2:List Nat),plan=P1++j::P2→j∉P1
 ahead:∀ (P1:List Nat) (j:Nat) (P2:List Nat),plan=P1++j::P2→∀ i,i<ops.length→bit B j i=true→i∈P1
 eager:∀ (P1:List Nat) (j:Nat) (P2:List Nat),plan=P1++j::P2→Zcl ops j=false→∀ e∈P1,Zcl ops e=true→bit B j e=true
 all:∀ i,i<ops.length→i∈plan
 len:plan.length=ops.length
 lt:∀ i∈plan,i<ops.length
theorem StaticOK.of {ops:List Oper} {B:List Nat} {plan:List Nat} (h:Zcn ops B plan=true):StaticOK ops B plan:=by
 unfold Zcn at h
 simp only [Bool.and_eq_true] at h
 obtain ⟨⟨⟨⟨h1,h2⟩,h3⟩,h4⟩,h5⟩:=h
 have pr:∀ (i j:Nat) (x y:Oper),i<j→ops[i]?=some x→ops[j]?=some y→ZmR ops B i j=true:=by
  intro i j x y hij hx hy
  have hj:j<ops.length:=(List.getElem?_eq_some_iff.1 hy).1
  have a:=List.all_eq_true.1 h1 j (by simpa using hj)
  exact List.all_eq_true.1 a i (by simpa using hij)
 have at_:=ZmN plan [] h2
 simp only [List.nil_append] at at_
 refine ⟨?_,?_,fun P1 j P2 e=>(at_ P1 j P2 e).1,fun P1 j P2 e=>(at_ P1 j P2 e).2.1,fun P1 j P2 e=>(at_ P1 j P2 e).2.2,?_,by simpa using h3,?_⟩
 · intro i j x y hij hx hy hc
   have:=pr i j x y hij hx hy
   unfold ZmR at this
   rw [hx,hy] at this
   simp only [hc,Bool.not_true,Bool.false_or,Bool.and_eq_true,Bool.or_eq_true] at this
   exact this.1
 · intro i j x y hij hx hy h6 h7
   have:=pr i j x y hij hx hy
   unfold ZmR at this
   rw [hx,hy] at this
   simp only [h6,h7,Bool.and_self,Bool.not_true,Bool.false_or,Bool.and_eq_true,Bool.or_eq_true] at this
   exact this.2
 · intro i hi
   have:=List.all_eq_true.1 h4 i (by simpa using hi)
   simpa using this
 · intro i hi
   have:=List.all_eq_true.1 h5 i hi
   simpa using this
theorem StaticOK.conf2 {ops:List Oper} {B:List Nat} {plan:List Nat} (h:StaticOK ops B plan) {i j:Nat} {x y:Oper} (hij:i≠j) (hx:ops[i]?=some x) (hy:ops[j]?=some y) (hc:Go.Proofs.YtmocfnfnhgognaaGreat.B.conf ops x y=true):bit B j i=true∨bit B i j=true:=by
 rcases Nat.lt_or_ge i j with hl | hl
 · exact h.conf i j x y hl hx hy hc
 · have hs:Go.Proofs.YtmocfnfnhgognaaGreat.B.conf ops y x=true:=by rw [←hc];unfold Go.Proofs.YtmocfnfnhgognaaGreat.B.conf;exact Bool.or_comm _ _
   exact (h.conf j i y x (by omega) hy hx hs).symm
theorem StaticOK.eff2 {ops:List Oper} {B:List Nat} {plan:List Nat} (h:StaticOK ops B plan) {i j:Nat} {x y:Oper} (hij:i≠j) (hx:ops[i]?=some x) (hy:ops[j]?=some y) (h1:ZaM x=true) (h2:ZaM y=true):bit B j i=true∨bit B i j=true:=by
 rcases Nat.lt_or_ge i j with hl | hl
 · exact h.eff i j x y hl hx hy h1 h2
 · exact (h.eff j i y x (by omega) hy hx h2 h1).symm
structure Good (P:Program) (call:CallT) (ops:List Oper) (t:Tr):Prop where
 op:ops[t.j]?=some t.o
 yes:t.w=true→Zat ops t.tm t.o=true∧(Zao P t.H (aev t.tm) t.o=some (.val t.v t.H')∨(Zao P t.H (aev t.tm) t.o=some (.skip t.H')∧t.v=undef) ∨
  ∃ f args H1,Zao P t.H (aev t.tm) t.o=some (.enter f args H1)∧call f args H1=some (.ret t.v,t.H'))
 no:t.w=false→Zat ops t.tm t.o=false∧t.v=undef∧t.H'=t.H
def Chain (P:Program) (call:CallT) (ops:List Oper):List Tr→List Value→AHeap→List Value→AHeap→Prop
 | [],tm,H,tmE,He=>tmE=tm∧He=H
 | t::ts,tm,H,tmE,He=>t.tm=tm∧t.H=H∧Good P call ops t∧Chain P call ops ts (ZbX t.o.dst t.v tm) t.H' tmE He
structure PanicsAt (P:Program) (call:CallT) (ops:List Oper) (j:Nat) (tm:List Value) (H:AHeap) (v:Value) (H':AHeap):Prop where
 ex:∃ o,ops[j]?=some o∧Zat ops tm o=true∧((∃ f args H1,Zao P H (aev tm) o=some (.enter f args H1)∧call f args H1=some (.panic v,H'))∨Zao P H (aev tm) o=some (.panic v H'))
theorem ZdO {P:Program} {call:CallT} {ops:List Oper} {dfs:List ADef}:∀ (plan:List Nat) (tm:List Value) (H:AHeap) (T:List Tr) (He:AHeap) (x:AExit) (s':St),
    ZaB P call ops dfs plan tm H=some (T,He,x,s')→∃ tmE rest,plan=T.map (·.j)++rest∧Chain P call ops T tm H tmE He ∧
     ((rest=[]∧x=.normal∧s'=⟨tmE,dfs,He⟩)∨∃ j rest' v H',rest=j::rest'∧x=.panic v∧s'=⟨[],dfs,H'⟩∧PanicsAt P call ops j tmE He v H')
 | [],tm,H,T,He,x,s',h=>by
  simp only [ZaB,Option.some.injEq,Prod.mk.injEq] at h
  obtain ⟨rfl,rfl,rfl,rfl⟩:=h
  exact ⟨tm,[],rfl,⟨rfl,rfl⟩,.inl ⟨rfl,rfl,rfl⟩⟩
 | j::rest,tm,H,T,He,x,s',h=>by
  unfold ZaB at h
  split at h
  · simp at h
  · rename_i o ho
    have step:∀ (v:Value) (H':AHeap) (ww:Bool),Good P call ops ⟨j,o,tm,H,v,H',ww⟩→Zfs ⟨j,o,tm,H,v,H',ww⟩ (ZaB P call ops dfs rest (ZbX o.dst v tm) H')=some (T,He,x,s') →
        ∃ tmE rest',j::rest=T.map (·.j)++rest'∧Chain P call ops T tm H tmE He ∧
    ((rest'=[]∧x=.normal∧s'=⟨tmE,dfs,He⟩)∨∃ j rest'' v H',rest'=j::rest''∧x=.panic v∧s'=⟨[],dfs,H'⟩∧PanicsAt P call ops j tmE He v H'):=by
     intro v H' ww hg hc
     cases hr:ZaB P call ops dfs rest (ZbX o.dst v tm) H' with
     | none=>rw [hr] at hc;simp [Zfs] at hc
     | some q =>
      obtain ⟨T',He',x',s''⟩:=q
      rw [hr] at hc
      simp only [Zfs,Option.some.injEq,Prod.mk.injEq] at hc
      obtain ⟨rfl,rfl,rfl,rfl⟩:=hc
      obtain ⟨tmE,rest',h1,h2,h3⟩:=ZdO rest _ _ _ _ _ _ hr
      exact ⟨tmE,rest',by simp [h1],⟨rfl,rfl,hg,h2⟩,h3⟩
    split at h
    · rename_i hw
      split at h
      · rename_i v H' he
        exact step v H' true ⟨ho,fun _=>⟨hw,.inl he⟩,fun e=>by simp at e⟩ h
      · rename_i H' he
        exact step undef H' true ⟨ho,fun _=>⟨hw,.inr (.inl ⟨he,rfl⟩)⟩,fun e=>by simp at e⟩ h
      · rename_i f args H1 he
        split at h
        · rename_i v H' hc
          exact step v H' true ⟨ho,fun _=>⟨hw,.inr (.inr ⟨f,args,H1,he,hc⟩)⟩,fun e=>by simp at e⟩ h
        · rename_i v H' hc
          simp only [Option.some.injEq,Prod.mk.injEq] at h
          obtain ⟨rfl,rfl,rfl,rfl⟩:=h
          exact ⟨tm,j::rest,rfl,⟨rfl,rfl⟩,.inr ⟨j,rest,v,H',rfl,rfl,rfl,⟨o,ho,hw,.inl ⟨f,args,H1,he,hc⟩⟩⟩⟩
        · simp at h
      · rename_i v H1 he
        simp only [Option.some.injEq,Prod.mk.injEq] at h
        obtain ⟨rfl,rfl,rfl,rfl⟩:=h
        exact ⟨tm,j::rest,rfl,⟨rfl,rfl⟩,.inr ⟨j,rest,v,H1,rfl,rfl,rfl,⟨o,ho,hw,.inr he⟩⟩⟩
      · simp at h
    · rename_i hw
      exact step undef H false ⟨ho,fun e=>by simp at e,fun _=>⟨by simpa using hw,rfl,rfl⟩⟩ h
theorem Chain.split {P:Program} {call:CallT} {ops:List Oper}:∀ (T1:List Tr) {T2:List Tr} {tm:List Value} {H:AHeap} {tmE:List Value} {He:AHeap},Chain P call ops (T1++T2) tm H tmE He →
    ∃ tm1 H1,Chain P call ops T1 tm H tm1 H1∧Chain P call ops T2 tm1 H1 tmE He
 | [],T2,tm,H,tmE,He,h=>⟨tm,H,⟨rfl,rfl⟩,h⟩
 | t::T1,T2,tm,H,tmE,He,h=>by
  obtain ⟨h1,h2,h3,h4⟩:=h
  obtain ⟨tm1,H1,h5,h6⟩:=Chain.split T1 h4
  exact ⟨tm1,H1,⟨h1,h2,h3,h5⟩,h6⟩
theorem Chain.tm {P:Program} {call:CallT} {ops:List Oper}:∀ (T:List Tr) {tm:List Value} {H:AHeap} {tmE:List Value} {He:AHeap},Chain P call ops T tm H tmE He→tmE=tmD (fun _=>true) T tm
 | [],_,_,_,_,h=>h.1
 | t::T,tm,H,tmE,He,h=>by
  obtain ⟨_,_,_,h4⟩:=h
  simp only [tmD,if_true]
  exact Chain.tm T h4
theorem Good.next {P:Program} {call:CallT} (hcall:Zbn P call) {ops:List Oper} {t:Tr} (h:Good P call ops t):AHeap.le t.H t.H':=by
 cases hw:t.w with
 | false=>rw [(h.no hw).2.2];exact AHeap.le_refl _
 | true =>
  rcases (h.yes hw).2 with e | ⟨e,_⟩ | ⟨f,args,H1,e,hc⟩
  · exact Za3 e
  · exact Za3 e
  · exact AHeap.le_trans (Za3 e) (hcall _ _ _ _ _ hc).1
theorem Chain.next {P:Program} {call:CallT} (hcall:Zbn P call) {ops:List Oper}:∀ (T:List Tr) {tm:List Value} {H:AHeap} {tmE:List Value} {He:AHeap},Chain P call ops T tm H tmE He→AHeap.le H He∧∀ t∈T,AHeap.le H t.H
 | [],_,_,_,_,h=>⟨by rw [h.2];exact AHeap.le_refl _,by simp⟩
 | t::T,tm,H,tmE,He,h=>by
  obtain ⟨_,h2,h3,h4⟩:=h
  have h5:=h3.next hcall
  obtain ⟨h6,h7⟩:=Chain.next hcall T h4
  subst h2
  refine ⟨AHeap.le_trans h5 h6,fun u hu=>?_⟩
  rcases List.mem_cons.1 hu with rfl | hu
  · exact AHeap.le_refl _
  · exact AHeap.le_trans h5 (h7 u hu)
theorem Good.quiet {P:Program} {call:CallT} {ops:List Oper} {t:Tr} (h:Good P call ops t) (hw:t.w=true) (hq:ZaM t.o=false) :
    (ZaS t.o.op=.pure∧t.H'=t.H∧∀ H2,Zao P H2 (aev t.tm) t.o=some (.val t.v H2))∨(ZaS t.o.op=.read∧t.H'=t.H∧Zao P t.H (aev t.tm) t.o=some (.val t.v t.H)) ∨
    (ZaS t.o.op=.alloc∧Zao P t.H (aev t.tm) t.o=some (.val t.v t.H')):=by
 have hk:ZaS t.o.op=.pure∨ZaS t.o.op=.read∨ZaS t.o.op=.alloc:=by
  unfold ZaM at hq
  cases hk:ZaS t.o.op<;>simp_all
 rcases hk with hk | hk | hk
 · left
   rcases (h.yes hw).2 with e | ⟨e,_⟩ | ⟨f,args,H1,e,_⟩
   · obtain ⟨v,h1,h2⟩:=Zev hk e
     simp only [ARes.val.injEq] at h1
     obtain ⟨h1,h3⟩:=h1
     exact ⟨hk,h3,fun H2=>by rw [h1];exact h2 H2⟩
   · obtain ⟨v,h1,_⟩:=Zev hk e;simp at h1
   · obtain ⟨v,h1,_⟩:=Zev hk e;simp at h1
 · right;left
   rcases (h.yes hw).2 with e | ⟨e,_⟩ | ⟨f,args,H1,e,_⟩
   · obtain ⟨v,h1⟩:=Zeu hk e
     simp only [ARes.val.injEq] at h1
     obtain ⟨h1,h3⟩:=h1
     exact ⟨hk,h3,by rw [h3] at e;exact e⟩
   · obtain ⟨v,h1⟩:=Zeu hk e;simp at h1
   · obtain ⟨v,h1⟩:=Zeu hk e;simp at h1
 · right;right
   rcases (h.yes hw).2 with e | ⟨e,_⟩ | ⟨f,args,H1,e,_⟩
   · exact ⟨hk,e⟩
   · exact absurd e (Zgd hk)
   · exact absurd e (Zfv hk)
end
section
open Go
theorem Ze0:∀ (T:List Tr) (tm:List Value),tmD (fun _=>false) T tm=tm
 | [],_=>rfl
 | t::T,tm=>by simp only [tmD,Bool.false_eq_true,if_false];exact Ze0 T tm
theorem Zpn {D:Nat→Bool}:∀ (T:List Tr) (tm:List Value),(∀ t∈T,D t.j=false)→tmD D T tm=tm
 | T,tm,h=>(Ze1 T tm (D2:=fun _=>false) h).trans (Ze0 T tm)
structure DCtx (P:Program) (call:CallT) (ops:List Oper) (s:St) (T:List Tr) (tmE:List Value) (He:AHeap) (rest:List Nat):Prop where
 hcall:Zbn P call
 st:StaticOK ops (Zbf ops) (T.map (·.j)++rest)
 ch:Chain P call ops T s.tmps s.H tmE He
 rd:Zbz P (Zbf ops) T He
structure Inv (P:Program) (N0:Fz) (ops:List Oper) (s:St) (T:List Tr) (He:AHeap) (β0:Emb) (w0:World) (D:Nat→Bool) (γ:Emb) (a:Act) (w:World):Prop where
 closed:Zc9 ops D
 inT:∀ j,D j=true→j∈T.map (·.j)
 tm:VRels γ (tmD D T s.tmps) a.tmps.toList
 dfs:DRels P N0 γ w s.dfs a.defers
 heap:HRel P N0 γ (ZaX D T He) w
 le:Emb.le β0 γ
 fr:Fr N0 w0 w
 resv:∀ t∈T,ZaS t.o.op=.alloc→t.w=true→D t.j=false→γ.live t.H.next=false
theorem ZuE (ops:List Oper) (x y:Oper):conf ops x y=conf ops y x:=by unfold conf;exact Bool.or_comm _ _
section
variable {P:Program} {N0:Fz} {call:CallT} {ops:List Oper} {s:St} {T:List Tr} {tmE:List Value} {He:AHeap} {rest:List Nat}
theorem Chain.good:∀ (T:List Tr) {tm:List Value} {H:AHeap} {tmE:List Value} {He:AHeap},Chain P call ops T tm H tmE He→∀ t∈T,Good P call ops t
 | [],_,_,_,_,_,t,ht=>by simp at ht
 | u::T,tm,H,tmE,He,h,t,ht=>by
  obtain ⟨_,_,h3,h4⟩:=h
  rcases List.mem_cons.1 ht with rfl | ht
  · exact h3
  · exact Chain.good T h4 t ht
theorem ZhK (hc:DCtx P call ops s T tmE He rest) {D:Nat→Bool} (hD:Zc9 ops D) {j:Nat} {o:Oper} (ho:ops[j]?=some o) (hr:∀ e∈o.after.toList,Region.binds .any e=true→D e.on=true)
    {A C:List Nat} (hp:T.map (·.j)++rest=A++j::C):∀ e∈A,Zcl ops e=true→D e=true:=by
 intro e he hef
 refine Zjq hD ho hr ?_
 cases hj:Zcl ops j with
 | false=>exact hc.st.eager A j C hp hj e he hef
 | true =>
  unfold Zcl at hef hj
  rw [ho] at hj
  cases hoe:ops[e]? with
  | none=>rw [hoe] at hef;simp at hef
  | some oe =>
   rw [hoe] at hef
   have hne:e≠j:=fun heq=>by subst heq;exact absurd he (hc.st.nd A e C hp)
   rcases hc.st.eff2 hne hoe ho hef hj with hb | hb
   · exact hb
   · obtain ⟨A1,A2,rfl⟩:=List.append_of_mem he
     have:=hc.st.ahead A1 e (A2++j::C) (by rw [hp];simp) j (List.getElem?_eq_some_iff.1 ho).1 hb
     exact absurd (List.mem_append_left _ this) (hc.st.nd _ j C hp)
theorem ZzF (hc:DCtx P call ops s T tmE He rest) {D:Nat→Bool} (hD:Zc9 ops D) (hin:∀ j,D j=true→j∈T.map (·.j)) (hpan:∀ j' r',rest=j'::r'→Zcl ops j'=true)
    {j:Nat} {o:Oper} (ho:ops[j]?=some o) (hr:∀ e∈o.after.toList,Region.binds .any e=true→D e.on=true) :
    (∃ T1 t T2,T=T1++t::T2∧t.j=j∧t.o=o∧∀ u∈T1,ZaM u.o=true→D u.j=true)∨((∃ r',rest=j::r')∧∀ u∈T,ZaM u.o=true→D u.j=true):=by
 have hmem:=hc.st.all j (List.getElem?_eq_some_iff.1 ho).1
 have effs:∀ (L:List Tr),(∀ u∈L,u∈T)→∀ u∈L,ZaM u.o=true→Zcl ops u.j=true:=by
  intro L hL u hu he
  unfold Zcl
  rw [(hc.ch.good T u (hL u hu)).op];exact he
 rcases List.mem_append.1 hmem with h | h
 · left
   obtain ⟨t,ht,rfl⟩:=List.mem_map.1 h
   obtain ⟨T1,T2,rfl⟩:=List.append_of_mem ht
   refine ⟨T1,t,T2,rfl,rfl,?_,?_⟩
   · have:=(hc.ch.good _ t ht).op
     rw [ho] at this;simpa using this.symm
   · intro u hu he
     exact ZhK hc hD ho hr (A:=T1.map (·.j)) (C:=T2.map (·.j)++rest) (by simp) u.j (List.mem_map.2 ⟨u,hu,rfl⟩) (effs T1 (fun v hv=>by simp [hv]) u hu he)
 · right
   cases hrest:rest with
   | nil=>rw [hrest] at h;simp at h
   | cons j' r' =>
    have hj':=hpan j' r' hrest
    have heq:j=j':=by
     rw [hrest] at h
     rcases List.mem_cons.1 h with h | h
     · exact h
     · obtain ⟨r1,r2,rfl⟩:=List.append_of_mem h
       have hdone:=ZhK hc hD ho hr (A:=T.map (·.j)++j'::r1) (C:=r2) (by rw [hrest];simp) j' (by simp) hj'
       have:=hin j' hdone
       exact absurd this (hc.st.nd (T.map (·.j)) j' (r1++j::r2) (by rw [hrest]))
    subst heq
    refine ⟨⟨r',rfl⟩,fun u hu he=>?_⟩
    exact ZhK hc hD ho hr (A:=T.map (·.j)) (C:=r') (by rw [hrest]) u.j (List.mem_map.2 ⟨u,hu,rfl⟩) (effs T (fun v hv=>hv) u hu he)
theorem ZoD (hc:DCtx P call ops s T tmE He rest) {D:Nat→Bool} (hD:Zc9 ops D) {T1 T2:List Tr} {t:Tr} (hT:T=T1++t::T2) (hnd:D t.j=false) (he:ZaM t.o=true):∀ u∈T2,D u.j=false:=by
 intro u hu
 cases hdu:D u.j with
 | false=>rfl
 | true =>
  obtain ⟨A1,A2,rfl⟩:=List.append_of_mem hu
  subst hT
  have gt:=(hc.ch.good _ t (by simp)).op
  have gu:=(hc.ch.good _ u (by simp)).op
  have hp:(T1++t::(A1++u::A2)).map (·.j)++rest=(T1++t::A1).map (·.j)++u.j::(A2.map (·.j)++rest):=by simp
  have heft:Zcl ops t.j=true:=by unfold Zcl;rw [gt];exact he
  have hb:bit (Zbf ops) u.j t.j=true:=by
   cases hu2:Zcl ops u.j with
   | false=>exact hc.st.eager _ _ _ hp hu2 t.j (by simp) heft
   | true =>
    unfold Zcl at hu2;rw [gu] at hu2
    have hne:t.j≠u.j:=fun heq=>absurd (by rw [←heq];simp) (hc.st.nd _ _ _ hp)
    rcases hc.st.eff2 hne gt gu he hu2 with hb | hb
    · exact hb
    · have:=hc.st.ahead (T1.map (·.j)) t.j ((A1++u::A2).map (·.j)++rest) (by simp) u.j (List.getElem?_eq_some_iff.1 gu).1 hb
      exact absurd (by simp only [List.map_append,List.mem_append];exact .inl this) (hc.st.nd _ _ _ hp)
  have:=Zeh hD _ _ (Nat.le_refl _) hdu hb (List.getElem?_eq_some_iff.1 gu).1
  rw [hnd] at this;simp at this
theorem Zht (hc:DCtx P call ops s T tmE He rest) {T1 T2:List Tr} {t u:Tr} (hT:T=T1++t::T2) (hcf:conf ops u.o t.o=true) :
    (u∈T1→bit (Zbf ops) t.j u.j=true)∧(u∈T2→bit (Zbf ops) u.j t.j=true):=by
 subst hT
 have gt:=(hc.ch.good _ t (by simp)).op
 constructor
 · intro hu
   obtain ⟨A1,A2,rfl⟩:=List.append_of_mem hu
   have gu:=(hc.ch.good _ u (by simp)).op
   have hp:((A1++u::A2)++t::T2).map (·.j)++rest=(A1++u::A2).map (·.j)++t.j::(T2.map (·.j)++rest):=by simp
   have hne:u.j≠t.j:=fun heq=>absurd (by rw [←heq];simp) (hc.st.nd _ _ _ hp)
   rcases hc.st.conf2 hne gu gt hcf with hb | hb
   · exact hb
   · have:=hc.st.ahead (A1.map (·.j)) u.j (A2.map (·.j)++t.j::(T2.map (·.j)++rest)) (by simp) t.j (List.getElem?_eq_some_iff.1 gt).1 hb
     exact absurd (by simp only [List.map_append,List.mem_append];exact .inl this) (hc.st.nd _ _ _ hp)
 · intro hu
   obtain ⟨A1,A2,rfl⟩:=List.append_of_mem hu
   have gu:=(hc.ch.good _ u (by simp)).op
   have hp:(T1++t::(A1++u::A2)).map (·.j)++rest=(T1++t::A1).map (·.j)++u.j::(A2.map (·.j)++rest):=by simp
   have hne:t.j≠u.j:=fun heq=>absurd (by rw [←heq];simp) (hc.st.nd _ _ _ hp)
   rcases hc.st.conf2 hne gt gu (by rw [ZuE];exact hcf) with hb | hb
   · exact hb
   · have:=hc.st.ahead (T1.map (·.j)) t.j ((A1++u::A2).map (·.j)++rest) (by simp) u.j (List.getElem?_eq_some_iff.1 gu).1 hb
     exact absurd (by simp only [List.map_append,List.mem_append];exact .inl this) (hc.st.nd _ _ _ hp)
theorem Zgx {u t:Tr} {x:Nat} (hd:u.o.dst=some x) (hx:x∈ZhB ops t.o):conf ops u.o t.o=true:=by
 unfold conf
 rw [hd]
 simp [hx]
theorem ZsG (hc:DCtx P call ops s T tmE He rest) {D:Nat→Bool} (hD:Zc9 ops D) {T1 T2:List Tr} {t:Tr} (hT:T=T1++t::T2) (hnd:D t.j=false)
    (hr:∀ e∈t.o.after.toList,Region.binds .any e=true→D e.on=true) {x:Nat} (hx:x∈ZhB ops t.o):(tmD D T s.tmps)[x]?=t.tm[x]?:=by
 have gt:=(hc.ch.good T t (by rw [hT];simp)).op
 have h1:∀ u∈T1,u.o.dst=some x→D u.j=true:=fun u hu hd=>Zjq hD gt hr ((Zht hc hT (Zgx hd hx)).1 hu)
 have h2:∀ u∈t::T2,u.o.dst=some x→D u.j=false:=by
  intro u hu hd
  rcases List.mem_cons.1 hu with rfl | hu
  · exact hnd
  · have hb:=(Zht hc hT (Zgx hd hx)).2 hu
    cases hdu:D u.j with
    | false=>rfl
    | true =>
     have gu:=(hc.ch.good T u (by rw [hT];simp [hu])).op
     have:=Zeh hD _ _ (Nat.le_refl _) hdu hb (List.getElem?_eq_some_iff.1 gu).1
     rw [hnd] at this;simp at this
 have ht:t.tm=tmD (fun _=>true) T1 s.tmps:=by
  have hch:=hc.ch
  rw [hT] at hch
  obtain ⟨tm1,H1,h3,h4⟩:=Chain.split T1 hch
  rw [←Chain.tm T1 h3]
  exact h4.1
 rw [ht,hT,Zdo]
 rw [ZiC (t::T2) (D1:=D) (D2:=fun _=>false) _ (tmD D T1 s.tmps) rfl rfl h2,Ze0]
 exact ZiC T1 _ _ rfl rfl h1
theorem ZCC (hc:DCtx P call ops s T tmE He rest) {D:Nat→Bool} (hD:Zc9 ops D) {T1 T2:List Tr} {t:Tr} (hT:T=T1++t::T2) (hnd:D t.j=false)
    (hr:∀ e∈t.o.after.toList,Region.binds .any e=true→D e.on=true):∀ x∈t.o.op.operands,aev (tmD D T s.tmps) x=aev t.tm x:=by
 intro x hx
 cases x with
 | tmp i =>
  simp only [aev,List.getD_eq_getElem?_getD]
  rw [ZsG hc hD hT hnd hr]
  unfold ZhB
  simp only [List.mem_append,List.mem_filterMap]
  exact .inl (.inr ⟨.tmp i,by simpa using hx,rfl⟩)
 | _=>rfl
theorem ZrQ (hc:DCtx P call ops s T tmE He rest) {D:Nat→Bool} (hD:Zc9 ops D) {T1 T2:List Tr} {t:Tr} (hT:T=T1++t::T2) (hnd:D t.j=false)
    (hr:∀ e∈t.o.after.toList,Region.binds .any e=true→D e.on=true):Zat ops (tmD D T s.tmps) t.o=Zat ops t.tm t.o:=by
 unfold Zat
 cases hg:t.o.guard with
 | none=>rfl
 | some p =>
  obtain ⟨g,want⟩:=p
  dsimp only
  have:ZcL ops (tmD D T s.tmps) g=ZcL ops t.tm g:=by
   unfold ZcL
   cases hog:ops[g]? with
   | none=>rfl
   | some og =>
    dsimp only
    cases hdg:og.dst with
    | none=>rfl
    | some d =>
     dsimp only
     rw [ZsG hc hD hT hnd hr]
     unfold ZhB
     rw [hg]
     simp [hog,hdg]
  rw [this]
def Zf2 (D:Nat→Bool) (j:Nat):Nat→Bool:=fun i=>i == j||D i
theorem Zvk (hc:DCtx P call ops s T tmE He rest) {D:Nat→Bool} (hD:Zc9 ops D) {T1 T2:List Tr} {t:Tr} (hT:T=T1++t::T2) (hnd:D t.j=false) :
    tmD (Zf2 D t.j) T s.tmps=ZbX t.o.dst t.v (tmD D T s.tmps):=by
 have hne:∀ u,(u∈T1∨u∈T2)→u.j≠t.j:=by
  subst hT
  intro u hu e
  rcases hu with hu | hu
  · exact hc.st.nd (T1.map (·.j)) t.j (T2.map (·.j)++rest) (by simp) (by rw [←e];exact List.mem_map.2 ⟨u,hu,rfl⟩)
  · obtain ⟨A1,A2,rfl⟩:=List.append_of_mem hu
    exact hc.st.nd ((T1++t::A1).map (·.j)) u.j (A2.map (·.j)++rest) (by simp) (by rw [e];simp)
 have h2:∀ u∈T2,Zf2 D t.j u.j=true→∀ d,t.o.dst=some d→u.o.dst≠some d:=by
  intro u hu hdu d hd hud
  have hdu':D u.j=true:=by
   unfold Zf2 at hdu
   simp only [Bool.or_eq_true,beq_iff_eq] at hdu
   exact hdu.resolve_left (hne u (.inr hu))
  have hcf:conf ops u.o t.o=true:=Zgx hud (by unfold ZhB;rw [hd];simp)
  have hb:=(Zht hc hT hcf).2 hu
  have gu:=(hc.ch.good T u (by rw [hT];simp [hu])).op
  have:=Zeh hD _ _ (Nat.le_refl _) hdu' hb (List.getElem?_eq_some_iff.1 gu).1
  rw [hnd] at this;simp at this
 have e1:∀ L:List Tr,(∀ u∈L,u∈T1∨u∈T2)→∀ tm,tmD (Zf2 D t.j) L tm=tmD D L tm:=by
  intro L hL tm
  refine Ze1 L tm fun u hu=>?_
  unfold Zf2
  have:=hne u (hL u hu)
  simp [this]
 rw [hT,Zdo,Zdo,e1 T1 (fun u hu=>.inl hu)]
 simp only [tmD]
 rw [show Zf2 D t.j t.j=true by simp [Zf2],hnd]
 simp only [if_true,Bool.false_eq_true,if_false]
 rw [Zsp T2 _ h2,e1 T2 (fun u hu=>.inr hu)]
theorem ZgC (hcall:Zbn P call) {D:Nat→Bool} {w:World}:∀ (ts:List Tr) {tm:List Value} {H:AHeap} {γ:Emb},Chain P call ops ts tm H tmE He→(∀ t∈ts,D t.j=false)→HRel P N0 γ H w →
    ∃ γ',Emb.le γ γ'∧HRel P N0 γ' (ZaX D ts He) w∧∀ i,γ'.live i=γ.live i
 | [],tm,H,γ,hch,_,h=>by
  obtain ⟨_,rfl⟩:=hch
  exact ⟨γ,Emb.le.refl _,h,fun _=>rfl⟩
 | t::ts,tm,H,γ,hch,hD,h=>by
  obtain ⟨h1,h2,h3,h4⟩:=hch
  subst h2
  cases he:ZaM t.o with
  | true =>
   refine ⟨γ,Emb.le.refl _,?_,fun _=>rfl⟩
   simp only [ZaX,he,hD t (by simp),Bool.not_false,Bool.and_self,if_true]
   exact h
  | false =>
   have hh:ZaX D (t::ts) He=ZaX D ts He:=by simp [ZaX,he]
   rw [hh]
   have hDt:∀ u∈ts,D u.j=false:=fun u hu=>hD u (by simp [hu])
   cases hw:t.w with
   | false =>
    rw [(h3.no hw).2.2] at h4
    exact ZgC hcall ts h4 hDt h
   | true =>
    rcases h3.quiet hw he with ⟨_,e,_⟩ | ⟨_,e,_⟩ | ⟨hk,e⟩
    · rw [e] at h4;exact ZgC hcall ts h4 hDt h
    · rw [e] at h4;exact ZgC hcall ts h4 hDt h
    · obtain ⟨obj,r,hov,hst,hpush⟩:=Zek hk e
      rw [hpush] at h4
      obtain ⟨le1,hr1,hnl⟩:=h.pushRes hov hst
      obtain ⟨γ',le2,hr2,hl2⟩:=ZgC hcall ts h4 hDt hr1
      exact ⟨γ',le1.trans le2,hr2,fun i=>hl2 i⟩
end
end
section
open Go
theorem Zjd {P:Program} {B:List Nat} {t:Tr} {He:AHeap} {D:Nat→Bool}:∀ (ts:List Tr),ZaC P B t ts He→(∀ u∈ts,bit B u.j t.j=true→D u.j=false)→same P t (ZaX D ts He)
 | [],h,_=>h
 | u::us,h,hD=>by
  unfold ZaC at h
  unfold ZaX
  cases he:ZaM u.o with
  | false =>
   rw [he] at h
   simp only [Bool.false_eq_true,if_false] at h
   simp only [Bool.false_and,Bool.false_eq_true,if_false]
   exact Zjd us h fun v hv=>hD v (by simp [hv])
  | true =>
   rw [he] at h
   simp only [if_true] at h
   cases hd:D u.j with
   | false=>simp only [Bool.not_false,Bool.and_self,if_true];exact h.1
   | true =>
    simp only [Bool.not_true,Bool.and_false,Bool.false_eq_true,if_false]
    rcases h.2 with hb | hs
    · have:=hD u (by simp) hb;rw [hd] at this;simp at this
    · exact Zjd us hs fun v hv=>hD v (by simp [hv])
theorem ZkT {P:Program} {B:List Nat} {He:AHeap}:∀ {T1 T2:List Tr} {t:Tr},Zbz P B (T1++t::T2) He→t.w=true→ZaM t.o=false→ZaC P B t T2 He
 | [],T2,t,h,hw,he=>h.1 hw he
 | u::T1,T2,t,h,hw,he=>ZkT h.2 hw he
theorem ZqW {P:Program} {call:CallT} {ops:List Oper} {j:Nat} {tm:List Value} {H:AHeap} {v:Value} {H':AHeap} (h:PanicsAt P call ops j tm H v H'):Zcl ops j=true:=by
 obtain ⟨o,ho,_,hh⟩:=h.ex
 unfold Zcl
 rw [ho]
 show ZaM o=true
 unfold ZaM
 have key:∀ r,Zao P H (aev tm) o=some r→(∀ V HH,r≠.val V HH)→(ZaS o.op == OKind.effect)=true:=by
  intro r hr hn
  cases hk:ZaS o.op with
  | pure=>obtain ⟨V,h1,_⟩:=Zev hk hr;exact absurd h1 (hn _ _)
  | read=>obtain ⟨V,h1⟩:=Zeu hk hr;exact absurd h1 (hn _ _)
  | alloc=>obtain ⟨V,HH,h1⟩:=Zhk hk hr;exact absurd h1 (hn _ _)
  | effect=>rfl
 rcases hh with ⟨f,args,H1,he,_⟩ | he
 · exact key _ he (by intro V HH e;simp at e)
 · exact key _ he (by intro V HH e;simp at e)
theorem Zhc {P:Program} {H:AHeap} {ρ:Operand→Value} {o:Oper} {c:Call} (hcc:o.op=.defer c):Zao P H ρ o=none:=by
 unfold Zao
 simp only [hcc]
 unfold ZaG
 simp only [hcc]
 split<;>rfl
section
variable {P:Program} {N0:Fz} {call:CallT} {ops:List Oper} {s:St} {T:List Tr} {tmE:List Value} {He:AHeap} {rest:List Nat}
theorem Zvr (hc:DCtx P call ops s T tmE He rest) {D:Nat→Bool} (hD:Zc9 ops D) {j:Nat} {r':List Nat} (hrest:rest=j::r') {o:Oper} (ho:ops[j]?=some o)
    (hr:∀ e∈o.after.toList,Region.binds .any e=true→D e.on=true) {x:Nat} (hx:x∈ZhB ops o):(tmD D T s.tmps)[x]?=tmE[x]?:=by
 rw [Chain.tm T hc.ch]
 refine ZiC T _ _ rfl rfl fun u hu hd=>?_
 have gu:=(hc.ch.good T u hu).op
 have hcf:Go.Proofs.YtmocfnfnhgognaaGreat.B.conf ops u.o o=true:=by
  unfold Go.Proofs.YtmocfnfnhgognaaGreat.B.conf
  rw [hd]
  simp [hx]
 obtain ⟨A1,A2,hT⟩:=List.append_of_mem hu
 have hne:u.j≠j:=fun heq=>absurd (by rw [←heq];exact List.mem_map.2 ⟨u,hu,rfl⟩) (hc.st.nd (T.map (·.j)) j r' (by rw [hrest]))
 rcases hc.st.conf2 hne gu ho hcf with hb | hb
 · exact Zjq hD ho hr hb
 · have:=hc.st.ahead (A1.map (·.j)) u.j (A2.map (·.j)++rest) (by rw [hT];simp) j (List.getElem?_eq_some_iff.1 ho).1 hb
   exact absurd (by rw [hT];simp only [List.map_append,List.mem_append];exact .inl this) (hc.st.nd (T.map (·.j)) j r' (by rw [hrest]))
theorem ZAp {t1 t2:List Value} {o:Oper} (h:∀ x∈ZhB ops o,t1[x]?=t2[x]?):∀ x∈o.op.operands,aev t1 x=aev t2 x:=by
 intro x hx
 cases x with
 | tmp i =>
  simp only [aev,List.getD_eq_getElem?_getD]
  rw [h i]
  unfold ZhB
  simp only [List.mem_append,List.mem_filterMap]
  exact .inl (.inr ⟨.tmp i,by simpa using hx,rfl⟩)
 | _=>rfl
theorem Zqy {t1 t2:List Value} {o:Oper} (h:∀ x∈ZhB ops o,t1[x]?=t2[x]?):Zat ops t1 o=Zat ops t2 o:=by
 unfold Zat
 cases hg:o.guard with
 | none=>rfl
 | some p =>
  obtain ⟨g,want⟩:=p
  dsimp only
  have:ZcL ops t1 g=ZcL ops t2 g:=by
   unfold ZcL
   cases hog:ops[g]? with
   | none=>rfl
   | some og =>
    dsimp only
    cases hdg:og.dst with
    | none=>rfl
    | some d =>
     dsimp only
     rw [h d]
     unfold ZhB
     rw [hg]
     simp [hog,hdg]
  rw [this]
end
section
variable {P:Program} {N0:Fz} {call:CallT} {ops:Array Oper} {s:St} {T:List Tr} {tmE:List Value} {He:AHeap} {rest:List Nat}
theorem ZjI (hcall:Zbn P call) {T1 T2:List Tr} {u t:Tr} {tm:List Value} {H:AHeap} {l:List Oper} (hch:Chain P call l (T1++t::T2) tm H tmE He) (hu:u∈T1) (hk:ZaS u.o.op=.alloc) (hw:u.w=true):u.H.next<t.H.next:=by
 obtain ⟨A1,A2,rfl⟩:=List.append_of_mem hu
 rw [List.append_assoc] at hch
 obtain ⟨tm1,H1,_,h2⟩:=Chain.split A1 hch
 obtain ⟨_,h3,h4,h5⟩:=h2
 have he:ZaM u.o=false:=by unfold ZaM;rw [hk];rfl
 rcases h4.quiet hw he with ⟨h,_⟩ | ⟨h,_⟩ | ⟨_,e⟩
 · rw [hk] at h;cases h
 · rw [hk] at h;cases h
 · obtain ⟨obj,r,_,_,hp⟩:=Zek hk e
   have hn:u.H'.next=u.H.next+1:=by rw [hp];rfl
   have:=((Chain.next hcall _ h5).2 t (by simp)).next
   omega
theorem ZjH (hcall:Zbn P call) {T1 T2:List Tr} {u t:Tr} {tm:List Value} {H:AHeap} {l:List Oper} (hch:Chain P call l (T1++t::T2) tm H tmE He) (hu:u∈T2):t.H'.next≤u.H.next:=by
 obtain ⟨tm1,H1,_,h2⟩:=Chain.split T1 hch
 obtain ⟨_,_,_,h5⟩:=h2
 exact ((Chain.next hcall _ h5).2 u hu).next
theorem Inv.more (hc:DCtx P call ops.toList s T tmE He rest) {β0:Emb} {w0:World} {D:Nat→Bool} {γ:Emb} {a:Act} {w:World} (hI:Inv P N0 ops.toList s T He β0 w0 D γ a w) {T1 T2:List Tr} {t:Tr} (hT:T=T1++t::T2)
    (hnd:D t.j=false) (hr:∀ e∈t.o.after.toList,Region.binds .any e=true→D e.on=true) {γ':Emb} {w':World} {v':Value} (leU:Emb.leU γ γ') (le0:Emb.le β0 γ') (hfr:Fr N0 w w') (hv:VRel γ' t.v v')
    (hheap:HRel P N0 γ' (ZaX (Zf2 D t.j) T He) w') (hres:∀ u∈T,ZaS u.o.op=.alloc→u.w=true→Zf2 D t.j u.j=false→γ'.live u.H.next=false) :
    Inv P N0 ops.toList s T He β0 w0 (Zf2 D t.j) γ' (a.put t.o.dst v') w':=by
 have gt:=(hc.ch.good T t (by rw [hT];simp)).op
 refine ⟨?_,?_,?_,?_,hheap,le0,hI.fr.trans hfr,hres⟩
 · intro j o hj ho e he hb
   unfold Zf2 at hj ⊢
   simp only [Bool.or_eq_true,beq_iff_eq] at hj ⊢
   rcases hj with rfl | hj
   · rw [gt] at ho;obtain rfl:=(by simpa using ho:t.o=o)
     exact .inr (hr e he hb)
   · exact .inr (hI.closed j o hj ho e he hb)
 · intro j hj
   unfold Zf2 at hj
   simp only [Bool.or_eq_true,beq_iff_eq] at hj
   rcases hj with rfl | hj
   · rw [hT];simp
   · exact hI.inT j hj
 · rw [Zvk hc hI.closed hT hnd]
   exact ZcY (VRels.monoU leU hI.tm) _ hv
 · rw [ZbW];exact hI.dfs.monoU leU hfr
theorem Zfm (hc:DCtx P call ops.toList s T tmE He rest) {D:Nat→Bool} {t:Tr} (ht:t∈T) (he:ZaM t.o=false):ZaX (Zf2 D t.j) T He=ZaX D T He:=by
 refine Zie T fun u hu heu=>?_
 unfold Zf2
 have:u.j≠t.j:=by
  intro e
  have g1:=(hc.ch.good T u hu).op
  have g2:=(hc.ch.good T t ht).op
  rw [e,g2] at g1
  obtain e2:=(by simpa using g1:t.o=u.o)
  rw [←e2,he] at heu;simp at heu
 simp [this]
theorem ZnW (hc:DCtx P call ops.toList s T tmE He rest) {D:Nat→Bool} (hD:Zc9 ops.toList D) {T1 T2:List Tr} {t:Tr} (hT:T=T1++t::T2) (hnd:D t.j=false) (he:ZaM t.o=true)
    (hb:∀ u∈T1,ZaM u.o=true→D u.j=true) {γ:Emb} {w:World} (h:HRel P N0 γ t.H' w):∃ γ',Emb.le γ γ'∧HRel P N0 γ' (ZaX (Zf2 D t.j) T He) w∧∀ i,γ'.live i=γ.live i:=by
 have hne:∀ u∈T2,u.j≠t.j:=by
  intro u hu e
  obtain ⟨A1,A2,rfl⟩:=List.append_of_mem hu
  exact hc.st.nd ((T1++t::A1).map (·.j)) u.j (A2.map (·.j)++rest) (by rw [hT];simp) (by rw [e];simp)
 have h2:∀ u∈T2,Zf2 D t.j u.j=false:=by
  intro u hu
  unfold Zf2
  simp [hne u hu,ZoD hc hD hT hnd he u hu]
 have e1:ZaX (Zf2 D t.j) T He=ZaX (Zf2 D t.j) T2 He:=by
  rw [hT,Zcq T1 (t::T2) (fun u hu heu=>by unfold Zf2;simp [hb u hu heu])]
  simp [ZaX,Zf2]
 rw [e1]
 have hch:=hc.ch
 rw [hT] at hch
 obtain ⟨tm1,H1,_,h4⟩:=Chain.split T1 hch
 obtain ⟨_,_,_,h5⟩:=h4
 exact ZgC hc.hcall T2 h5 h2 h
theorem Zyz (hc:DCtx P call ops.toList s T tmE He rest) {β0:Emb} {w0:World} {D:Nat→Bool} {γ γ':Emb} {a:Act} {w w':World} (hI:Inv P N0 ops.toList s T He β0 w0 D γ a w) {T1 T2:List Tr} {t:Tr} (hT:T=T1++t::T2)
    (he:ZaM t.o=true) (hH:ZaX D T He=t.H) (le:Emb.le γ γ') (h:HRel P N0 γ' t.H' w'):∀ u∈T,ZaS u.o.op=.alloc→u.w=true→Zf2 D t.j u.j=false→γ'.live u.H.next=false:=by
 intro u hu hk hw hd
 have hd':D u.j=false:=by unfold Zf2 at hd;simp only [Bool.or_eq_false_iff] at hd;exact hd.2
 have h0:=hI.resv u hu hk hw hd'
 cases hl:γ'.live u.H.next with
 | false=>rfl
 | true =>
  have h1:=h.live _ hl
  have h2:t.H.next≤u.H.next:=by
   rcases le.new _ hl with e | e
   · rw [h0] at e;simp at e
   · rw [hI.heap.nx,hH] at e;exact e
  have hch:=hc.ch
  rw [hT] at hch hu
  rcases List.mem_append.1 hu with hu | hu
  · have:=ZjI hc.hcall hch hu hk hw;omega
  · rcases List.mem_cons.1 hu with rfl | hu
    · unfold ZaM at he;rw [hk] at he;simp at he
    · have:=ZjH hc.hcall hch hu;omega
set_option maxHeartbeats 1000000 in
theorem Zj9 (hc:DCtx P call ops.toList s T tmE He rest) {β0:Emb} {w0:World} (hnx:β0.nx=s.H.next) {D:Nat→Bool} {γ:Emb} {a:Act} {w:World} (hI:Inv P N0 ops.toList s T He β0 w0 D γ a w)
    {x:AExit} {s':St} (hend:(rest=[]∧x=.normal∧s'=⟨tmE,s.dfs,He⟩)∨∃ j rest' v H',rest=j::rest'∧x=.panic v∧s'=⟨[],s.dfs,H'⟩∧PanicsAt P call ops.toList j tmE He v H')
    {ro:Option Nat} {n:Nat} {Q:Exit→Act→World→Prop} (hQ:∀ e a' w',OutRel P N0 β0 w0 x s' e a' w'→Q e a' w')
    {j:Nat} {o:Oper} (ho:ops[j]?=some o) (hnd:D j=false) (hr:∀ e∈o.after.toList,Region.binds .any e=true→D e.on=true) {K:Act→World→Prop}
    (hK:∀ a' w' γ',Inv P N0 ops.toList s T He β0 w0 (Zf2 D j) γ' a' w'→K a' w'):wpOpIn (WF ro) n P ops Q j K a w:=by
 have ho':ops.toList[j]?=some o:=by rw [Array.getElem?_toList];exact ho
 have hpan:∀ j' r',rest=j'::r'→Zcl ops.toList j'=true:=by
  intro j' r' hrr
  rcases hend with ⟨e,_⟩ | ⟨j2,r2,v,H',e,_,_,hp⟩
  · rw [e] at hrr;simp at hrr
  · rw [e] at hrr
    obtain ⟨rfl,rfl⟩:=(by simpa using hrr:j2=j'∧r2=r')
    exact ZqW hp
 unfold wpOpIn
 rw [ho]
 dsimp only
 rw [Zge hI.tm]
 have hρ:∀ x,Zaa x=true→VRel γ (aev (tmD D T s.tmps) x) (a.eval x):=fun x hx=>ZhS hI.tm hx
 rcases ZzF hc hI.closed hI.inT hpan ho' hr with ⟨T1,t,T2,hT,rfl,rfl,hb⟩ | ⟨⟨r',hrr⟩,hall⟩
 · have htm:t∈T:=by rw [hT];simp
   have hg:=hc.ch.good T t htm
   rw [ZrQ hc hI.closed hT hnd hr]
   have hcg:∀ H,Zao P H (aev (tmD D T s.tmps)) t.o=Zao P H (aev t.tm) t.o:=fun H=>Zhd (ZCC hc hI.closed hT hnd hr)
   have hHeff:ZaM t.o=true→ZaX D T He=t.H:=by
    intro he
    rw [hT,Zcq T1 (t::T2) hb]
    simp [ZaX,he,hnd]
   have hnext0:β0.nx≤t.H.next:=by rw [hnx];exact ((Chain.next hc.hcall T hc.ch).2 t htm).next
   cases hw:t.w with
   | false =>
    obtain ⟨h1,h2,h3⟩:=hg.no hw
    rw [h1]
    simp only [Bool.false_eq_true,if_false]
    refine ⟨Zfz,?_⟩
    cases he:ZaM t.o with
    | false =>
     refine hK _ _ γ (hI.more hc hT hnd hr (Emb.leU.refl _) hI.le (Fr.refl _ _) (by rw [h2];exact .closed rfl) (by rw [Zfm hc htm he];exact hI.heap) ?_)
     intro u hu hk hw' hd
     exact hI.resv u hu hk hw' (by unfold Zf2 at hd;simp only [Bool.or_eq_false_iff] at hd;exact hd.2)
    | true =>
     have hh:HRel P N0 γ t.H' w:=by rw [h3,←hHeff he];exact hI.heap
     obtain ⟨γ',le,hr',hl⟩:=ZnW hc hI.closed hT hnd he hb hh
     refine hK _ _ γ' (hI.more hc hT hnd hr le.u (hI.le.trans le) (Fr.refl _ _) (by rw [h2];exact .closed rfl) hr' ?_)
     intro u hu hk hw' hd
     rw [hl]
     exact hI.resv u hu hk hw' (by unfold Zf2 at hd;simp only [Bool.or_eq_false_iff] at hd;exact hd.2)
   | true =>
    obtain ⟨h1,h2⟩:=hg.yes hw
    rw [h1]
    simp only [if_true]
    refine ⟨Zfz,?_⟩
    have hnodefer:∀ c,t.o.op≠.defer c:=by
     intro c hcc
     rw [Zhc hcc] at h2
     simp at h2
    have hsem:(t.o.semAt (WF ro).round a.eval)=execOp a.eval t.o:=Oper.semAt_eq _ _ _ hnodefer
    rw [hsem]
    cases he:ZaM t.o with
    | true =>
     have hH:=hHeff he
     have hIh:HRel P N0 γ t.H w:=by rw [←hH];exact hI.heap
     have finish:∀ (γ1:Emb) (w1:World) (v':Value),Emb.le γ γ1→HRel P N0 γ1 t.H' w1→VRel γ1 t.v v'→Fr N0 w w1→K (a.put t.o.dst v') w1:=by
      intro γ1 w1 v' le1 hr1 hv1 hf1
      obtain ⟨γ2,le2,hr2,hl2⟩:=ZnW hc hI.closed hT hnd he hb hr1
      refine hK _ _ γ2 (hI.more hc hT hnd hr (le1.trans le2).u (hI.le.trans (le1.trans le2)) hf1 (hv1.mono le2) hr2 ?_)
      intro u hu hk hw' hd
      rw [hl2]
      exact Zyz hc hI hT he hH le1 hr1 u hu hk hw' hd
     rcases h2 with h2 | ⟨h2,hvu⟩ | ⟨f,args,H1,h2,hcl⟩
     · rw [←hcg] at h2
       obtain ⟨v',w1,γ1,hR,le1,hr1,hv1,hf1⟩:=(Zbe hIh hρ h2).inv_val
       rw [hR]
       exact finish γ1 w1 v' le1 hr1 hv1 hf1
     · rw [←hcg] at h2
       obtain ⟨w1,γ1,hR,le1,hr1,hf1⟩:=(Zbe hIh hρ h2).inv_skip
       rw [hR]
       exact finish γ1 w1 undef le1 hr1 (by rw [hvu];exact .closed rfl) hf1
     · rw [←hcg] at h2
       obtain ⟨nx,w1,γ1,hR,le1,hr1,hv1,hf1⟩:=(Zbe hIh hρ h2).inv_enter
       rw [hR]
       refine ZgD ((hc.hcall _ _ _ _ _ hcl).2 N0 γ1 w1 nx hr1 hv1 ro _) ?_
       intro e' w2 hcr
       obtain ⟨γ2,le2,hr2,he2,hf2⟩:=hcr
       cases e' with
       | returned v'=>exact finish γ2 w2 v' (le1.trans le2) hr2 he2 (hf1.trans hf2)
       | panicked chain=>exact he2.elim
       | outgrown=>exact he2.elim
    | false =>
     have hDt:ZaX D T He=ZaX D T2 He:=by
      rw [hT,Zcq T1 (t::T2) hb]
      simp [ZaX,he]
     have hstab:same P t (ZaX D T He):=by
      rw [hDt]
      refine Zjd T2 (ZkT (by rw [←hT];exact hc.rd) hw he) ?_
      intro u hu hbt
      cases hdu:D u.j with
      | false=>rfl
      | true =>
       have gu:=(hc.ch.good T u (by rw [hT];simp [hu])).op
       have:=Zeh hI.closed _ _ (Nat.le_refl _) hdu hbt (List.getElem?_eq_some_iff.1 gu).1
       rw [hnd] at this;simp at this
     have quiet:Zao P (ZaX D T He) (aev (tmD D T s.tmps)) t.o=some (.val t.v (ZaX D T He))→Oper.uponIn (WF ro) n P t.o a K Q ((execOp a.eval t.o).run P w):=by
      intro hev
      obtain ⟨v',w1,γ1,hR,le1,hr1,hv1,hf1⟩:=(Zbe hI.heap hρ hev).inv_val
      rw [hR]
      refine hK _ _ γ1 (hI.more hc hT hnd hr le1.u (hI.le.trans le1) hf1 hv1 (by rw [Zfm hc htm he];exact hr1) ?_)
      intro u hu hk hw' hd
      have h0:=hI.resv u hu hk hw' (by unfold Zf2 at hd;simp only [Bool.or_eq_false_iff] at hd;exact hd.2)
      cases hl:γ1.live u.H.next with
      | false=>rfl
      | true =>
       have h3:=hr1.live _ hl
       rcases le1.new _ hl with e | e
       · rw [h0] at e;simp at e
       · rw [hI.heap.nx] at e;omega
     rcases hg.quiet hw he with ⟨hk,_,hp⟩ | ⟨hk,_,_⟩ | ⟨hk,hev⟩
     · exact quiet (by rw [hcg];exact hp _)
     · unfold same at hstab
       rw [hk] at hstab
       exact quiet (by rw [hcg];exact hstab)
     · unfold same at hstab
       rw [hk] at hstab
       dsimp only at hstab
       have hev':=hev
       rw [←hcg] at hev'
       obtain ⟨V,H',hVH,har⟩:=Zu3 (w:=w) hρ hk hev'
       simp only [ARes.val.injEq] at hVH
       obtain ⟨rfl,rfl⟩:=hVH
       obtain ⟨obj,r,c,i,V',w1,hov,hro,hgz,hst,hi,hpush,hcs,hrun,hheap,hV⟩:=har.ex
       have hview:(ZaX D T He).view t.H.next=some r:=by
        unfold AHeap.view
        rw [hstab,hpush,AHeap.push_get_new]
        exact hov
       have hnl:=hI.resv t htm hk hw hnd
       obtain ⟨leu,hr1,hf1,hrow,hbs,hbe,hlv,hli,hnx1⟩:=hI.heap.mapRow hview hnl hro hgz hi hcs w1 hheap
       rw [hrun]
       refine hK _ _ _ (hI.more hc hT hnd hr leu ?_ hf1 (hV _ hrow hli hbs hbe) (by rw [Zfm hc htm he];exact hr1) ?_)
       · refine ⟨fun i' k p e=>leu.row _ _ _ (hI.le.row _ _ _ e),fun i' b e=>leu.map _ _ (hI.le.map _ _ e),fun i' b e=>leu.loop _ _ (hI.le.loop _ _ e),
          fun i' k b o' e=>(leu.bsz _ _ _ _ (hI.le.row _ _ _ e)).trans (hI.le.bsz _ _ _ _ e),fun i' k b o' e=>(leu.bes _ _ _ _ (hI.le.row _ _ _ e)).trans (hI.le.bes _ _ _ _ e),
          fun i' e=>leu.live _ (hI.le.live _ e),fun i' e=>?_,by rw [hnx1];exact hI.le.nx⟩
         rcases hlv i' e with e | e
         · exact hI.le.new _ e
         · rw [e];exact .inr hnext0
       · intro u hu hku hw' hd
         unfold Zf2 at hd
         simp only [Bool.or_eq_false_iff] at hd
         have h0:=hI.resv u hu hku hw' hd.2
         cases hl:(γ.addRow t.H.next 0 w.heap.size c.size i.size).live u.H.next with
         | false=>rfl
         | true =>
          rcases hlv _ hl with e | e
          · rw [h0] at e;simp at e
          · have hch:=hc.ch
            rw [hT] at hch hu
            have hn1:t.H'.next=t.H.next+1:=by rw [hpush];rfl
            rcases List.mem_append.1 hu with hu | hu
            · have:=ZjI hc.hcall hch hu hku hw';omega
            · rcases List.mem_cons.1 hu with rfl | hu
              · simp at hd
              · have:=ZjH hc.hcall hch hu;omega
 ·
  rcases hend with ⟨e,_⟩ | ⟨j2,r2,v,H',e,rfl,rfl,hp⟩
  · rw [e] at hrr;simp at hrr
  · rw [e] at hrr
    obtain ⟨rfl,rfl⟩:=(by simpa using hrr:j2=j∧r2=r')
    have hsl:=fun x hx=>Zvr hc hI.closed e ho' hr (x:=x) hx
    obtain ⟨o2,ho2,hw2,hh2⟩:=hp.ex
    rw [ho'] at ho2
    obtain rfl:=(by simpa using ho2:o=o2)
    rw [Zqy hsl,hw2]
    simp only [if_true]
    refine ⟨Zfz,?_⟩
    have hcg:∀ H,Zao P H (aev (tmD D T s.tmps)) o=Zao P H (aev tmE) o:=fun H=>Zhd (ZAp hsl)
    have hnodefer:∀ c,o.op≠.defer c:=by
     intro c hcc
     rw [Zhc hcc] at hh2
     simp at hh2
    have hsem:(o.semAt (WF ro).round a.eval)=execOp a.eval o:=Oper.semAt_eq _ _ _ hnodefer
    rw [hsem]
    have hH:ZaX D T He=He:=by
     have:=Zcq (D:=D) (He:=He) T [] hall
     simpa [ZaX] using this
    have hIh:HRel P N0 γ He w:=by rw [←hH];exact hI.heap
    rcases hh2 with ⟨f,args,H1,h2,hcl⟩ | h2
    · rw [←hcg] at h2
      obtain ⟨nx,w1,γ1,hR,le1,hr1,hv1,hf1⟩:=(Zbe hIh hρ h2).inv_enter
      rw [hR]
      refine ZgD ((hc.hcall _ _ _ _ _ hcl).2 N0 γ1 w1 nx hr1 hv1 ro _) ?_
      intro e' w2 hcr
      obtain ⟨γ2,le2,hr2,he2,hf2⟩:=hcr
      cases e' with
      | returned v'=>exact he2.elim
      | panicked chain=>exact hQ _ _ _ ⟨γ2,hI.le.trans (le1.trans le2),⟨.inr ⟨rfl,v,rfl⟩,hI.dfs.mono (le1.trans le2) (hf1.trans hf2),hr2⟩,(hI.fr.trans hf1).trans hf2,he2⟩
      | outgrown=>exact he2.elim
    · rw [←hcg] at h2
      obtain ⟨v',w1,γ1,hR,le1,hr1,hv1,hf1⟩:=(Zbe hIh hρ h2).inv_panic
      rw [hR]
      exact hQ _ _ _ ⟨γ1,hI.le.trans le1,⟨.inr ⟨rfl,v,rfl⟩,hI.dfs.mono le1 hf1,hr1⟩,hI.fr.trans hf1,v',rfl,hv1⟩
end
end
section
open Go
def AHeap.More (H H2:AHeap):Prop:=∀ i x,H.get i=some x→H2.get i=some x
theorem AHeap.more_push {H:AHeap} (hf:H.Fresh) (o:AObj):AHeap.More H (H.push o):=by
 intro i x h
 show (if i=H.next then some o else H.get i)=some x
 rw [if_neg]
 · exact h
 · intro e;subst e;rw [hf _ (Nat.le_refl _)] at h;simp at h
section
variable {P:Program} {H H2:AHeap}
theorem Zms (hm:AHeap.More H H2) {i:Nat} {r:RowV} (h:H.view i=some r):H2.view i=some r:=by
 unfold AHeap.view at h ⊢
 cases hg:H.get i with
 | none=>rw [hg] at h;simp at h
 | some x=>rw [hg] at h;rw [hm _ _ hg];exact h
theorem ZnE (hm:AHeap.More H H2) {a:Addr} {v:Value} (h:H.cell a=some v):H2.cell a=some v:=by
 unfold AHeap.cell at h ⊢
 cases hv:H.view a.block with
 | none=>rw [hv] at h;simp at h
 | some r=>rw [hv] at h;rw [Zms hm hv];exact h
theorem ZkU (hm:AHeap.More H H2):∀ {n:Nat} {a:Addr} {vs:List Value},H.readN a n=some vs→H2.readN a n=some vs
 | 0,_,_,h=>h
 | n+1,a,vs,h=>by
  unfold AHeap.readN at h ⊢
  cases h1:H.cell a with
  | none=>rw [h1] at h;simp at h
  | some v =>
   rw [h1] at h
   rw [ZnE hm h1]
   dsimp only at h ⊢
   cases h2:H.readN (Zck a 1) n with
   | none=>rw [h2] at h;simp at h
   | some us=>rw [h2] at h;rw [ZkU hm h2];exact h
theorem Zq3 (hm:AHeap.More H H2) {t:TypeId} {a:Addr} {v:Value} (h:H.loadV P t a=some v):H2.loadV P t a=some v:=by
 unfold AHeap.loadV at h ⊢
 split at h
 · split at h
   · rename_i i hi
     split at h
     · rename_i vs hvs;simp only [hi,ZkU hm hvs];exact h
     · simp at h
   · simp at h
 · exact ZnE hm h
 · simp at h
theorem ZoX (hm:AHeap.More H H2) {i:Nat} {e:TypeId} (h:H.elemOk i e=true):H2.elemOk i e=true:=by
 unfold AHeap.elemOk at h ⊢
 cases hv:H.view i with
 | none=>rw [hv] at h;simp at h
 | some r=>rw [hv] at h;rw [Zms hm hv];exact h
theorem ZmA (hm:AHeap.More H H2) {ee:TypeId} {sz:Nat} {s v:Value} {lo hi:Option Value} (h:Zdu H ee sz s lo hi=some v):Zdu H2 ee sz s lo hi=some v:=by
 unfold Zdu at h ⊢
 cases s<;>first | (simp at h;done) | skip
 rename_i a len cap
 dsimp only at h ⊢
 cases hb1:Za6 0 lo with
 | none=>rw [hb1] at h;simp at h
 | some l =>
  cases hb2:Za6 len hi with
  | none=>rw [hb1,hb2] at h;simp at h
  | some u =>
   rw [hb1,hb2] at h
   dsimp only at h ⊢
   split at h
   case isFalse=>simp at h
   rename_i hlh
   rw [if_pos hlh]
   cases a with
   | none=>exact h
   | some a =>
    dsimp only at h ⊢
    split at h
    case isFalse=>simp at h
    rename_i hel
    rw [if_pos]
    · exact h
    · rcases hel with e | e
      · exact .inl e
      · exact .inr (ZoX hm e)
theorem Zil (hm:AHeap.More H H2) {m:Value} {es:List (Value×Value)} (h:H.entries m=some es):H2.entries m=some es:=by
 unfold AHeap.entries at h ⊢
 split at h
 · exact h
 · split at h
   · rename_i hg;simp only [hm _ _ hg];exact h
   · simp at h
 · simp at h
theorem ZtR (hm:AHeap.More H H2) {t:TypeId} {m k:Value} {r:Value×Bool} (h:H.look P t m k=some r):H2.look P t m k=some r:=by
 unfold AHeap.look at h ⊢
 cases hu:P.underlying t with
 | none=>rw [hu] at h;simp at h
 | some d =>
  rw [hu] at h
  cases d<;>first | (simp at h;done) | skip
  dsimp only at h ⊢
  cases he:H.entries m with
  | none=>rw [he] at h;simp at h
  | some es=>rw [he] at h;rw [Zil hm he];exact h
theorem Zq6 (hm:AHeap.More H H2) {t:TypeId} {x:Value} {n:Int} (h:Zd7 P H t x=some n):Zd7 P H2 t x=some n:=by
 unfold Zd7 at h ⊢
 split at h
 · exact h
 · exact h
 · split at h
   · rename_i hmm
     rw [if_pos hmm]
     split at h
     · rename_i es hes;rw [Zil hm hes];exact h
     · simp at h
   · simp at h
 · simp at h
theorem ZmW {t:TypeId} {x:Value} (hc:Zab x=true):Zd7 P H2 t x=Zd7 P H t x:=by
 by_cases hm:∃ m,x=.map m
 · obtain ⟨m,rfl⟩:=hm
   cases m with
   | none=>rfl
   | some r=>simp [Zab] at hc
 · unfold Zd7
   split
   · rfl
   · rfl
   · exact absurd ⟨_,rfl⟩ hm
   · rfl
set_option maxHeartbeats 1000000 in
theorem Zth (hm:AHeap.More H H2) {ρ:Operand→Value} {o:Oper} (hk:ZaS o.op=.read) {v:Value} (e:Zao P H ρ o=some (.val v H)):Zao P H2 ρ o=some (.val v H2):=by
 unfold Zao at e ⊢
 cases hop:o.op<;>rw [hop] at hk<;>first | (simp [ZaS] at hk;done) | skip
 case load t x =>
  simp only [hop] at e ⊢
  unfold ZaG at e ⊢
  simp only [hop] at e ⊢
  split at e
  case isFalse=>simp at e
  rename_i hok
  rw [if_pos hok]
  (repeat' split at e)<;>first | (simp at e;done) | skip
  rename_i a ha _ u hu
  simp only [Option.some.injEq,ARes.val.injEq,and_true] at e
  subst e
  simp only [Zq3 hm hu]
 case slice t x lo hi mx =>
  simp only [hop] at e ⊢
  unfold ZaG at e ⊢
  simp only [hop] at e ⊢
  split at e
  case isFalse=>simp at e
  rename_i hok
  rw [if_pos hok]
  cases mx with
  | some m=>simp at e
  | none =>
   simp only at e ⊢
   (repeat' split at e)<;>first | (simp at e;done) | skip
   · simp only [Option.some.injEq,ARes.val.injEq,and_true] at e;simp_all
   · rename_i u hu
     simp only [Option.some.injEq,ARes.val.injEq,and_true] at e
     subst e
     simp only [ZmA hm hu]
 case lookup t m k ok =>
  simp only [hop] at e ⊢
  split at e
  case isFalse=>simp at e
  rename_i hok
  rw [if_pos hok]
  cases hl:H.look P t (ρ m) (ρ k) with
  | none=>rw [hl] at e;simp at e
  | some r =>
   rw [hl] at e
   rw [ZtR hm hl]
   simp only [Option.some.injEq,ARes.val.injEq,and_true] at e ⊢
   exact e
 case call c =>
  simp only [hop] at e ⊢
  split at e
  case isFalse=>simp at e
  rename_i hok
  rw [if_pos hok]
  unfold Zbm at e ⊢
  cases hcal:c.callee with
  | value f=>unfold ZaS at hk;split at hk<;>simp_all
  | invoke r n=>rw [hcal] at e;simp at e
  | builtin b =>
   rw [hcal] at e
   cases b<;>first | (simp at e;done) | (unfold ZaS at hk;split at hk<;>simp_all;done) | skip
   case len =>
    dsimp only at e ⊢
    cases ha:c.args.toList with
    | nil=>rw [ha] at e;simp at e
    | cons x l =>
     cases l with
     | cons _ _=>rw [ha] at e;simp at e
     | nil =>
      cases ht:c.argTypes.toList with
      | nil=>rw [ha,ht] at e;simp at e
      | cons t l =>
       cases l with
       | cons _ _=>rw [ha,ht] at e;simp at e
       | nil =>
        rw [ha,ht] at e
        dsimp only at e ⊢
        cases hl:Zd7 P H t (ρ x) with
        | some n =>
         rw [hl] at e
         simp only [Option.some.injEq,ARes.val.injEq,and_true] at e
         rw [Zq6 hm hl,←e]
        | none =>
         rw [hl] at e
         dsimp only at e
         cases hu:Zaz P ρ o with
         | none=>rw [hu] at e;simp at e
         | some u =>
          rw [hu] at e
          simp only [Option.some.injEq,ARes.val.injEq,and_true] at e
          have hcl:Zab (ρ x)=true:=(Zgb hu).1 x (by
           have:=Array.one_of_toList ha
           rw [hop];simp [Op.operands,Call.operands,hcal,this])
          rw [ZmW (H:=H) (H2:=H2) hcl,hl]
          dsimp only
          rw [←e]
   case min =>
    dsimp only at e ⊢
    split at e
    · rename_i u hu
      simp only [Option.some.injEq,ARes.val.injEq,and_true] at e
      rw [e]
    · simp at e
   case max =>
    dsimp only at e ⊢
    split at e
    · rename_i u hu
      simp only [Option.some.injEq,ARes.val.injEq,and_true] at e
      rw [e]
    · simp at e
theorem ZmG {t:Tr} (hk:ZaS t.o.op=.pure∨ZaS t.o.op=.effect) (HH:AHeap):same P t HH:=by
 unfold same
 rcases hk with h | h<;>rw [h]<;>trivial
theorem Zdt {B:List Nat} {t:Tr} (hk:ZaS t.o.op=.pure):∀ (ts:List Tr) (He:AHeap),ZaC P B t ts He
 | [],He=>ZmG (.inl hk) He
 | u::us,He=>by
  unfold ZaC
  split
  · exact ⟨ZmG (.inl hk) _,.inr (Zdt hk us He)⟩
  · exact Zdt hk us He
theorem ZmF {t:Tr} (hk:ZaS t.o.op=.read∨(ZaS t.o.op=.alloc∧t.H.next<H.next)) (hf:H.Fresh) (h:same P t H) (o:AObj):same P t (H.push o):=by
 unfold same at h ⊢
 rcases hk with hk | ⟨hk,hn⟩
 · rw [hk] at h ⊢
   exact Zth (AHeap.more_push hf o) hk h
 · rw [hk] at h ⊢
   dsimp only at h ⊢
   rw [←h]
   show (if t.H.next=H.next then some o else H.get t.H.next)=_
   rw [if_neg (by omega)]
theorem Ze3 {call:CallT} (hcall:Zbn P call) {ops:List Oper} {B:List Nat} {t:Tr} (hk:ZaS t.o.op=.read∨ZaS t.o.op=.alloc):∀ (ts:List Tr) {tm:List Value} {H:AHeap} {tmE:List Value} {He:AHeap},
    Chain P call ops ts tm H tmE He→H.Fresh→(ZaS t.o.op=.alloc→t.H.next<H.next)→same P t H→(∀ u∈ts,ZaM u.o=true→bit B u.j t.j=true)→ZaC P B t ts He
 | [],tm,H,tmE,He,hch,_,_,hs,_=>by
  obtain ⟨_,rfl⟩:=hch
  exact hs
 | u::us,tm,H,tmE,He,hch,hf,hn,hs,hb=>by
  obtain ⟨h1,h2,h3,h4⟩:=hch
  subst h2
  unfold ZaC
  cases he:ZaM u.o with
  | true =>
   simp only [if_true]
   exact ⟨hs,.inl (hb u (by simp) he)⟩
  | false =>
   simp only [Bool.false_eq_true,if_false]
   have hle:=h3.next hcall
   refine Ze3 hcall hk us h4 (hle.fresh hf) (fun e=>Nat.lt_of_lt_of_le (hn e) hle.next) ?_ (fun v hv=>hb v (by simp [hv]))
   cases hw:u.w with
   | false=>rw [(h3.no hw).2.2];exact hs
   | true =>
    rcases h3.quiet hw he with ⟨_,e,_⟩ | ⟨_,e,_⟩ | ⟨hka,e⟩
    · rw [e];exact hs
    · rw [e];exact hs
    · obtain ⟨obj,r,_,_,hp⟩:=Zek hka e
      rw [hp]
      refine ZmF ?_ hf hs obj
      rcases hk with h | h
      · exact .inl h
      · exact .inr ⟨h,hn h⟩
theorem ZqR {ops:List Oper} {B:List Nat} {j:Nat} {P2:List Nat} (h:Zfe ops B (j::P2)=true) (he:Zcl ops j=false) (hp:ZkV ops j=false):∀ u∈P2,Zcl ops u=true→bit B u j=true:=by
 intro u hu hue
 simp only [Zfe,Bool.and_eq_true,Bool.or_eq_true] at h
 rcases h.1 with (h1 | h1) | h1
 · rw [he] at h1;simp at h1
 · rw [hp] at h1;simp at h1
 · have:=List.all_eq_true.1 h1 u hu
   rw [hue] at this
   simpa using this
theorem Zjr {call:CallT} (hcall:Zbn P call) {ops:List Oper} {B:List Nat}:∀ (T:List Tr) {tm:List Value} {H:AHeap} {tmE:List Value} {He:AHeap} {rest:List Nat},
    Chain P call ops T tm H tmE He→H.Fresh→Zfe ops B (T.map (·.j)++rest)=true→Zbz P B T He
 | [],_,_,_,_,_,_,_,_=>trivial
 | t::ts,tm,H,tmE,He,rest,hch,hf,hq=>by
  obtain ⟨h1,h2,h3,h4⟩:=hch
  subst h2
  have hle:=h3.next hcall
  have hq':Zfe ops B (ts.map (·.j)++rest)=true:=by
   simp only [List.map_cons,List.cons_append,Zfe,Bool.and_eq_true] at hq
   exact hq.2
  refine ⟨fun hw he=>?_,Zjr hcall ts h4 (hle.fresh hf) hq'⟩
  have hef:ZaS t.o.op≠.pure→∀ u∈ts,ZaM u.o=true→bit B u.j t.j=true:=by
   intro hnp u hu hue
   have gu:=(Chain.good ts h4 u hu).op
   refine ZqR (by simpa using hq) ?_ ?_ u.j ?_ ?_
   · unfold Zcl;rw [h3.op];exact he
   · unfold ZkV;rw [h3.op];simpa using hnp
   · exact List.mem_append_left _ (List.mem_map.2 ⟨u,hu,rfl⟩)
   · unfold Zcl;rw [gu];exact hue
  rcases h3.quiet hw he with ⟨hk,_,_⟩ | ⟨hk,e,hev⟩ | ⟨hk,e⟩
  · exact Zdt hk ts He
  · refine Ze3 hcall (.inl hk) ts h4 (hle.fresh hf) (fun h=>by rw [hk] at h;cases h) ?_ (hef (by rw [hk];simp))
    unfold same;rw [hk,e];exact hev
  · obtain ⟨obj,r,_,_,hp⟩:=Zek hk e
    refine Ze3 hcall (.inr hk) ts h4 (hle.fresh hf) (fun _=>by rw [hp];exact Nat.lt_succ_self _) ?_ (hef (by rw [hk];simp))
    unfold same;rw [hk]
end
end
section
open Go
section
variable {P:Program} {N0:Fz} {call:CallT} {ops:Array Oper} {s:St} {T:List Tr} {tmE:List Value} {He:AHeap} {rest:List Nat}
def DL (listed:Array Bool):Nat→Bool:=fun i=>listed.getD i false
theorem Zqs {listed:Array Bool} {i:Nat} (hi:i<listed.size):DL (listed.setIfInBounds i true)=Zf2 (DL listed) i:=by
 funext k
 unfold DL Zf2
 simp only [Array.getD_eq_getD_getElem?,Array.getElem?_setIfInBounds]
 by_cases h:i=k
 · subst h;simp [hi]
 · rw [if_neg h]
   have:(k == i)=false:=by simpa using fun e=>h e.symm
   rw [this];simp
theorem Zqo (hc:DCtx P call ops.toList s T tmE He rest) (hed:ZcV ops.toList=true) {listed:Array Bool} (hsz:listed.size=ops.size) (hin:∀ j,DL listed j=true→j∈T.map (·.j)) (hr:Region.ready .any ops listed=[]) :
    rest=[]∧∀ t∈T,DL listed t.j=true:=by
 have key:∀ (k:Nat) (P1 P2:List Nat),P1.length=k→T.map (·.j)++rest=P1++P2→∀ j∈P1,DL listed j=true:=by
  intro k
  induction k with
  | zero=>intro P1 P2 hk _ j hj;rw [List.length_eq_zero_iff.1 hk] at hj;simp at hj
  | succ k ih =>
   intro P1' P2 hk h j hj
   obtain ⟨P1,x,rfl⟩:∃ P1 x,P1'=P1++[x]:=by
    rcases List.eq_nil_or_concat P1' with e | ⟨L,b,e⟩
    · rw [e] at hk;simp at hk
    · exact ⟨L,b,by rw [e];simp⟩
   have h':T.map (·.j)++rest=P1++x::P2:=by rw [h];simp
   have ih':=ih P1 (x::P2) (by simpa using hk) h'
   rcases List.mem_append.1 hj with hj | hj
   · exact ih' j hj
   · obtain rfl:j=x:=by simpa using hj
     have hlt:=hc.st.lt j (by rw [h'];simp)
     have hlt':j<ops.size:=by simpa using hlt
     cases hd:DL listed j with
     | true=>rfl
     | false =>
      exfalso
      have:j∈Region.ready .any ops listed:=by
       rw [mem_ready]
       refine ⟨?_,ops[j],Array.getElem?_eq_getElem hlt',?_⟩
       · unfold DL at hd
         rw [Array.getD_eq_getD_getElem?,Array.getElem?_eq_getElem (by omega)] at hd ⊢
         simpa using hd
       · intro e he hb
         have ho:ops.toList[j]?=some ops[j]:=by rw [Array.getElem?_toList];exact Array.getElem?_eq_getElem hlt'
         have hel:e.on<ops.toList.length:=by
          unfold ZcV at hed
          have h1:=List.all_eq_true.1 hed ops[j] (List.mem_of_getElem? ho)
          have h2:=List.all_eq_true.1 h1 e (by simpa using he)
          rw [hb] at h2
          simpa using h2
         exact ih' _ (hc.st.ahead P1 j P2 h' e.on hel (Zrv ho (by simpa using he) hb))
      rw [hr] at this;simp at this
 have h:=key _ (T.map (·.j)++rest) [] rfl (by simp)
 refine ⟨?_,fun t ht=>h t.j (List.mem_append_left _ (List.mem_map.2 ⟨t,ht,rfl⟩))⟩
 cases hre:rest with
 | nil=>rfl
 | cons j r =>
  have h1:=hin j (h j (by rw [hre];simp))
  exact absurd h1 (hc.st.nd (T.map (·.j)) j r (by rw [hre]))
theorem count_set {listed:Array Bool} {i:Nat} (hi:i<listed.size) (h:listed.getD i true=false):(listed.setIfInBounds i true).toList.count false+1=listed.toList.count false:=by
 have hi':i<listed.toList.length:=by simpa using hi
 have hv:listed.toList[i]=false:=by
  rw [Array.getD_eq_getD_getElem?,Array.getElem?_eq_getElem hi] at h
  simpa using h
 rw [Array.toList_setIfInBounds,List.count_set hi']
 have hpos:0<listed.toList.count false:=List.count_pos_iff.2 (by rw [←hv];exact List.getElem_mem hi')
 rw [hv]
 simp only [BEq.rfl,if_true,show ((true == false)=false) from rfl,Bool.false_eq_true,if_false]
 omega
theorem Zwg (hc:DCtx P call ops.toList s T tmE He rest) (hed:ZcV ops.toList=true) {β0:Emb} {w0:World} (hnx:β0.nx=s.H.next)
    {x:AExit} {s':St} (hend:(rest=[]∧x=.normal∧s'=⟨tmE,s.dfs,He⟩)∨∃ j rest' v H',rest=j::rest'∧x=.panic v∧s'=⟨[],s.dfs,H'⟩∧PanicsAt P call ops.toList j tmE He v H')
    {ro:Option Nat} {n:Nat} {Q:Exit→Act→World→Prop} (hQ:∀ e a' w',OutRel P N0 β0 w0 x s' e a' w'→Q e a' w') :
    ∀ (fuel:Nat) (listed:Array Bool) (γ:Emb) (a:Act) (w:World),listed.size=ops.size→listed.toList.count false≤fuel→Inv P N0 ops.toList s T He β0 w0 (DL listed) γ a w→wpAnyIn (WF ro) n P .any ops Q fuel listed a w:=by
 have fin:∀ (listed:Array Bool) (γ:Emb) (a:Act) (w:World),listed.size=ops.size→Inv P N0 ops.toList s T He β0 w0 (DL listed) γ a w→Region.ready .any ops listed=[]→Q .normal a w:=by
  intro listed γ a w hsz hI hr
  obtain ⟨hre,hall⟩:=Zqo hc hed hsz hI.inT hr
  rcases hend with ⟨_,rfl,rfl⟩ | ⟨j,r,v,H',e,_⟩
  · have h1:tmD (DL listed) T s.tmps=tmE:=by
     rw [Chain.tm T hc.ch]
     exact Ze1 T _ fun t ht=>hall t ht
    have h2:ZaX (DL listed) T He=He:=by
     have:=Zcq (D:=DL listed) (He:=He) T [] (fun t ht _=>hall t ht)
     simpa [ZaX] using this
    have h3:=hI.tm
    have h4:=hI.heap
    rw [h1] at h3
    rw [h2] at h4
    exact hQ _ _ _ ⟨γ,hI.le,⟨.inl h3,hI.dfs,h4⟩,hI.fr,trivial⟩
  · rw [hre] at e;simp at e
 intro fuel
 induction fuel with
 | zero =>
  intro listed γ a w hsz hcnt hI
  have hr:Region.ready .any ops listed=[]:=by
   cases hr:Region.ready .any ops listed with
   | nil=>rfl
   | cons j l =>
    have hm:j∈Region.ready .any ops listed:=by rw [hr];simp
    obtain ⟨h0,o,ho,_⟩:=mem_ready.1 hm
    have hlt:j<listed.size:=by rw [hsz];exact (Array.getElem?_eq_some_iff.1 ho).1
    have:=count_set hlt h0
    omega
  exact ⟨hr,fin listed γ a w hsz hI hr⟩
 | succ fuel ih =>
  intro listed γ a w hsz hcnt hI
  refine ⟨fin listed γ a w hsz hI,fun i hi=>?_⟩
  obtain ⟨h0,o,ho,hall⟩:=mem_ready.1 hi
  have hlt:i<listed.size:=by rw [hsz];exact (Array.getElem?_eq_some_iff.1 ho).1
  have hnd:DL listed i=false:=by
   unfold DL
   rw [Array.getD_eq_getD_getElem?,Array.getElem?_eq_getElem hlt] at h0 ⊢
   simpa using h0
  refine Zj9 hc hnx hI hend hQ ho hnd (fun e he hb=>hall e (by simpa using he) hb) ?_
  intro a' w' γ' hI'
  rw [←Zqs hlt] at hI'
  refine ih _ γ' a' w' (by simpa using hsz) ?_ hI'
  have:=count_set hlt h0
  omega
theorem ZkF (hcall:Zbn P call) (hm:P.follows .mixedOrders=true) {ro:Option Nat} {n id:Nat} {x:AExit} {s':St} {β:Emb} {a:Act} {w:World}
    (he:Zdj P call ops.toList s=some (x,s')) (hs:SRel P N0 β s a w) (Q:Exit→Act→World→Prop) (hQ:∀ e a' w',OutRel P N0 β w x s' e a' w'→Q e a' w'):(Code.region id ops true).wpIn (WF ro) n P Q a w:=by
 refine wpIn_region_any hm ?_
 unfold Zdj at he
 split at he
 case h_2=>simp at he
 rename_i T He x1 s1 hrun
 split at he
 case isFalse=>simp at he
 rename_i hcond
 obtain ⟨hed,hst,hrd⟩:=hcond
 simp only [Option.some.injEq,Prod.mk.injEq] at he
 obtain ⟨rfl,rfl⟩:=he
 obtain ⟨tmE,rest,hp,hch,hend⟩:=ZdO _ _ _ _ _ _ _ hrun
 have hrd':Zbz P (Zbf ops.toList) T He:=by
  rcases hrd with h | h
  · rw [hp] at h;exact Zjr hcall T hch hs.heap.fresh h
  · exact h
 have hc:DCtx P call ops.toList s T tmE He rest:=⟨hcall,by rw [←hp];exact StaticOK.of hst,hch,hrd'⟩
 have hh0:HRel P N0 β s.H { w with drawn:=w.drawn+1 }:=hs.heap.of_heap rfl
 have hDL:DL (Array.replicate ops.size false)=fun _=>false:=by
  funext k
  unfold DL
  rw [Array.getD_eq_getD_getElem?,Array.getElem?_replicate]
  split<;>rfl
 obtain ⟨γ,le,hr,hl⟩:=ZgC hcall (D:=fun _=>false) T hch (fun _ _=>rfl) hh0
 refine Zwg hc hed hs.heap.nx hend hQ ops.size _ γ a _ (by simp) (by simp) ?_
 rw [hDL]
 refine ⟨fun j o h=>by simp at h,fun j h=>by simp at h,?_,DRels.mono le (Fr.of_heap (by rfl) (by rfl) (by rfl)) hs.dfs,hr,le,Fr.of_heap rfl rfl rfl,?_⟩
 · rw [Ze0];exact hs.tmps.mono le
 · intro t ht _ _ _
   rw [hl]
   have h1:=((Chain.next hcall T hch).2 t ht).next
   cases hb:β.live t.H.next with
   | false=>rfl
   | true=>have:=hs.heap.live _ hb;omega
end
theorem ZaN {l:List Oper} {a b j:Nat}:(Zaj l a b)[j]?=if j=a then (l[a]?).map (fun o=>{ o with after:=o.after.push ⟨b,.data⟩ }) else l[j]?:=by
 unfold Zaj
 cases h:l[a]? with
 | none =>
  by_cases hj:j=a
  · subst hj;rw [if_pos rfl,h];rfl
  · rw [if_neg hj]
 | some o =>
  dsimp only
  rw [List.getElem?_set]
  by_cases hj:j=a
  · subst hj
    rw [if_pos rfl,if_pos rfl,if_pos (List.getElem?_eq_some_iff.1 h).1];rfl
  · rw [if_neg hj,if_neg (fun e=>hj e.symm)]
theorem Zfx {l:List Oper} {a b j:Nat} {o:Oper} (h:(Zaj l a b)[j]?=some o):∃ o0,l[j]?=some o0∧o.op=o0.op∧o.dst=o0.dst∧o.guard=o0.guard∧o.type=o0.type∧o.pos=o0.pos∧(j≠a→o=o0)∧∀ e,e∈o0.after.toList→e∈o.after.toList:=by
 rw [ZaN] at h
 by_cases hj:j=a
 · subst hj
   rw [if_pos rfl] at h
   obtain ⟨o0,h0,rfl⟩:=Option.map_eq_some_iff.1 h
   exact ⟨o0,h0,rfl,rfl,rfl,rfl,rfl,fun e=>(e rfl).elim,fun e he=>by simp [he]⟩
 · rw [if_neg hj] at h
   exact ⟨o,h,rfl,rfl,rfl,rfl,rfl,fun _=>rfl,fun e he=>he⟩
theorem ZhT {l:List Oper} {a b j:Nat} {o0:Oper} (h:l[j]?=some o0):∃ o,(Zaj l a b)[j]?=some o∧o.op=o0.op∧o.dst=o0.dst∧o.guard=o0.guard∧o.type=o0.type∧o.pos=o0.pos∧(j≠a→o=o0)∧∀ e,e∈o.after.toList→e∈o0.after.toList∨(j=a∧e=⟨b,.data⟩):=by
 by_cases hj:j=a
 · subst hj
   refine ⟨{ o0 with after:=o0.after.push ⟨b,.data⟩ },by rw [ZaN,if_pos rfl,h];rfl,rfl,rfl,rfl,rfl,rfl,fun e=>(e rfl).elim,fun e he=>?_⟩
   simp only [Array.toList_push,List.mem_append,List.mem_singleton] at he
   exact he.imp id fun h=>⟨rfl,h⟩
 · exact ⟨o0,by rw [ZaN,if_neg hj];exact h,rfl,rfl,rfl,rfl,rfl,fun _=>rfl,fun e he=>.inl he⟩
theorem ZeO {l:List Oper} {a b:Nat}:(Zaj l a b).length=l.length:=by
 unfold Zaj;split<;>simp
theorem Zn3 {l:List Oper} {a b:Nat} {tm:List Value} {j:Nat}:ZcL (Zaj l a b) tm j=ZcL l tm j:=by
 unfold ZcL
 cases h:l[j]? with
 | none =>
  have:(Zaj l a b)[j]?=none:=by
   rw [List.getElem?_eq_none_iff,ZeO,←List.getElem?_eq_none_iff];exact h
  rw [this]
 | some o0 =>
  obtain ⟨o,h1,_,h2,_⟩:=ZhT (a:=a) (b:=b) h
  rw [h1]
  dsimp only
  rw [h2]
theorem ZeV {l:List Oper} {a b:Nat} {tm:List Value} {o:Oper}:Zat (Zaj l a b) tm o=Zat l tm o:=by
 unfold Zat
 split
 · rfl
 · rw [Zn3]
theorem Zlr {H H':AHeap} {a:Addr} {v:Value} (h:H.setCell a v=some H'):H'.next=H.next∧(∀ j,j≠a.block→H'.get j=H.get j)∧∀ G:AHeap,G.get a.block=H.get a.block→∃ G',G.setCell a v=some G'∧G'.next=G.next∧G'.get a.block=H'.get a.block∧∀ j,j≠a.block→G'.get j=G.get j:=by
 unfold AHeap.setCell at h
 split at h
 case isFalse=>simp at h
 rename_i hf
 split at h
 · rename_i cs e hg
   split at h
   case isFalse=>simp at h
   rename_i hc
   simp only [Option.some.injEq] at h
   subst h
   refine ⟨rfl,fun j hj=>by simp [AHeap.set,hj],fun G hG=>?_⟩
   refine ⟨G.set a.block (.box (cs.set a.off v) e),?_,rfl,by simp [AHeap.set],fun j hj=>by simp [AHeap.set,hj]⟩
   unfold AHeap.setCell
   rw [if_pos hf,hG,hg]
   dsimp only
   rw [if_pos hc]
 · rename_i cs st g e hg
   split at h
   case isFalse=>simp at h
   rename_i hc
   simp only [Option.some.injEq] at h
   subst h
   refine ⟨rfl,fun j hj=>by simp [AHeap.set,hj],fun G hG=>?_⟩
   refine ⟨G.set a.block (.arr (cs.set a.off v) (st.set a.off g) g e false),?_,rfl,by simp [AHeap.set],fun j hj=>by simp [AHeap.set,hj]⟩
   unfold AHeap.setCell
   rw [if_pos hf,hG,hg]
   dsimp only
   rw [if_pos hc]
 · simp at h
theorem ZkQ:∀ (vs:List Value) {H H':AHeap} {a:Addr},H.setN a vs=some H'→H'.next=H.next∧(∀ j,j≠a.block→H'.get j=H.get j)∧∀ G:AHeap,G.get a.block=H.get a.block→∃ G',G.setN a vs=some G'∧G'.next=G.next∧G'.get a.block=H'.get a.block∧∀ j,j≠a.block→G'.get j=G.get j
 | [],H,H',a,h=>by
  simp only [AHeap.setN,Option.some.injEq] at h
  subst h
  exact ⟨rfl,fun _ _=>rfl,fun G hG=>⟨G,rfl,rfl,hG,fun _ _=>rfl⟩⟩
 | v::vs,H,H',a,h=>by
  unfold AHeap.setN at h
  split at h
  case h_2=>simp at h
  rename_i H1 h1
  obtain ⟨n1,o1,l1⟩:=Zlr h1
  obtain ⟨n2,o2,l2⟩:=ZkQ vs h
  have hb:(Zck a 1).block=a.block:=rfl
  rw [hb] at o2 l2
  refine ⟨n2.trans n1,fun j hj=>(o2 j hj).trans (o1 j hj),fun G hG=>?_⟩
  obtain ⟨G1,g1,g2,g3,g4⟩:=l1 G hG
  obtain ⟨G2,k1,k2,k3,k4⟩:=l2 G1 g3
  refine ⟨G2,?_,k2.trans g2,k3,fun j hj=>(k4 j hj).trans (g4 j hj)⟩
  unfold AHeap.setN
  rw [g1];exact k1
theorem Zh2 {P:Program} {t:TypeId} {H H':AHeap} {a:Addr} {v:Value} (h:H.storeV P t a v=some H'):H'.next=H.next∧(∀ j,j≠a.block→H'.get j=H.get j)∧∀ G:AHeap,G.get a.block=H.get a.block→∃ G',G.storeV P t a v=some G'∧G'.next=G.next∧G'.get a.block=H'.get a.block∧∀ j,j≠a.block→G'.get j=G.get j:=by
 unfold AHeap.storeV at h
 split at h
 case h_2=>simp at h
 rename_i i hi
 split at h
 case isFalse=>simp at h
 rename_i hs
 obtain ⟨n1,o1,l1⟩:=ZkQ _ h
 refine ⟨n1,o1,fun G hG=>?_⟩
 obtain ⟨G',g1,g2⟩:=l1 G hG
 refine ⟨G',?_,g2⟩
 unfold AHeap.storeV
 rw [hi]
 dsimp only
 rw [if_pos hs];exact g1
theorem AHeap.ext_get {H G:AHeap} (h1:H.next=G.next) (h2:∀ j,H.get j=G.get j):H=G:=by
 cases H;cases G;simp only [AHeap.mk.injEq];exact ⟨h1,funext h2⟩
theorem Zof {P:Program} {t u:TypeId} {H H1 H2:AHeap} {a b:Addr} {v w:Value} (h1:H.storeV P t a v=some H1) (h2:H1.storeV P u b w=some H2) (hab:a.block≠b.block):∃ G,H.storeV P u b w=some G∧G.storeV P t a v=some H2:=by
 obtain ⟨n1,o1,l1⟩:=Zh2 h1
 obtain ⟨n2,o2,l2⟩:=Zh2 h2
 obtain ⟨G,g1,g2,g3,g4⟩:=l2 H (o1 _ hab.symm).symm
 obtain ⟨G2,k1,k2,k3,k4⟩:=l1 G (g4 _ hab)
 refine ⟨G,g1,?_⟩
 rw [k1]
 congr 1
 refine AHeap.ext_get (by rw [k2,g2,n2,n1]) fun j=>?_
 by_cases ha:j=a.block
 · subst ha;rw [k3,o2 _ hab]
 · rw [k4 j ha]
   by_cases hb:j=b.block
   · subst hb;exact g3
   · rw [g4 j hb,o2 j hb,o1 j ha]
section
variable {P:Program} {N0:Fz} {call:CallT} {l:List Oper} {s:St}
theorem Good.edge {a b a' b':Nat} {t:Tr} (h:Good P call (Zaj l a b) t) (h1:t.j≠a) (h2:t.j≠a'):Good P call (Zaj l a' b') t:=by
 obtain ⟨o0,g1,g2⟩:=Zfx h.op
 refine ⟨?_,fun hw=>?_,fun hw=>?_⟩
 · rw [ZaN,if_neg h2]
   have:=h.op
   rw [ZaN,if_neg h1] at this
   exact this
 · have:=h.yes hw
   rw [ZeV] at this ⊢
   exact this
 · have:=h.no hw
   rw [ZeV] at this ⊢
   exact this
theorem Chain.edge {a b a' b':Nat}:∀ (T:List Tr) {tm:List Value} {H:AHeap} {tmE:List Value} {He:AHeap},(∀ t,t∈T→t.j≠a∧t.j≠a')→Chain P call (Zaj l a b) T tm H tmE He→Chain P call (Zaj l a' b') T tm H tmE He
 | [],_,_,_,_,_,h=>h
 | t::T,tm,H,tmE,He,hn,⟨h1,h2,h3,h4⟩=>⟨h1,h2,h3.edge (hn t (by simp)).1 (hn t (by simp)).2,Chain.edge T (fun u hu=>hn u (by simp [hu])) h4⟩
theorem Chain.join {ops:List Oper}:∀ (T1:List Tr) {T2:List Tr} {tm:List Value} {H:AHeap} {tm1:List Value} {H1:AHeap} {tmE:List Value} {He:AHeap},Chain P call ops T1 tm H tm1 H1→Chain P call ops T2 tm1 H1 tmE He→Chain P call ops (T1++T2) tm H tmE He
 | [],_,_,_,_,_,_,_,⟨rfl,rfl⟩,h=>h
 | t::T1,_,_,_,_,_,_,_,⟨h1,h2,h3,h4⟩,h=>⟨h1,h2,h3,Chain.join T1 h4 h⟩
theorem ZoK {o:Oper} (h:ZiL o=true):(∃ t x y,o.op=.store t x y)∧o.guard=none∧o.dst=none:=by
 unfold ZiL at h
 split at h
 · rename_i t x y h1 h2 h3;exact ⟨⟨t,x,y,h1⟩,h2,h3⟩
 · cases h
theorem Zhs {i:Nat} (h:storeAt l i=true):∃ o t x y,l[i]?=some o∧o.op=.store t x y∧o.guard=none∧o.dst=none:=by
 unfold storeAt at h
 split at h
 case h_2=>cases h
 rename_i o ho
 obtain ⟨⟨t,x,y,h1⟩,h2,h3⟩:=ZoK h
 exact ⟨o,t,x,y,ho,h1,h2,h3⟩
theorem ZaQ {H:AHeap} {ρ:Operand→Value} {o:Oper} {t:TypeId} {x y:Operand} {r:ARes} (ho:o.op=.store t x y) (h:Zao P H ρ o=some r):∃ a H',ρ x=.pointer (some a)∧H.storeV P t a (ρ y)=some H'∧r=.skip H'∧Zaa x=true∧Zaa y=true:=by
 unfold Zao at h
 rw [ho] at h
 dsimp only at h
 unfold ZaG at h
 rw [ho] at h
 split at h
 case isFalse=>simp at h
 rename_i hok
 simp only [Op.operands,List.all_toArray,List.all_cons,List.all_nil,Bool.and_true,Bool.and_eq_true] at hok
 dsimp only at h
 split at h
 case h_2=>simp at h
 rename_i a ha
 split at h
 case h_2=>simp at h
 rename_i H' hH
 simp only [Option.some.injEq] at h
 exact ⟨a,H',ha,hH,h.symm,hok.1,hok.2⟩
theorem Zf9 {H H':AHeap} {ρ:Operand→Value} {o:Oper} {t:TypeId} {x y:Operand} {a:Addr} (ho:o.op=.store t x y) (h1:ρ x=.pointer (some a)) (h2:H.storeV P t a (ρ y)=some H') (h3:Zaa x=true) (h4:Zaa y=true):Zao P H ρ o=some (.skip H'):=by
 unfold Zao
 rw [ho]
 dsimp only
 unfold ZaG
 rw [ho]
 simp only [Op.operands,List.all_toArray,List.all_cons,List.all_nil,Bool.and_true,h3,h4,Bool.and_self,if_true,h1,h2]
theorem Zjc {BA BB:List Nat} {He:AHeap} {t:Tr} {te tf te' tf':Tr} (heff:ZaM te.o=true) (heff':ZaM tf'.o=true) (hH:te.H=tf'.H) :
    ∀ (ts:List Tr),(∀ u,u∈ts→bit BA u.j t.j=bit BB u.j t.j)→(bit BB tf'.j t.j=true)→ZaC P BA t (ts++[te,tf]) He→ZaC P BB t (ts++[tf',te']) He
 | [],_,hb,h=>by
  simp only [List.nil_append] at h ⊢
  unfold ZaC at h ⊢
  rw [heff] at h
  rw [heff']
  simp only [if_true] at h ⊢
  exact ⟨by rw [←hH];exact h.1,.inl hb⟩
 | u::ts,hu,hb,h=>by
  simp only [List.cons_append] at h ⊢
  unfold ZaC at h ⊢
  have ih:=Zjc heff heff' hH ts (fun v hv=>hu v (by simp [hv])) hb (te':=te') (tf:=tf) (He:=He)
  split at h
  · rename_i he
    rw [if_pos he]
    exact ⟨h.1,h.2.imp (fun hh=>by rw [←hu u (by simp)];exact hh) ih⟩
  · rename_i he
    rw [if_neg he]
    exact ih h
theorem ZkS {BA BB:List Nat} {He:AHeap} {te tf te' tf':Tr} (heff:ZaM te.o=true) (hefff:ZaM tf.o=true) (heff':ZaM tf'.o=true) (heffe':ZaM te'.o=true) (hH:te.H=tf'.H) :
    ∀ (T:List Tr),(∀ t,t∈T→ZaS t.o.op=.pure∨ZaM t.o=true∨bit BB tf'.j t.j=true)→(∀ u,u∈T→∀ t,t∈T→bit BA u.j t.j=bit BB u.j t.j)→Zbz P BA (T++[te,tf]) He→Zbz P BB (T++[tf',te']) He
 | [],_,_,_=>by
  simp only [List.nil_append]
  exact ⟨fun _ h=>(by rw [heff'] at h;cases h),⟨fun _ h=>(by rw [heffe'] at h;cases h),trivial⟩⟩
 | t::T,hp,hb,h=>by
  simp only [List.cons_append] at h ⊢
  refine ⟨fun hw he=>?_,ZkS heff hefff heff' heffe' hH T (fun u hu=>hp u (by simp [hu])) (fun u hu v hv=>hb u (by simp [hu]) v (by simp [hv])) h.2⟩
  rcases hp t (by simp) with hk | hk | hk
  · exact Zdt hk _ _
  · rw [hk] at he;cases he
  · exact Zjc heff heff' hH T (fun u hu=>hb u (by simp [hu]) t (by simp)) hk (h.1 hw he)
end
section
variable {P:Program} {N0:Fz} {call:CallT} {ops:Array Oper} {s:St}
theorem Zmq {F:Fence} {n:Nat} {Q:Exit→Act→World→Prop} {a b j:Nat} {K:Act→World→Prop} {act:Act} {w:World} (h:wpOpIn F n P (Zaj ops.toList a b).toArray Q j K act w):wpOpIn F n P ops Q j K act w:=by
 have hy:yielded (Zaj ops.toList a b).toArray act.tmps=yielded ops act.tmps:=by
  funext g
  unfold yielded
  have:((Zaj ops.toList a b).toArray[g]?).bind (·.dst)=(ops[g]?).bind (·.dst):=by
   rw [List.getElem?_toArray,←Array.getElem?_toList]
   cases hg:ops.toList[g]? with
   | none =>
    have:(Zaj ops.toList a b)[g]?=none:=by
     rw [List.getElem?_eq_none_iff,ZeO,←List.getElem?_eq_none_iff];exact hg
    rw [this]
   | some o0 =>
    obtain ⟨o,h1,_,h2,_⟩:=ZhT (a:=a) (b:=b) hg
    rw [h1];exact h2
  rw [this]
 unfold wpOpIn at h ⊢
 rw [hy,List.getElem?_toArray] at h
 rw [←Array.getElem?_toList]
 cases hg:ops.toList[j]? with
 | none =>
  have:(Zaj ops.toList a b)[j]?=none:=by
   rw [List.getElem?_eq_none_iff,ZeO,←List.getElem?_eq_none_iff];exact hg
  rw [this] at h
  exact h
 | some o0 =>
  by_cases hj:j=a
  · subst hj
    rw [ZaN,if_pos rfl,hg] at h
    simp only [Option.map_some] at h
    exact h
  · rw [ZaN,if_neg hj,hg] at h
    exact h
structure SwapOK (l:List Oper) (e f:Nat) (p:List Nat):Prop where
 plan:Zbo (Zaj l f e)=p++[e,f]
 edA:ZcV (Zaj l f e)=true
 edB:ZcV (Zaj l e f)=true
 stA:Zcn (Zaj l f e) (Zbf (Zaj l f e)) (p++[e,f])=true
 stB:Zcn (Zaj l e f) (Zbf (Zaj l e f)) (p++[f,e])=true
 ahead:∀ j,j∈p→ZkV l j=true∨Zcl l j=true∨bit (Zbf (Zaj l e f)) f j=true
 bits:∀ u,u∈p→∀ t,t∈p→bit (Zbf (Zaj l f e)) u t=bit (Zbf (Zaj l e f)) u t
 se:storeAt l e=true
 sf:storeAt l f=true
 ne:e≠f
theorem SwapOK.of {l:List Oper} {e f:Nat} (h:Zd4 l e f=true):∃ p,SwapOK l e f p:=by
 unfold Zd4 at h
 split at h
 case h_2=>cases h
 rename_i p hp
 simp only [Bool.and_eq_true,Bool.not_eq_true'] at h
 obtain ⟨⟨⟨⟨⟨⟨⟨⟨h1,h2⟩,h3⟩,h4⟩,h5⟩,h6⟩,h7⟩,h8⟩,h9⟩:=h
 refine ⟨p,?_,h1,h2,h3,h4,?_,?_,h7,h8,fun e=>by rw [e] at h9;simp at h9⟩
 · unfold endsIn at hp
   split at hp
   case h_2=>cases hp
   rename_i b a r hr
   split at hp
   case isFalse=>cases hp
   rename_i hab
   simp only [Option.some.injEq] at hp
   have:=congrArg List.reverse hr
   rw [List.reverse_reverse] at this
   rw [this,←hp,hab.1,hab.2];simp
 · intro j hj
   have:=List.all_eq_true.1 h5 j hj
   simp only [Bool.or_eq_true] at this
   rcases this with (h | h) | h
   · exact .inl h
   · exact .inr (.inl h)
   · exact .inr (.inr h)
 · intro u hu t ht
   have:=List.all_eq_true.1 (List.all_eq_true.1 h6 u hu) t ht
   simpa using this
structure SwapRun (P:Program) (call:CallT) (l:List Oper) (s:St) (e f:Nat) (tmE:List Value) (He:AHeap) (rA rB:List Nat) (TA TB:List Tr):Prop where
 a:DCtx P call (Zaj l f e) s TA tmE He rA
 b:DCtx P call (Zaj l e f) s TB tmE He rB
 rest:rA=[]↔rB=[]
 rest2:∀ j r,rA=j::r→(∃ r',rB=j::r')
 rest3:∀ j r,rB=j::r→(∃ r',rA=j::r')
 conv:∀ (D:Nat→Bool),D e=false→D f=false→tmD D TA s.tmps=tmD D TB s.tmps∧ZaX D TA He=ZaX D TB He∧(∀ j,D j=true→j∈TA.map (·.j)→j∈TB.map (·.j))∧∀ t,t∈TB→ZaS t.o.op=.alloc→t∈TA
theorem Zvo (hcall:Zbn P call) {l:List Oper} {e f:Nat} {p:List Nat} (hs:SwapOK l e f p) {T:List Tr} {He:AHeap} {x:AExit} {s':St} (hrun:ZaB P call (Zaj l f e) s.dfs (Zbo (Zaj l f e)) s.tmps s.H=some (T,He,x,s')) (hrd:Zbz P (Zbf (Zaj l f e)) T He) (hap:x=.normal→Zqn T) :
    ∃ tmE rA rB TB,SwapRun P call l s e f tmE He rA rB T TB∧((rA=[]∧x=.normal∧s'=⟨tmE,s.dfs,He⟩)∨∃ j rest' v H',rA=j::rest'∧x=.panic v∧s'=⟨[],s.dfs,H'⟩∧PanicsAt P call (Zaj l f e) j tmE He v H')∧T.map (·.j)++rA=p++[e,f]:=by
 rw [hs.plan] at hrun
 obtain ⟨tmE,rest,hp,hch,hend⟩:=ZdO _ _ _ _ _ _ _ hrun
 have stA:=StaticOK.of hs.stA
 have stB:=StaticOK.of hs.stB
 have hpe:∀ j,j∈p→j≠e∧j≠f:=by
  intro j hj
  constructor
  · rintro rfl
    exact stA.nd p j [f] (by simp) hj
  · rintro rfl
    exact stA.nd (p++[e]) j [] (by simp) (by simp [hj])
 have hA:DCtx P call (Zaj l f e) s T tmE He rest:=⟨hcall,by rw [←hp];exact stA,hch,hrd⟩
 obtain ⟨oe,te_t,te_x,te_y,hoe,hoeop,hoeg,hoed⟩:=Zhs hs.se
 obtain ⟨of,tf_t,tf_x,tf_y,hof,hofop,hofg,hofd⟩:=Zhs hs.sf
 rcases hend with ⟨hr,hx,hs'⟩ | ⟨j,r,v,H',hr,hx,hs',hpan⟩
 ·
  obtain ⟨T',te,tf,b,c,hT,hwe,hwf,hbe,hbf,hbc⟩:=hap hx
  subst hr
  subst hT
  have hp':p++[e,f]=(T'++[te,tf]).map (·.j)++[]:=hp
  simp only [List.map_append,List.map_cons,List.map_nil,List.append_nil] at hp'
  have hlen:p.length=(T'.map (·.j)).length:=by have:=congrArg List.length hp';simpa using this
  obtain ⟨hpT,hef⟩:=List.append_inj hp' hlen
  simp only [List.cons.injEq,and_true] at hef
  obtain ⟨he,hf⟩:=hef
  obtain ⟨tm1,H1,hc1,hc2⟩:=Chain.split T' hch
  obtain ⟨q1,q2,q3,q4,q5,q6,q7,q8⟩:=hc2
  have ge:=q3.op
  rw [←he,ZaN,if_neg hs.ne,hoe] at ge
  obtain rfl:=Option.some.inj ge
  have gf:=q6.op
  rw [←hf,ZaN,if_pos rfl,hof] at gf
  simp only [Option.map_some,Option.some.injEq] at gf
  have hfop:tf.o.op=.store tf_t tf_x tf_y:=by rw [←gf];exact hofop
  have hfd:tf.o.dst=none:=by rw [←gf];exact hofd
  have hftype:tf.o.type=of.type:=by rw [←gf]
  have putE:ZbX te.o.dst te.v tm1=tm1:=by rw [hoed];rfl
  rw [putE] at q4
  have putF:ZbX tf.o.dst tf.v tm1=tm1:=by rw [hfd];rfl
  rw [putE,putF] at q7
  have q7':=q7.symm
  subst q7' q8
  have ye:=(q3.yes hwe).2
  have yf:=(q6.yes hwf).2
  rw [q1,q2] at ye
  rw [q4,q5] at yf
  have se:∃ a H2,aev tm1 te_x=.pointer (some a)∧H1.storeV P te_t a (aev tm1 te_y)=some H2∧te.H'=H2∧te.v=undef∧Zaa te_x=true∧Zaa te_y=true:=by
   rcases ye with ye | ⟨ye,yv⟩ | ⟨g,ar,G,ye,_⟩
   · obtain ⟨a,H2,_,_,h3,_⟩:=ZaQ hoeop ye;cases h3
   · obtain ⟨a,H2,h1,h2,h3,h4,h5⟩:=ZaQ hoeop ye
     exact ⟨a,H2,h1,h2,by simpa using h3,yv,h4,h5⟩
   · obtain ⟨a,H2,_,_,h3,_⟩:=ZaQ hoeop ye;cases h3
  obtain ⟨a,H2,a1,a2,a3,a4,a5,a6⟩:=se
  rw [a3] at yf
  have sf:∃ a' H3,aev tm1 tf_x=.pointer (some a')∧H2.storeV P tf_t a' (aev tm1 tf_y)=some H3∧tf.H'=H3∧tf.v=undef∧Zaa tf_x=true∧Zaa tf_y=true:=by
   rcases yf with yf | ⟨yf,yv⟩ | ⟨g,ar,G,yf,_⟩
   · obtain ⟨a,H2,_,_,h3,_⟩:=ZaQ hfop yf;cases h3
   · obtain ⟨a,H2,h1,h2,h3,h4,h5⟩:=ZaQ hfop yf
     exact ⟨a,H2,h1,h2,by simpa using h3,yv,h4,h5⟩
   · obtain ⟨a,H2,_,_,h3,_⟩:=ZaQ hfop yf;cases h3
  obtain ⟨a',H3,b1,b2,b3,b4,b5,b6⟩:=sf
  have hblk:a.block≠a'.block:=by
   unfold ZCt at hbe hbf
   rw [hoeop] at hbe
   rw [hfop] at hbf
   dsimp only at hbe hbf
   rw [q1,a1] at hbe
   rw [q4,b1] at hbf
   simp only [Option.some.injEq] at hbe hbf
   rw [hbe,hbf];exact hbc
  obtain ⟨G,g1,g2⟩:=Zof a2 b2 hblk
  let tf':Tr:=⟨f,of,tm1,H1,undef,G,true⟩
  let te':Tr:=⟨e,{ te.o with after:=te.o.after.push ⟨f,.data⟩ },tm1,G,undef,H3,true⟩
  have heffE:ZaM te.o=true:=by unfold ZaM;rw [hoeop];rfl
  have heffF:ZaM tf.o=true:=by unfold ZaM;rw [hfop];rfl
  have heffF':ZaM tf'.o=true:=by show ZaM of=true;unfold ZaM;rw [hofop];rfl
  have heffE':ZaM te'.o=true:=by show ZaM { te.o with after:=te.o.after.push ⟨f,.data⟩ }=true;unfold ZaM;rw [hoeop];rfl
  have hT'n:∀ t,t∈T'→t.j≠f∧t.j≠e:=fun t ht=>by
   have:=hpe t.j (by rw [hpT];exact List.mem_map.2 ⟨t,ht,rfl⟩)
   exact ⟨this.2,this.1⟩
  have wantN:∀ {o:Oper} {ll:List Oper} {tm:List Value},o.guard=none→Zat ll tm o=true:=by intro o ll tm hg;unfold Zat;rw [hg]
  have gF:Good P call (Zaj l e f) tf':=⟨by show (Zaj l e f)[f]?=some of;rw [ZaN,if_neg hs.ne.symm];exact hof,fun _=>⟨wantN hofg,.inr (.inl ⟨Zf9 hofop b1 g1 b5 b6,rfl⟩)⟩,fun h=>(by cases h)⟩
  have gE:Good P call (Zaj l e f) te':=⟨by show (Zaj l e f)[e]?=_;rw [ZaN,if_pos rfl,hoe];rfl,fun _=>⟨wantN hoeg,.inr (.inl ⟨Zf9 (o:={ te.o with after:=te.o.after.push ⟨f,.data⟩ }) hoeop a1 g2 a5 a6,rfl⟩)⟩,fun h=>(by cases h)⟩
  have chB:Chain P call (Zaj l e f) (T'++[tf',te']) s.tmps s.H tm1 H3:=by
   refine Chain.join T' (Chain.edge T' hT'n hc1) ⟨rfl,rfl,gF,?_⟩
   have:ZbX tf'.o.dst tf'.v tm1=tm1:=by show ZbX of.dst undef tm1=tm1;rw [hofd];rfl
   rw [this]
   refine ⟨rfl,rfl,gE,?_,rfl⟩
   show tm1=ZbX te.o.dst undef tm1
   rw [hoed];rfl
  have hmapB:(T'++[tf',te']).map (·.j)++[]=p++[f,e]:=by simp [hpT,tf',te']
  have rdB:Zbz P (Zbf (Zaj l e f)) (T'++[tf',te']) H3:=by
   rw [b3] at hrd
   refine ZkS heffE heffF heffF' heffE' q2 T' (fun t ht=>?_) (fun u hu t ht=>?_) hrd
   · have hj:t.j∈p:=by rw [hpT];exact List.mem_map.2 ⟨t,ht,rfl⟩
     have gt:=(hA.ch.good _ t (by simp [ht])).op
     rw [ZaN,if_neg (hT'n t ht).1] at gt
     rcases hs.ahead t.j hj with h | h | h
     · left
       unfold ZkV at h
       rw [gt] at h
       simpa using h
     · right;left
       unfold Zcl at h
       rw [gt] at h;exact h
     · exact .inr (.inr h)
   · exact hs.bits u.j (by rw [hpT];exact List.mem_map.2 ⟨u,hu,rfl⟩) t.j (by rw [hpT];exact List.mem_map.2 ⟨t,ht,rfl⟩)
  have hB:DCtx P call (Zaj l e f) s (T'++[tf',te']) tm1 H3 []:=⟨hcall,by rw [hmapB];exact stB,chB,rdB⟩
  rw [b3] at hA hs' ⊢
  refine ⟨tm1,[],[],T'++[tf',te'],⟨hA,hB,Iff.rfl,fun j r h=>(by cases h),fun j r h=>(by cases h),fun D hDe hDf=>⟨?_,?_,?_,?_⟩⟩,.inl ⟨rfl,hx,hs'⟩,by simp [hpT,←he,←hf]⟩
  · rw [Zdo,Zdo]
    have k1:∀ t,t∈[te,tf]→D t.j=false:=by
     intro t ht
     simp only [List.mem_cons,List.not_mem_nil,or_false] at ht
     rcases ht with rfl | rfl
     · rw [←he];exact hDe
     · rw [←hf];exact hDf
    have k2:∀ t,t∈[tf',te']→D t.j=false:=by
     intro t ht
     simp only [List.mem_cons,List.not_mem_nil,or_false] at ht
     rcases ht with rfl | rfl
     · exact hDf
     · exact hDe
    rw [Zpn [te,tf] _ k1,Zpn [tf',te'] _ k2]
  · have key:∀ (L:List Tr),ZaX D (L++[te,tf]) H3=ZaX D (L++[tf',te']) H3:=by
     intro L
     induction L with
     | nil =>
      simp only [List.nil_append,ZaX,heffE,heffF',←he,hDe,Bool.not_false,Bool.and_self,if_true]
      show te.H=(if _ then H1 else _)
      rw [q2]
      simp [hDf,tf']
     | cons u L ih =>
      simp only [List.cons_append,ZaX,ih]
    exact key T'
  · intro j hDj hj
    simp only [List.map_append,List.mem_append,List.map_cons,List.map_nil] at hj ⊢
    rcases hj with hj | hj
    · exact .inl hj
    · simp at hj
      rcases hj with hj | hj
      · rw [hj,←he,hDe] at hDj;cases hDj
      · rw [hj,←hf,hDf] at hDj;cases hDj
  · intro t ht hk
    rcases List.mem_append.1 ht with ht | ht
    · exact List.mem_append_left _ ht
    · simp at ht
      rcases ht with rfl | rfl
      · unfold ZaM at heffF';rw [hk] at heffF';cases heffF'
      · unfold ZaM at heffE';rw [hk] at heffE';cases heffE'
 ·
  subst hr
  have hjp:∃ r0,r=r0++[e,f]∧p=T.map (·.j)++j::r0:=by
   have hl:T.map (·.j)++j::r=p++[e,f]:=hp.symm
   rcases List.append_eq_append_iff.1 hl with ⟨c,h1,h2⟩ | ⟨c,h1,h2⟩
   · cases c with
     | nil =>
      exfalso
      simp only [List.nil_append,List.cons.injEq] at h2
      obtain ⟨o,ho,_,hh⟩:=hpan.ex
      rw [h2.1,ZaN,if_neg hs.ne,hoe] at ho
      obtain rfl:=Option.some.inj ho
      rcases hh with ⟨g,ar,G,hh,_⟩ | hh
      · obtain ⟨_,_,_,_,h3,_⟩:=ZaQ hoeop hh;cases h3
      · obtain ⟨_,_,_,_,h3,_⟩:=ZaQ hoeop hh;cases h3
     | cons c0 c =>
      simp only [List.cons_append,List.cons.injEq] at h2
      exact ⟨c,h2.2,by rw [h1,h2.1]⟩
   · exfalso
     cases c with
     | nil =>
      simp only [List.nil_append] at h2
      rw [List.cons.injEq] at h2
      obtain ⟨o,ho,_,hh⟩:=hpan.ex
      rw [←h2.1,ZaN,if_neg hs.ne,hoe] at ho
      obtain rfl:=Option.some.inj ho
      rcases hh with ⟨g,ar,G,hh,_⟩ | hh
      · obtain ⟨_,_,_,_,h3,_⟩:=ZaQ hoeop hh;cases h3
      · obtain ⟨_,_,_,_,h3,_⟩:=ZaQ hoeop hh;cases h3
     | cons c0 c =>
      simp only [List.cons_append,List.cons.injEq] at h2
      obtain ⟨h2,h3⟩:=h2
      cases c with
      | nil =>
       simp only [List.nil_append,List.cons.injEq] at h3
       obtain ⟨o,ho,_,hh⟩:=hpan.ex
       rw [←h3.1,ZaN,if_pos rfl,hof] at ho
       simp only [Option.map_some,Option.some.injEq] at ho
       have hop:o.op=.store tf_t tf_x tf_y:=by rw [←ho];exact hofop
       rcases hh with ⟨g,ar,G,hh,_⟩ | hh
       · obtain ⟨_,_,_,_,h3,_⟩:=ZaQ hop hh;cases h3
       · obtain ⟨_,_,_,_,h3,_⟩:=ZaQ hop hh;cases h3
      | cons c1 c =>
       have:=congrArg List.length h3
       simp at this
  obtain ⟨r0,rfl,hpT⟩:=hjp
  have hTn:∀ t,t∈T→t.j≠f∧t.j≠e:=fun t ht=>by
   have:=hpe t.j (by rw [hpT];simp;exact .inl ⟨t,ht,rfl⟩)
   exact ⟨this.2,this.1⟩
  have hjn:j≠e∧j≠f:=hpe j (by rw [hpT];simp)
  have chB:=Chain.edge (a':=e) (b':=f) T hTn hch
  have rdB:Zbz P (Zbf (Zaj l e f)) T He:=by
   have key:∀ (L:List Tr),(∀ t,t∈L→t∈T)→Zbz P (Zbf (Zaj l f e)) L He→Zbz P (Zbf (Zaj l e f)) L He:=by
    have hb:∀ u,u∈T→∀ t,t∈T→bit (Zbf (Zaj l f e)) u.j t.j=bit (Zbf (Zaj l e f)) u.j t.j:=fun u hu t ht=>hs.bits _ (by rw [hpT];simp;exact .inl ⟨u,hu,rfl⟩) _ (by rw [hpT];simp;exact .inl ⟨t,ht,rfl⟩)
    have key2:∀ (t:Tr),t∈T→∀ (L:List Tr),(∀ u,u∈L→u∈T)→ZaC P (Zbf (Zaj l f e)) t L He→ZaC P (Zbf (Zaj l e f)) t L He:=by
     intro t ht L
     induction L with
     | nil=>intro _ h;exact h
     | cons u L ih =>
      intro hL h
      unfold ZaC at h ⊢
      have ih':=ih (fun v hv=>hL v (by simp [hv]))
      split at h
      · rename_i hu;rw [if_pos hu];exact ⟨h.1,h.2.imp (fun hh=>by rw [←hb u (hL u (by simp)) t ht];exact hh) ih'⟩
      · rename_i hu;rw [if_neg hu];exact ih' h
    intro L
    induction L with
    | nil=>intro _ _;trivial
    | cons t L ih =>
     intro hL h
     exact ⟨fun hw he=>key2 t (hL t (by simp)) L (fun u hu=>hL u (by simp [hu])) (h.1 hw he),ih (fun u hu=>hL u (by simp [hu])) h.2⟩
   exact key T (fun _ h=>h) hrd
  have hB:DCtx P call (Zaj l e f) s T tmE He (j::(r0++[f,e])):=⟨hcall,by
   have:T.map (·.j)++j::(r0++[f,e])=p++[f,e]:=by rw [hpT];simp
   rw [this];exact stB,chB,rdB⟩
  exact ⟨tmE,j::(r0++[e,f]),j::(r0++[f,e]),T,⟨hA,hB,by simp,fun j' r' h=>(by simp only [List.cons.injEq] at h;exact ⟨_,by rw [h.1]⟩),fun j' r' h=>(by simp only [List.cons.injEq] at h;exact ⟨_,by rw [h.1]⟩),fun D _ _=>⟨rfl,rfl,fun _ _ h=>h,fun _ h _=>h⟩⟩,.inr ⟨j,_,v,H',rfl,hx,hs',hpan⟩,hp.symm⟩
theorem Inv.swap {l:List Oper} {e f:Nat} {tmE:List Value} {He:AHeap} {rA rB:List Nat} {TA TB:List Tr} (hsw:SwapRun P call l s e f tmE He rA rB TA TB) {β0:Emb} {w0:World} {D:Nat→Bool} {γ:Emb} {a:Act} {w:World}
    (hI:Inv P N0 (Zaj l f e) s TA He β0 w0 D γ a w) (he:D e=false) (hf:D f=false):Inv P N0 (Zaj l e f) s TB He β0 w0 D γ a w:=by
 obtain ⟨c1,c2,c3,c4⟩:=hsw.conv D he hf
 refine ⟨?_,fun j hj=>c3 j hj (hI.inT j hj),by rw [←c1];exact hI.tm,hI.dfs,by rw [←c2];exact hI.heap,hI.le,hI.fr,fun t ht hk hw hd=>hI.resv t (c4 t ht hk) hk hw hd⟩
 intro j o hj ho ed hed hb
 have hje:j≠e:=fun h=>by rw [h,he] at hj;cases hj
 have hjf:j≠f:=fun h=>by rw [h,hf] at hj;cases hj
 rw [ZaN,if_neg hje] at ho
 exact hI.closed j o hj (by rw [ZaN,if_neg hjf];exact ho) ed hed hb
theorem ZqP {a b:Nat} {listed:Array Bool} (h:Region.ready .any ops listed=[]):Region.ready .any (Zaj ops.toList a b).toArray listed=[]:=by
 rw [List.eq_nil_iff_forall_not_mem] at h ⊢
 intro j hj
 refine h j ?_
 rw [mem_ready] at hj ⊢
 obtain ⟨h1,o,h2,h3⟩:=hj
 rw [List.getElem?_toArray] at h2
 obtain ⟨o0,g1,_,_,_,_,_,_,g2⟩:=Zfx h2
 rw [Array.getElem?_toList] at g1
 exact ⟨h1,o0,g1,fun e he hb=>h3 e (by simpa using g2 e (by simpa using he)) hb⟩
theorem ZuA {e f:Nat} {tmE:List Value} {He:AHeap} {rA rB:List Nat} {TA TB:List Tr} (hsw:SwapRun P call ops.toList s e f tmE He rA rB TA TB) (hef:e≠f) (hedA:ZcV (Zaj ops.toList f e)=true) (hedB:ZcV (Zaj ops.toList e f)=true) {β0:Emb} {w0:World} (hnx:β0.nx=s.H.next)
    {x:AExit} {s':St} (hendA:(rA=[]∧x=.normal∧s'=⟨tmE,s.dfs,He⟩)∨∃ j rest' v H',rA=j::rest'∧x=.panic v∧s'=⟨[],s.dfs,H'⟩∧PanicsAt P call (Zaj ops.toList f e) j tmE He v H')
    (hendB:(rB=[]∧x=.normal∧s'=⟨tmE,s.dfs,He⟩)∨∃ j rest' v H',rB=j::rest'∧x=.panic v∧s'=⟨[],s.dfs,H'⟩∧PanicsAt P call (Zaj ops.toList e f) j tmE He v H')
    {ro:Option Nat} {n:Nat} {Q:Exit→Act→World→Prop} (hQ:∀ e a' w',OutRel P N0 β0 w0 x s' e a' w'→Q e a' w') :
    ∀ (fuel:Nat) (listed:Array Bool) (γ:Emb) (a:Act) (w:World),listed.size=ops.size→listed.toList.count false≤fuel→(Inv P N0 (Zaj ops.toList f e) s TA He β0 w0 (DL listed) γ a w∨(Inv P N0 (Zaj ops.toList e f) s TB He β0 w0 (DL listed) γ a w∧DL listed f=true))→wpAnyIn (WF ro) n P .any ops Q fuel listed a w:=by
 have sz:∀ a b,((Zaj ops.toList a b).toArray).size=ops.size:=by intro a b;simp [ZeO]
 have fin:∀ (listed:Array Bool) (γ:Emb) (a:Act) (w:World),listed.size=ops.size→(Inv P N0 (Zaj ops.toList f e) s TA He β0 w0 (DL listed) γ a w∨(Inv P N0 (Zaj ops.toList e f) s TB He β0 w0 (DL listed) γ a w∧DL listed f=true))→Region.ready .any ops listed=[]→Q .normal a w:=by
  intro listed γ a w hsz hI hr
  have gen:∀ {p q:Nat} {T:List Tr} {rest:List Nat},DCtx P call (Zaj ops.toList p q) s T tmE He rest→ZcV (Zaj ops.toList p q)=true→((rest=[]∧x=.normal∧s'=⟨tmE,s.dfs,He⟩)∨∃ j rest' v H',rest=j::rest'∧x=.panic v∧s'=⟨[],s.dfs,H'⟩∧PanicsAt P call (Zaj ops.toList p q) j tmE He v H') →
      Inv P N0 (Zaj ops.toList p q) s T He β0 w0 (DL listed) γ a w→Q .normal a w:=by
   intro p q T rest hc hed hend hI
   obtain ⟨hre,hall⟩:=Zqo (ops:=(Zaj ops.toList p q).toArray) hc hed (by rw [sz];exact hsz) hI.inT (ZqP hr)
   rcases hend with ⟨_,rfl,rfl⟩ | ⟨j,r,v,H',e,_⟩
   · have h1:tmD (DL listed) T s.tmps=tmE:=by
      rw [Chain.tm T hc.ch]
      exact Ze1 T _ fun t ht=>hall t ht
     have h2:ZaX (DL listed) T He=He:=by
      have:=Zcq (D:=DL listed) (He:=He) T [] (fun t ht _=>hall t ht)
      simpa [ZaX] using this
     have h3:=hI.tm
     have h4:=hI.heap
     rw [h1] at h3
     rw [h2] at h4
     exact hQ _ _ _ ⟨γ,hI.le,⟨.inl h3,hI.dfs,h4⟩,hI.fr,trivial⟩
   · rw [hre] at e;simp at e
  rcases hI with hI | ⟨hI,_⟩
  · exact gen hsw.a hedA hendA hI
  · exact gen hsw.b hedB hendB hI
 intro fuel
 induction fuel with
 | zero =>
  intro listed γ a w hsz hcnt hI
  have hr:Region.ready .any ops listed=[]:=by
   cases hr:Region.ready .any ops listed with
   | nil=>rfl
   | cons j l =>
    have hm:j∈Region.ready .any ops listed:=by rw [hr];simp
    obtain ⟨h0,o,ho,_⟩:=mem_ready.1 hm
    have hlt:j<listed.size:=by rw [hsz];exact (Array.getElem?_eq_some_iff.1 ho).1
    have:=count_set hlt h0
    omega
  exact ⟨hr,fin listed γ a w hsz hI hr⟩
 | succ fuel ih =>
  intro listed γ a w hsz hcnt hI
  refine ⟨fin listed γ a w hsz hI,fun i hi=>?_⟩
  obtain ⟨h0,o,ho,hall⟩:=mem_ready.1 hi
  have hlt:i<listed.size:=by rw [hsz];exact (Array.getElem?_eq_some_iff.1 ho).1
  have hnd:DL listed i=false:=by
   unfold DL
   rw [Array.getD_eq_getD_getElem?,Array.getElem?_eq_getElem hlt] at h0 ⊢
   simpa using h0
  have hcnt':(listed.setIfInBounds i true).toList.count false≤fuel:=by
   have:=count_set hlt h0
   omega
  have hoL:ops.toList[i]?=some o:=by rw [Array.getElem?_toList];exact ho
  have done:∀ p q,(i=p→DL listed q=true)→∃ o',((Zaj ops.toList p q).toArray)[i]?=some o'∧∀ e∈o'.after.toList,Region.binds .any e=true→DL listed e.on=true:=by
   intro p q hpq
   obtain ⟨o',h1,_,_,_,_,_,_,h2⟩:=ZhT (a:=p) (b:=q) hoL
   refine ⟨o',by rw [List.getElem?_toArray];exact h1,fun e he hb=>?_⟩
   rcases h2 e he with h | ⟨h,rfl⟩
   · exact hall e (by simpa using h) hb
   · exact hpq h
  have stepB:Inv P N0 (Zaj ops.toList e f) s TB He β0 w0 (DL listed) γ a w→(i=e→DL listed f=true)→(DL listed f=true∨i=f)→wpOpIn (WF ro) n P ops Q i (wpAnyIn (WF ro) n P .any ops Q fuel (listed.setIfInBounds i true)) a w:=by
   intro hIB hie hor
   obtain ⟨o',g1,g2⟩:=done e f hie
   refine Zmq (a:=e) (b:=f) (Zj9 (ops:=(Zaj ops.toList e f).toArray) hsw.b hnx hIB hendB hQ g1 hnd g2 ?_)
   intro a' w' γ' hI'
   have hI'':Inv P N0 (Zaj ops.toList e f) s TB He β0 w0 (Zf2 (DL listed) i) γ' a' w':=hI'
   rw [←Zqs hlt] at hI''
   refine ih _ γ' a' w' (by simpa using hsz) hcnt' (.inr ⟨hI'',?_⟩)
   rw [Zqs hlt]
   unfold Zf2
   rcases hor with h | h
   · simp [h]
   · simp [h]
  rcases hI with hIA | ⟨hIB,hf⟩
  · by_cases hif:i=f∧DL listed e=false
    · have hIB:=Inv.swap hsw hIA hif.2 (by rw [←hif.1];exact hnd)
      exact stepB hIB (fun h=>(hef (h.symm.trans hif.1)).elim) (.inr hif.1)
    · have hie:i=f→DL listed e=true:=by
       intro h
       cases hd:DL listed e with
       | true=>rfl
       | false=>exact (hif ⟨h,hd⟩).elim
      obtain ⟨o',g1,g2⟩:=done f e hie
      refine Zmq (a:=f) (b:=e) (Zj9 (ops:=(Zaj ops.toList f e).toArray) hsw.a hnx hIA hendA hQ g1 hnd g2 ?_)
      intro a' w' γ' hI'
      have hI'':Inv P N0 (Zaj ops.toList f e) s TA He β0 w0 (Zf2 (DL listed) i) γ' a' w':=hI'
      rw [←Zqs hlt] at hI''
      exact ih _ γ' a' w' (by simpa using hsz) hcnt' (.inl hI'')
  · exact stepB hIB (fun _=>hf) (.inl hf)
theorem ZkE (hcall:Zbn P call) (hm:P.follows .mixedOrders=true) {ro:Option Nat} {n id:Nat} {x:AExit} {s':St} {β:Emb} {a:Act} {w:World} {e f:Nat}
    (he:ZeG P call ops.toList s e f=some (x,s')) (hs:SRel P N0 β s a w) (Q:Exit→Act→World→Prop) (hQ:∀ e a' w',OutRel P N0 β w x s' e a' w'→Q e a' w'):(Code.region id ops true).wpIn (WF ro) n P Q a w:=by
 refine wpIn_region_any hm ?_
 unfold ZeG at he
 split at he
 case h_2=>simp at he
 rename_i T He x1 s1 hrun
 split at he
 case isFalse=>simp at he
 rename_i hcond
 obtain ⟨hst,hrd,hap⟩:=hcond
 simp only [Option.some.injEq,Prod.mk.injEq] at he
 obtain ⟨rfl,rfl⟩:=he
 obtain ⟨p,hsp⟩:=SwapOK.of hst
 obtain ⟨tmE,rA,rB,TB,hsw,hend,hpl⟩:=Zvo hcall hsp hrun hrd hap
 have hendB:(rB=[]∧x1=.normal∧s1=⟨tmE,s.dfs,He⟩)∨∃ j rest' v H',rB=j::rest'∧x1=.panic v∧s1=⟨[],s.dfs,H'⟩∧PanicsAt P call (Zaj ops.toList e f) j tmE He v H':=by
  rcases hend with ⟨h1,h2,h3⟩ | ⟨j,r,v,H',h1,h2,h3,h4⟩
  · exact .inl ⟨hsw.rest.1 h1,h2,h3⟩
  · obtain ⟨r',hr'⟩:=hsw.rest2 j r h1
    refine .inr ⟨j,r',v,H',hr',h2,h3,?_⟩
    obtain ⟨o,ho,hw,hh⟩:=h4.ex
    have hne:∀ i o,storeAt ops.toList i=true→j=i→(Zaj ops.toList f e)[j]?=some o→((∃ f args H1,Zao P He (aev tmE) o=some (.enter f args H1)∧call f args H1=some (.panic v,H'))∨Zao P He (aev tmE) o=some (.panic v H'))→False:=by
     intro i o hst hji ho hh
     obtain ⟨o0,t,q,y,g1,g2,_,_⟩:=Zhs hst
     obtain ⟨o1,k1,k2,_⟩:=Zfx ho
     rw [hji,g1] at k1
     obtain rfl:=Option.some.inj k1
     have hop:o.op=.store t q y:=by rw [k2];exact g2
     rcases hh with ⟨g,ar,G,hh,_⟩ | hh
     · obtain ⟨_,_,_,_,h3,_⟩:=ZaQ hop hh;cases h3
     · obtain ⟨_,_,_,_,h3,_⟩:=ZaQ hop hh;cases h3
    have hje:j≠e:=fun h=>hne e o hsp.se h ho hh
    have hjf:j≠f:=fun h=>hne f o hsp.sf h ho hh
    refine ⟨o,?_,by rw [ZeV] at hw ⊢;exact hw,hh⟩
    rw [ZaN,if_neg hje]
    rw [ZaN,if_neg hjf] at ho
    exact ho
 have hh0:HRel P N0 β s.H { w with drawn:=w.drawn+1 }:=hs.heap.of_heap rfl
 have hDL:DL (Array.replicate ops.size false)=fun _=>false:=by
  funext k
  unfold DL
  rw [Array.getD_eq_getD_getElem?,Array.getElem?_replicate]
  split<;>rfl
 obtain ⟨γ,le,hr,hl⟩:=ZgC hcall (D:=fun _=>false) T hsw.a.ch (fun _ _=>rfl) hh0
 refine ZuA hsw hsp.ne hsp.edA hsp.edB hs.heap.nx hend hendB hQ ops.size _ γ a _ (by simp) (by simp) (.inl ?_)
 rw [hDL]
 refine ⟨fun j o h=>by simp at h,fun j h=>by simp at h,?_,DRels.mono le (Fr.of_heap (by rfl) (by rfl) (by rfl)) hs.dfs,hr,le,Fr.of_heap rfl rfl rfl,?_⟩
 · rw [Ze0];exact hs.tmps.mono le
 · intro t ht _ _ _
   rw [hl]
   have h1:=((Chain.next hcall T hsw.a.ch).2 t ht).next
   cases hb:β.live t.H.next with
   | false=>rfl
   | true=>have:=hs.heap.live _ hb;omega
theorem Zl7 (hcall:Zbn P call) (hm:P.follows .mixedOrders=true) {ro:Option Nat} {n id:Nat} {x:AExit} {s':St} {β:Emb} {a:Act} {w:World}
    (he:ZbK P call ops.toList s=some (x,s')) (hs:SRel P N0 β s a w) (Q:Exit→Act→World→Prop) (hQ:∀ e a' w',OutRel P N0 β w x s' e a' w'→Q e a' w'):(Code.region id ops true).wpIn (WF ro) n P Q a w:=by
 unfold ZbK at he
 split at he
 · exact ZkF hcall hm he hs Q hQ
 · exact ZkE hcall hm he hs Q hQ
end
end
section
open Go
section
variable {P:Program} {N0:Fz} {β:Emb} {H:AHeap} {w:World}
theorem HRel.weaken {N1:Fz} (h:HRel P N1 β H w) (hl:∀ b,N0.low b→N1.low b):HRel P N0 β H w:=by
 constructor
 · intro i k b o r h1 h2
   obtain ⟨c,fz,hok⟩:=h.row _ _ _ _ _ h1 h2
   exact ⟨c,fz,{ blk:=hok.blk,size:=hok.size,elem:=hok.elem,robes:=hok.robes,cell:=hok.cell,own:=fun e=>⟨(hok.own e).1,fun hb=>(hok.own e).2.1 (hl _ hb),(hok.own e).2.2⟩,gen:=hok.gen }⟩
 · intro i b es h1 h2
   obtain ⟨a,c⟩:=h.map _ _ _ h1 h2
   exact ⟨fun hb=>a (hl _ hb),c⟩
 · exact h.dom
 · exact h.domM
 · exact h.fresh
 · exact h.stle
 · exact h.inj
 · exact h.injM
 · intro b hb;exact h.base b (hl _ hb)
 · exact h.nx
 · exact h.liveR
 · exact h.liveM
 · exact h.live
 · intro i b h1
   obtain ⟨q,q',h2,h3,h4,h5⟩:=h.lp _ _ h1
   exact ⟨q,q',h2,fun hb=>h3 (hl _ hb),h4,h5⟩
 · exact h.injL
theorem HRel.freeze (h:HRel P N0 β H w) {r:Nat} {d:Option (List Deferred)} (hr:w.heap[r]?=some (.deferred d)) (n:Nat):HRel P ⟨fun b=>N0.low b∨b=r,n⟩ β H w:=by
 constructor
 · intro i k b o rr h1 h2
   obtain ⟨c,fz,hok⟩:=h.row _ _ _ _ _ h1 h2
   refine ⟨c,fz,{ blk:=hok.blk,size:=hok.size,elem:=hok.elem,robes:=hok.robes,cell:=hok.cell,own:=fun e=>⟨(hok.own e).1,?_,(hok.own e).2.2⟩,gen:=hok.gen }⟩
   rintro (hb | rfl)
   · exact (hok.own e).2.1 hb
   · have:=hok.blk;rw [hr] at this;simp at this
 · intro i b es h1 h2
   obtain ⟨a,ces,cl,c,d⟩:=h.map _ _ _ h1 h2
   refine ⟨?_,ces,cl,c,d⟩
   rintro (hb | rfl)
   · exact a hb
   · rw [hr] at c;simp at c
 · exact h.dom
 · exact h.domM
 · exact h.fresh
 · exact h.stle
 · exact h.inj
 · exact h.injM
 · rintro b (hb | rfl)
   · exact h.base b hb
   · exact (Array.getElem?_eq_some_iff.1 hr).1
 · exact h.nx
 · exact h.liveR
 · exact h.liveM
 · exact h.live
 · intro i b h1
   obtain ⟨q,q',h2,h3,h4,h5⟩:=h.lp _ _ h1
   refine ⟨q,q',h2,?_,h4,h5⟩
   rintro (hb | rfl)
   · exact h3 hb
   · rw [hr] at h4;simp at h4
 · exact h.injL
theorem HRel.keep (h:HRel P N0 β H w) {w':World} (hs:w.heap.size≤w'.heap.size) (hk:∀ (b:Nat) (o:Obj),w.heap[b]?=some o→(∀ d,o≠.deferred d)→w'.heap[b]?=some o):HRel P N0 β H w':=by
 constructor
 · intro i k b o r h1 h2
   obtain ⟨c,fz,hok⟩:=h.row _ _ _ _ _ h1 h2
   exact ⟨c,fz,{ blk:=hk _ _ hok.blk (fun d=>by simp),size:=hok.size,elem:=hok.elem,robes:=hok.robes,cell:=hok.cell,own:=hok.own,gen:=hok.gen }⟩
 · intro i b es h1 h2
   obtain ⟨a,ces,cl,c,d⟩:=h.map _ _ _ h1 h2
   exact ⟨a,ces,cl,hk _ _ c (fun d=>by simp),d⟩
 · exact h.dom
 · exact h.domM
 · exact h.fresh
 · exact h.stle
 · exact h.inj
 · exact h.injM
 · intro b hb;have:=h.base b hb;omega
 · exact h.nx
 · exact h.liveR
 · exact h.liveM
 · exact h.live
 · intro i b h1
   obtain ⟨q,q',h2,h3,h4,h5⟩:=h.lp _ _ h1
   exact ⟨q,q',h2,h3,hk _ _ h4 (fun d=>by simp),h5⟩
 · exact h.injL
theorem HRel.allocOther (h:HRel P N0 β H w) (o:Obj):HRel P N0 β H (w.alloc o) :=
 h.keep (by rw [World.size_alloc];omega) fun b o' hb _=>by
  have hlt:=(Array.getElem?_eq_some_iff.1 hb).1
  show (w.heap.push o)[b]?=some o'
  rw [Array.getElem?_push,if_neg (by omega)];exact hb
theorem HRel.putDeferred (h:HRel P N0 β H w) {r:Nat} {d:Option (List Deferred)} (hr:w.heap[r]?=some (.deferred d)) (d':Option (List Deferred)):HRel P N0 β H (w.putObj r (.deferred d')) :=
 h.keep (by simp) fun b o' hb hne=>by
  have:b≠r:=by rintro rfl;rw [hr] at hb;exact hne d (by simpa using hb.symm)
  rw [World.putObj_heap_other this];exact hb
def Emb.addLoop (β:Emb) (i b:Nat):Emb:={ β with loop:=fun i'=>if i'=i then some b else β.loop i',nx:=i+1 }
theorem HRel.pushLoop (h:HRel P N0 β H w) {r:ALoop} {r':Loop} (hr:LRel β r r') :
    let γ:=β.addLoop H.next w.heap.size
    Emb.le β γ∧HRel P N0 γ (H.push (.loop r)) (w.alloc (.loop r'))∧γ.loop H.next=some w.heap.size:=by
 intro γ
 have hnone:β.loop H.next=none:=by
  cases e:β.loop H.next with
  | none=>rfl
  | some b=>exact absurd rfl (h.loop_ne e (.inl (h.fresh _ (Nat.le_refl _))))
 have le:Emb.le β γ:=by
  refine ⟨fun _ _ _ e=>e,fun _ _ e=>e,?_,fun _ _ _ _ _=>rfl,fun _ _ _ _ _=>rfl,fun _ e=>e,fun _ e=>.inl e,?_⟩
  · intro i b e
    simp only [γ,Emb.addLoop]
    rw [if_neg];exact e
    rintro rfl;rw [hnone] at e;simp at e
  · show β.nx≤H.next+1
    rw [h.nx];omega
 have hnl:β.live H.next=false:=by
  cases e:β.live H.next with
  | false=>rfl
  | true=>have:=h.live _ e;omega
 have hlow:∀ b,b≠w.heap.size→(w.alloc (.loop r')).heap[b]?=w.heap[b]?:=by
  intro b hb
  show (w.heap.push _)[b]?=_
  rw [Array.getElem?_push,if_neg hb]
 have hview:∀ j,j≠H.next→(H.push (.loop r)).view j=H.view j:=fun j hj=>by unfold AHeap.view;rw [AHeap.push_get_old _ _ hj]
 have hvn:(H.push (.loop r)).view H.next=none:=ZeW (AHeap.push_get_new _ _)
 have hne:∀ i k p,β.row i k=some p→i≠H.next:=by
  rintro i k p e rfl
  have:=h.liveR _ _ _ e;rw [hnl] at this;simp at this
 have hneM:∀ i b,β.map i=some b→i≠H.next:=by
  rintro i b e rfl
  have:=h.liveM _ _ e;rw [hnl] at this;simp at this
 refine ⟨le,?_,by simp [γ,Emb.addLoop]⟩
 constructor
 · intro i k b o rr h1 h2
   have h1':β.row i k=some (b,o):=h1
   rw [hview _ (hne _ _ _ h1')] at h2
   obtain ⟨c,fz,hok⟩:=h.row _ _ _ _ _ h1' h2
   exact ⟨c,fz,hok.mono le.u (hlow _ (by have:=h.rowblk_lt h1';omega)) rfl rfl⟩
 · intro i b es h1 h2
   have h1':β.map i=some b:=h1
   rw [AHeap.push_get_old _ _ (hneM _ _ h1')] at h2
   obtain ⟨a,ces,cl,c,d⟩:=h.map _ _ _ h1' h2
   exact ⟨a,ces,cl,by rw [hlow _ (by have:=h.mapblk_lt h1';omega)];exact c,d.mono le⟩
 · intro i k p h1
   have h1':β.row i k=some p:=h1
   rw [hview _ (hne _ _ _ h1')];exact h.dom _ _ _ h1'
 · intro i b h1
   have h1':β.map i=some b:=h1
   rw [AHeap.push_get_old _ _ (hneM _ _ h1')];exact h.domM _ _ h1'
 · intro j hj
   have hj':H.next+1≤j:=hj
   rw [AHeap.push_get_old _ _ (by omega)];exact h.fresh _ (by omega)
 · intro i rr h1 j
   have hi:i≠H.next:=by rintro rfl;rw [hvn] at h1;simp at h1
   rw [hview _ hi] at h1;exact h.stle _ _ h1 j
 · intro i k b o1 i' k' o1' r1 r2 h1 h2 h3 h4
   have hi:i≠H.next:=by rintro rfl;rw [hvn] at h3;simp at h3
   have hi':i'≠H.next:=by rintro rfl;rw [hvn] at h4;simp at h4
   rw [hview _ hi] at h3;rw [hview _ hi'] at h4
   exact h.inj _ _ _ _ _ _ _ _ _ h1 h2 h3 h4
 · exact h.injM
 · intro b hb;have:=h.base b hb;rw [World.size_alloc];omega
 · rfl
 · exact h.liveR
 · exact h.liveM
 · intro i hi;have:=h.live i hi;show i<H.next+1;omega
 · intro i b h1
   by_cases hi:i=H.next
   · subst hi
     simp only [γ,Emb.addLoop,if_true] at h1
     obtain rfl:w.heap.size=b:=by simpa using h1
     exact ⟨r,r',AHeap.push_get_new _ _,fun hb=>Nat.lt_irrefl _ (h.base _ hb),World.alloc_heap_new _ _,hr.monoU le.u⟩
   · simp only [γ,Emb.addLoop,if_neg hi] at h1
     obtain ⟨q,q',h2,h3,h4,h5⟩:=h.lp _ _ h1
     exact ⟨q,q',by rw [AHeap.push_get_old _ _ hi];exact h2,h3,by rw [hlow _ (by have:=h.loopblk_lt h1;omega)];exact h4,h5.monoU le.u⟩
 · intro i i' b h1 h2
   simp only [γ,Emb.addLoop] at h1 h2
   split at h1
   · rename_i e
     split at h2
     · rename_i e';exact e.trans e'.symm
     · have:=h.loopblk_lt h2;simp at h1;omega
   · split at h2
     · have:=h.loopblk_lt h1;simp at h2;omega
     · exact h.injL _ _ _ h1 h2
theorem HRel.setLoop (h:HRel P N0 β H w) {K l:Nat} {r:ALoop} {r':Loop} (hl:β.loop K=some l) (hr:LRel β r r') :
    HRel P N0 β (H.set K (.loop r)) (w.putObj l (.loop r'))∧Fr N0 w (w.putObj l (.loop r')):=by
 obtain ⟨q,q',hg,hN,hw,_⟩:=h.lp _ _ hl
 have hvK:H.view K=none:=ZeW hg
 have hold:∀ b,b≠l→(w.putObj l (.loop r')).heap[b]?=w.heap[b]?:=fun b hb=>World.putObj_heap_other hb
 have hnew:(w.putObj l (.loop r')).heap[l]?=some (.loop r'):=World.putObj_heap_same (Array.getElem?_eq_some_iff.1 hw).1
 have hget:∀ i,i≠K→(H.set K (.loop r)).get i=H.get i:=fun i hi=>by simp [AHeap.set,hi]
 have hview:∀ i,i≠K→(H.set K (.loop r)).view i=H.view i:=fun i hi=>by unfold AHeap.view;rw [hget i hi]
 have hgK:(H.set K (.loop r)).get K=some (.loop r):=by simp [AHeap.set]
 have hvn:(H.set K (.loop r)).view K=none:=ZeW hgK
 have hneR:∀ i k p,β.row i k=some p→i≠K:=by
  rintro i k p e rfl
  obtain ⟨r0,hr0⟩:=h.dom _ _ _ e
  rw [hvK] at hr0;simp at hr0
 have hneM:∀ i b,β.map i=some b→i≠K:=by
  rintro i b e rfl
  obtain ⟨r0,hr0⟩:=h.domM _ _ e
  rw [hg] at hr0;simp at hr0
 refine ⟨?_,⟨by simp,fun b hb=>hold _ (fun e=>hN (e▸hb)),rfl,rfl⟩⟩
 constructor
 · intro i k b o rr h1 h2
   rw [hview _ (hneR _ _ _ h1)] at h2
   obtain ⟨c,fz,hok⟩:=h.row _ _ _ _ _ h1 h2
   refine ⟨c,fz,hok.mono (Emb.leU.refl _) (hold _ ?_) rfl rfl⟩
   rintro rfl;have:=hok.blk;rw [hw] at this;simp at this
 · intro i b es h1 h2
   rw [hget _ (hneM _ _ h1)] at h2
   obtain ⟨a,ces,cl,c,d⟩:=h.map _ _ _ h1 h2
   refine ⟨a,ces,cl,?_,d⟩
   rw [hold _ (by rintro rfl;rw [hw] at c;simp at c)];exact c
 · intro i k p h1
   rw [hview _ (hneR _ _ _ h1)];exact h.dom _ _ _ h1
 · intro i b h1
   rw [hget _ (hneM _ _ h1)];exact h.domM _ _ h1
 · intro i hi
   have hi':H.next≤i:=hi
   have hlt:=h.lt_of_get hg
   rw [hget _ (by omega)];exact h.fresh _ hi'
 · intro i rr h1 j
   have hi:i≠K:=by rintro rfl;rw [hvn] at h1;simp at h1
   rw [hview _ hi] at h1;exact h.stle _ _ h1 j
 · intro i k b1 o1 i' k' o1' r1 r2 h1 h2 h3 h4
   rw [hview _ (hneR _ _ _ h1)] at h3;rw [hview _ (hneR _ _ _ h2)] at h4
   exact h.inj _ _ _ _ _ _ _ _ _ h1 h2 h3 h4
 · exact h.injM
 · intro b hb;simpa using h.base b hb
 · exact h.nx
 · exact h.liveR
 · exact h.liveM
 · exact h.live
 · intro i b h1
   by_cases hi:i=K
   · subst hi
     rw [hl] at h1
     obtain rfl:l=b:=by simpa using h1
     exact ⟨r,r',hgK,hN,hnew,hr⟩
   · obtain ⟨q2,q2',h2,h3,h4,h5⟩:=h.lp _ _ h1
     have hb:b≠l:=by rintro rfl;exact hi (h.injL _ _ _ h1 hl)
     exact ⟨q2,q2',by rw [hget _ hi];exact h2,h3,by rw [hold _ hb];exact h4,h5⟩
 · exact h.injL
end
end
section
open Go
def ZCV:AExit→Bool
 | .normal=>true
 | _=>false
def Zia:AExit→Option (Option Code)
 | .normal=>some none
 | .ret=>some (some .ret)
 | .exit i=>some (some (.exit i))
 | .panic _=>none
def Znn:Option Code→Option AExit
 | none=>some .normal
 | some .ret=>some .ret
 | some (.exit i)=>some (.exit i)
 | _=>none
def ZbV (P:Program) (s:St) (g:Operand) (ps:Array Tmp) (as body:Code):Option (FuncId×List Value×AHeap) :=
 if Zaa g then match aev s.tmps g with
  | .func (.func f) first cap=>match P.funcs[f]? with
   | some fn=>if Func.enters fn then some (f,first.toList++[.func (.yield s.H.next) #[] #[]]++cap.toList,s.H.push (.loop ⟨.ready,none,s.tmps,ps,as,body⟩)) else none
   | none=>none
  | _=>none
 else none
def Zcc (K:Nat) (s:St):Option (AEnd×AHeap)→Option (AExit×St)
 | some (.ret _,H')=>match H'.get K with
  | some (.loop r)=>if r.state=.busy then none else match Znn r.pending with
   | some x=>some (x,⟨s.tmps,s.dfs,H'.set K (.loop { r with state:=.exhausted })⟩)
   | none=>none
  | _=>none
 | _=>none
noncomputable def Zae (P:Program) (call:CallT) (rnd:Bool):Nat→Code→St→Option (AExit×St)
 | _,.skip,s=>some (.normal,s)
 | _,.region _ ops draw,s=>if draw then ZbK P call ops.toList s else ZaT P call rnd ops.toList (List.range ops.size) s
 | k,.seq a b,s=>match Zae P call rnd k a s with
  | some (.normal,s1)=>Zae P call rnd k b s1
  | r=>r
 | k,.cond c a b,s=>if Zaa c then match ZdF (aev s.tmps c) with
     | some true=>Zae P call rnd k a s
     | some false=>Zae P call rnd k b s
     | none=>none
  else none
 | k,.block id a,s=>match Zae P call rnd k a s with
  | some (.exit i,s1)=>if i=id then some (.normal,s1) else some (.exit i,s1)
  | r=>r
 | 0,.loop _,_=>none
 | k+1,.loop a,s=>match Zae P call rnd k a s with
  | some (.normal,s1)=>Zae P call rnd k (.loop a) s1
  | r=>r
 | _,.exit id,s=>some (.exit id,s)
 | _,.ret,s=>some (.ret,s)
 | _,.label _,s=>some (.normal,s)
 | _,.rangeFunc g ps as body,s=>if rnd then none else match ZbV P s g ps as body with
  | some (f,args,H1)=>Zcc s.H.next s (call f args H1)
  | none=>none
 | _,.scope _,_=>none
 | _,.goto _,_=>none
 | _,.refuse _,_=>none
termination_by k c _=>(k,SizeOf.sizeOf c)
def OutC (P:Program) (N0:Fz) (β:Emb) (w:World) (x:AExit) (s:St):Exit→Act→World→Prop :=
 fun e a' w'=>∃ N1 γ,N1.b=N0.b∧(∀ b,N0.low b→N1.low b)∧Emb.le β γ∧SRelX P N1 γ x s a' w'∧Fr N0 w w'∧Zmj γ x e
theorem OutRel.c {P:Program} {N0:Fz} {β:Emb} {w:World} {x:AExit} {s:St} {e:Exit} {a:Act} {w':World} (h:OutRel P N0 β w x s e a w'):OutC P N0 β w x s e a w':=by
 obtain ⟨γ,h1,h2,h3,h4⟩:=h
 exact ⟨N0,γ,rfl,fun _ h=>h,h1,h2,h3,h4⟩
theorem Fr.weaken {N0 N1:Fz} {w w':World} (h:Fr N1 w w') (hl:∀ b,N0.low b→N1.low b):Fr N0 w w':=⟨h.size,fun b hb=>h.low b (hl b hb),h.os,h.out⟩
theorem OutC.trans {P:Program} {N0 N1:Fz} {β γ:Emb} {w w1:World} {x:AExit} {s:St} (hb:N1.b=N0.b) (hl:∀ b,N0.low b→N1.low b) (le:Emb.le β γ) (hf:Fr N0 w w1) {e:Exit} {a:Act} {w':World} (h:OutC P N1 γ w1 x s e a w'):OutC P N0 β w x s e a w':=by
 obtain ⟨N2,δ,a1,a2,h1,h2,h3,h4⟩:=h
 exact ⟨N2,δ,a1.trans hb,fun b h=>a2 b (hl b h),le.trans h1,h2,hf.trans (h3.weaken hl),h4⟩
section
variable {P:Program} {N0:Fz} {call:CallT}
def Zqr (P:Program) (call:CallT) (k:Nat):Prop:=∀ (ro:Option Nat) (n:Nat) (c:Code) (s:St) (x:AExit) (s':St) (N0:Fz) (β:Emb) (a:Act) (w:World),Zae P call ro.isSome k (.loop c) s=some (x,s')→SRel P N0 β s a w→N0.b≤w.heap.size →
 ∀ Q:Exit→Act→World→Prop,(∀ e a' w',OutC P N0 β w x s' e a' w'→Q e a' w')→Code.roundsIn (WF ro) n P c Q k a w
def ZxK (P:Program) (call:CallT) (k:Nat) (c:Code):Prop:=∀ (ro:Option Nat) (n:Nat) (s:St) (x:AExit) (s':St) (N0:Fz) (β:Emb) (a:Act) (w:World),Zae P call ro.isSome k c s=some (x,s')→SRel P N0 β s a w→N0.b≤w.heap.size →
 ∀ Q:Exit→Act→World→Prop,(∀ e a' w',OutC P N0 β w x s' e a' w'→Q e a' w')→c.wpIn (WF ro) n P Q a w
theorem OutC.normal {β:Emb} {w:World} {s:St} {e:Exit} {a':Act} {w':World} (h:OutC P N0 β w .normal s e a' w') (hb:N0.b≤w.heap.size):e=.normal∧∃ N1 γ,N1.b=N0.b∧(∀ b,N0.low b→N1.low b)∧Emb.le β γ∧SRel P N1 γ s a' w'∧Fr N0 w w'∧N1.b≤w'.heap.size:=by
 obtain ⟨N1,γ,h1,h2,le,hs,hf,hx⟩:=h
 cases e<;>first | exact hx.elim | skip
 refine ⟨rfl,N1,γ,h1,h2,le,⟨?_,hs.dfs,hs.heap⟩,hf,by rw [h1];exact Nat.le_trans hb hf.size⟩
 rcases hs.tmps with h | ⟨_,v,hv⟩
 · exact h
 · cases hv
theorem OutC.not_normal {β:Emb} {w:World} {x:AExit} {s:St} {e:Exit} {a':Act} {w':World} (hx:x≠.normal) (h:OutC P N0 β w x s e a' w'):e≠.normal:=by
 obtain ⟨N1,γ,_,_,le,hs,hf,hxr⟩:=h
 intro he;subst he
 cases x<;>first | exact hx rfl | exact hxr.elim
theorem Zsq {Q:Exit→Act→World→Prop} {K:Act→World→Prop} {e:Exit} {a:Act} {w:World} (h:e≠.normal) (hq:Q e a w):Exit.then K Q e a w:=by
 cases e<;>first | exact absurd rfl h | exact hq
theorem ZgW {β:Emb} {s:St} {a:Act} {w:World} (hs:SRel P N0 β s a w) {x:AExit} {e:Exit} (hx:Zmj β x e):OutC P N0 β w x s e a w :=
 ⟨N0,β,rfl,fun _ h=>h,Emb.le.refl _,hs.x _,Fr.refl _ _,hx⟩
theorem Zoq (hcall:Zbn P call) {n:Nat} {g:Operand} {ps:Array Tmp} {as body:Code} {s:St} {x:AExit} {s':St} {β:Emb} {a:Act} {w:World} {f:FuncId} {args:List Value} {H1:AHeap}
    (h1:ZbV P s g ps as body=some (f,args,H1)) (h2:Zcc s.H.next s (call f args H1)=some (x,s')) (hs:SRel P N0 β s a w) (hb:N0.b≤w.heap.size)
    (Q:Exit→Act→World→Prop) (hQ:∀ e a' w',OutC P N0 β w x s' e a' w'→Q e a' w'):(Code.rangeFunc g ps as body).wpIn (WF none) n P Q a w:=by
 unfold ZbV at h1
 split at h1
 case isFalse=>simp at h1
 rename_i hok
 split at h1
 case h_2=>simp at h1
 rename_i f0 first cap hg
 split at h1
 case h_2=>simp at h1
 rename_i fn hfn
 split at h1
 case isFalse=>simp at h1
 rename_i hen
 simp only [Option.some.injEq,Prod.mk.injEq] at h1
 obtain ⟨rfl,rfl,rfl⟩:=h1
 unfold Zcc at h2
 split at h2
 case h_2=>simp at h2
 rename_i v H' hc
 split at h2
 case h_2=>simp at h2
 rename_i r hr
 split at h2
 case isTrue=>simp at h2
 rename_i hst
 split at h2
 case h_2=>simp at h2
 rename_i x0 hx0
 simp only [Option.some.injEq,Prod.mk.injEq] at h2
 obtain ⟨rfl,rfl⟩:=h2
 have hv:=ZhS hs.tmps hok
 rw [hg] at hv
 obtain ⟨first',cap',hg',hf1,hf2⟩:=hv.inv_func
 refine wpIn_rangeFunc fun fnid _=>?_
 let r0:Loop:={ state:=.ready,pending:=none,fn:=fnid,tmps:=a.tmps,params:=ps,assign:=as,body:=body,defers:=w.heap.size }
 let wa:=w.alloc (.deferred (some []))
 have hsz:wa.heap.size=w.heap.size+1:=World.size_alloc _ _
 have hda:wa.heap[w.heap.size]?=some (.deferred (some [])):=World.alloc_heap_new _ _
 have hfa:Fr N0 w wa:=⟨by omega,fun b hb'=>by have:=hs.heap.base b hb';show (w.heap.push _)[b]?=_;rw [Array.getElem?_push,if_neg (by omega)],rfl,rfl⟩
 let N1:Fz:=⟨fun b=>N0.low b∨b=w.heap.size,N0.b⟩
 have hra:HRel P N1 β s.H wa:=(hs.heap.allocOther _).freeze hda _
 obtain ⟨le1,hrl,hlK⟩:=hra.pushLoop (r:=⟨.ready,none,s.tmps,ps,as,body⟩) (r':=r0) ⟨rfl,rfl,hs.tmps,rfl,rfl,rfl⟩
 generalize hγ:β.addLoop s.H.next wa.heap.size=γ at le1 hrl hlK
 have hfl:Fr N1 wa (wa.alloc (.loop r0)):=⟨by have:=World.size_alloc wa (.loop r0);omega,fun b hb'=>by have:=hra.base b hb';show (wa.heap.push _)[b]?=_;rw [Array.getElem?_push,if_neg (by omega)],rfl,rfl⟩
 have hargs:VRels γ (first.toList++[Value.func (.yield s.H.next) #[] #[]]++cap.toList) (first'++#[Value.func (.yield (w.heap.size+1)) #[] #[]]++cap').toList:=by
  have:=VRels.append (VRels.append (VRels.mono le1 hf1) (.cons (.yield (by rw [hlK,hsz])) .nil)) (VRels.mono le1 hf2)
  simpa [List.append_assoc] using this
 refine ⟨w.heap.size+1,_,_,{ target:=.fn (.func f0) cap',args:=first'++#[.func (.yield (w.heap.size+1)) #[] #[]] },wa.alloc (.loop r0),f0,first'++#[.func (.yield (w.heap.size+1)) #[] #[]]++cap',wa.alloc (.loop r0),
  run_enterLoop_outer fnid a.tmps ps as body,?_,fun _ _=>trivial,?_,fun hx=>by simp [WF,Fence.wide] at hx,?_⟩
 · simp only [resolve,rangeCall,hg',Deferred.ofValue,Sem.run_pure,List.map_toArray,List.map_cons,List.map_nil]
   rfl
 · simp only [invoke,Zfu hfn hen]
 have hcl:=(hcall _ _ _ _ _ hc).2 N1 γ (wa.alloc (.loop r0)) (.enter f0 (first'++#[.func (.yield (w.heap.size+1)) #[] #[]]++cap')) hrl (.fn hfn hargs) none (n-1)
 refine CallsIn.mono hcl ?_
 intro e w3 hcr
 obtain ⟨δ,le2,hh3,he3,hf3⟩:=hcr
 cases e with
 | panicked chain=>exact he3.elim
 | outgrown=>exact he3.elim
 | returned v' =>
  have hlK3:δ.loop s.H.next=some (w.heap.size+1):=by rw [←hsz];exact le2.loop _ _ hlK
  obtain ⟨q,q',hq1,hq2,hq3,hq4⟩:=hh3.lp _ _ hlK3
  rw [hr] at hq1
  obtain rfl:r=q:=by simpa using hq1
  have hst':q'.state≠.busy:=by rw [hq4.state];exact hst
  obtain ⟨hh4,hf4⟩:=hh3.setLoop (r:={ r with state:=.exhausted }) (r':={ q' with state:=.exhausted }) hlK3 ⟨rfl,hq4.pending,hq4.tmps,hq4.params,hq4.assign,hq4.body⟩
  have hw4:Fr N0 w (w3.putObj (w.heap.size+1) (.loop { q' with state:=.exhausted })):=hfa.trans (((hfl.trans hf3).trans hf4).weaken fun b h=>.inl h)
  have hd4:(w3.putObj (w.heap.size+1) (.loop { q' with state:=.exhausted })).heap[w.heap.size]?=some (.deferred (some [])):=by
   rw [((hfl.trans hf3).trans hf4).low _ (.inr rfl)];exact hda
  have le:Emb.le β δ:=le1.trans le2
  have hs4:SRel P N1 δ ⟨s.tmps,s.dfs,H'.set s.H.next (.loop { r with state:=.exhausted })⟩ { a with defers:=[{ target:=.collected w.heap.size,args:=#[] }]++a.defers } (w3.putObj (w.heap.size+1) (.loop { q' with state:=.exhausted })):=by
   refine ⟨hs.tmps.mono le,.mark (.inr rfl) hb hd4 (fun d hd e=>by have:=hs.dfs.marks_lt d hd _ e;omega) ?_,hh4⟩
   have:DRels P N0 δ (w3.putObj (w.heap.size+1) (.loop { q' with state:=.exhausted })) s.dfs a.defers:=hs.dfs.mono le hw4
   revert this
   generalize (w3.putObj (w.heap.size+1) (.loop { q' with state:=.exhausted }))=W
   intro hd
   generalize s.dfs=l1 at hd
   generalize a.defers=l2 at hd
   induction hd with
   | nil=>exact .nil
   | cons h _ ih=>exact .cons h ih
   | mark h1 h2 h3 h4 _ ih=>exact .mark (.inl h1) h2 h3 h4 ih
  have hout:∀ {e:Exit},Zmj δ x0 e→OutC P N0 β w x0 ⟨s.tmps,s.dfs,H'.set s.H.next (.loop { r with state:=.exhausted })⟩ e { a with defers:=[{ target:=.collected w.heap.size,args:=#[] }]++a.defers } (w3.putObj (w.heap.size+1) (.loop { q' with state:=.exhausted })) :=
   fun hx=>⟨N1,δ,rfl,fun _ h=>.inl h,le,hs4.x _,hw4,hx⟩
  have hend:=run_endLoop (P:=P) hq3 hst'
  generalize (w3.putObj (w.heap.size+1) (.loop { q' with state:=.exhausted }))=W4 at hend hout
  refine ⟨q'.pending,W4,hend,?_⟩
  rw [hq4.pending]
  cases hp:r.pending with
  | none =>
   rw [hp] at hx0
   obtain rfl:AExit.normal=x0:=by simpa [Znn] using hx0
   exact hQ .normal _ _ (hout (e:=.normal) trivial)
  | some c =>
   rw [hp] at hx0
   cases c<;>simp [Znn] at hx0
   · subst hx0;exact wpIn_exit (hQ (.exit _) _ _ (hout (e:=.exit _) (rfl:_=_)))
   · subst hx0;exact wpIn_ret (hQ .ret _ _ (hout (e:=.ret) trivial))
theorem Zip (hcall:Zbn P call) (hm:P.follows .mixedOrders=true) {k:Nat} (hl:Zqr P call k):∀ c,ZxK P call k c:=by
 intro c
 induction c with
 | skip =>
  intro ro n s x s' N0 β a w he hs hb Q hQ
  simp only [Zae,Option.some.injEq,Prod.mk.injEq] at he
  obtain ⟨rfl,rfl⟩:=he
  exact wpIn_skip (hQ _ _ _ (ZgW hs trivial))
 | region id ops draw =>
  intro ro n s x s' N0 β a w he hs hb Q hQ
  rw [Zae] at he
  cases draw with
  | true=>exact Zl7 hcall hm (by simpa using he) hs Q fun e a' w' ho=>hQ _ _ _ ho.c
  | false=>exact wpIn_region (Zl5 hcall _ s β a w (by simpa using he) hs Q fun e a' w' ho=>hQ _ _ _ ho.c)
 | seq c1 c2 ih1 ih2 =>
  intro ro n s x s' N0 β a w he hs hb Q hQ
  rw [Zae] at he
  refine wpIn_seq ?_
  split at he
  · rename_i s1 h1
    refine ih1 ro n s _ _ N0 β a w h1 hs hb _ fun e a' w' ho=>?_
    obtain ⟨rfl,N1,γ,g1,g2,le,hs1,hf,hb1⟩:=ho.normal hb
    exact ih2 ro n s1 _ _ N1 γ a' w' he hs1 hb1 _ fun e2 a2 w2 ho2=>hQ _ _ _ (ho2.trans g1 g2 le hf)
  · rename_i hne
    cases hr:Zae P call ro.isSome k c1 s with
    | none=>rw [hr] at he;simp at he
    | some q =>
     obtain ⟨x1,s1⟩:=q
     rw [hr] at he
     obtain ⟨rfl,rfl⟩:=(by simpa using he:x1=x∧s1=s')
     refine ih1 ro n s _ _ N0 β a w hr hs hb _ fun e a' w' ho=>Zsq (ho.not_normal ?_) (hQ _ _ _ ho)
     intro hx;subst hx;exact hne _ hr
 | cond c c1 c2 ih1 ih2 =>
  intro ro n s x s' N0 β a w he hs hb0 Q hQ
  rw [Zae] at he
  split at he
  case isFalse=>simp at he
  rename_i hok
  have hv:=ZhS hs.tmps hok
  have hb:=ZhQ hv
  split at he
  · rename_i ht
    rw [ht] at hb
    have hbv:a.eval c=.bool true:=by
     cases hc:a.eval c<;>rw [hc] at hb<;>simp_all [ZdF]
    exact wpIn_cond_true hbv (ih1 ro n s _ _ N0 β a w he hs hb0 _ hQ)
  · rename_i ht
    rw [ht] at hb
    have hbv:a.eval c=.bool false:=by
     cases hc:a.eval c<;>rw [hc] at hb<;>simp_all [ZdF]
    exact wpIn_cond_false hbv (ih2 ro n s _ _ N0 β a w he hs hb0 _ hQ)
  · simp at he
 | block id c1 ih1 =>
  intro ro n s x s' N0 β a w he hs hb Q hQ
  rw [Zae] at he
  refine wpIn_block ?_
  split at he
  · rename_i i s1 h1
    refine ih1 ro n s _ _ N0 β a w h1 hs hb _ fun e a' w' ho=>?_
    obtain ⟨N1,γ,g1,g2,le,hs1,hf,hx⟩:=ho
    cases e<;>first | exact hx.elim | skip
    rename_i j
    obtain rfl:i=j:=hx
    split at he
    · rename_i hid
      obtain ⟨rfl,rfl⟩:=(by simpa using he:AExit.normal=x∧s1=s')
      simp only [Exit.inBlock,hid,if_true]
      refine hQ _ _ _ ⟨N1,γ,g1,g2,le,⟨?_,hs1.dfs,hs1.heap⟩,hf,trivial⟩
      rcases hs1.tmps with h | ⟨_,v,hv⟩
      · exact .inl h
      · cases hv
    · rename_i hid
      obtain ⟨rfl,rfl⟩:=(by simpa using he:AExit.exit i=x∧s1=s')
      simp only [Exit.inBlock,hid,if_false]
      exact hQ _ _ _ ⟨N1,γ,g1,g2,le,hs1,hf,rfl⟩
  · rename_i hne
    refine ih1 ro n s _ _ N0 β a w he hs hb _ fun e a' w' ho=>?_
    have hxx:∀ i,x≠.exit i:=by
     intro i hi;subst hi;exact hne _ _ he
    have hq:=hQ _ _ _ ho
    obtain ⟨N1,γ,g1,g2,le,hs1,hf,hx⟩:=ho
    cases e<;>first | exact hq | skip
    rename_i j
    cases x<;>first | exact hx.elim | exact absurd rfl (hxx _)
 | loop c1 ih1 =>
  intro ro n s x s' N0 β a w he hs hb Q hQ
  exact wpIn_loop_rounds k (hl ro n c1 s x s' N0 β a w he hs hb Q hQ)
 | rangeFunc f ps as b _ _ =>
  intro ro n s x s' N0 β a w he hs hb Q hQ
  rw [Zae] at he
  cases ro with
  | some l=>simp at he
  | none =>
   simp only [Option.isSome_none,Bool.false_eq_true,if_false] at he
   split at he
   · rename_i f0 args H1 hrc
     exact Zoq hcall hrc he hs hb Q hQ
   · simp at he
 | exit id =>
  intro ro n s x s' N0 β a w he hs hb Q hQ
  simp only [Zae,Option.some.injEq,Prod.mk.injEq] at he
  obtain ⟨rfl,rfl⟩:=he
  exact wpIn_exit (hQ _ _ _ (ZgW hs rfl))
 | scope b _=>intro ro n s x s' N0 β a w he;rw [Zae] at he;simp at he
 | label l =>
  intro ro n s x s' N0 β a w he hs hb Q hQ
  simp only [Zae,Option.some.injEq,Prod.mk.injEq] at he
  obtain ⟨rfl,rfl⟩:=he
  exact wpIn_label (hQ _ _ _ (ZgW hs trivial))
 | goto l=>intro ro n s x s' N0 β a w he;rw [Zae] at he;simp at he
 | ret =>
  intro ro n s x s' N0 β a w he hs hb Q hQ
  simp only [Zae,Option.some.injEq,Prod.mk.injEq] at he
  obtain ⟨rfl,rfl⟩:=he
  exact wpIn_ret (hQ _ _ _ (ZgW hs trivial))
 | refuse why=>intro ro n s x s' N0 β a w he;rw [Zae] at he;simp at he
theorem ZfY (hcall:Zbn P call) (hm:P.follows .mixedOrders=true):∀ k,(∀ c,ZxK P call k c)∧Zqr P call k:=by
 intro k
 induction k with
 | zero =>
  have hl:Zqr P call 0:=by
   intro ro n c s x s' N0 β a w he
   rw [Zae] at he
   simp at he
  exact ⟨Zip hcall hm hl,hl⟩
 | succ k ih =>
  obtain ⟨ihc,ihl⟩:=ih
  have hl:Zqr P call (k+1):=by
   intro ro n c s x s' N0 β a w he hs hb Q hQ
   rw [Zae] at he
   rw [roundsIn_succ]
   split at he
   · rename_i s1 h1
     refine ihc c ro n s _ _ N0 β a w h1 hs hb _ fun e a' w' ho=>?_
     obtain ⟨rfl,N1,γ,g1,g2,le,hs1,hf,hb1⟩:=ho.normal hb
     exact ihl ro n c s1 _ _ N1 γ a' w' he hs1 hb1 _ fun e2 a2 w2 ho2=>hQ _ _ _ (ho2.trans g1 g2 le hf)
   · rename_i hne
     refine ihc c ro n s _ _ N0 β a w he hs hb _ fun e a' w' ho=>Zsq (ho.not_normal ?_) (hQ _ _ _ ho)
     intro hx;subst hx;exact hne _ he
  exact ⟨Zip hcall hm hl,hl⟩
end
end
section
open Go
def CallT.le (c c':CallT):Prop:=∀ f args H r,c f args H=some r→c' f args H=some r
theorem CallT.le_refl (c:CallT):CallT.le c c:=fun _ _ _ _ h=>h
section
variable {P:Program}
theorem ZbH {call call':CallT} (hle:CallT.le call call') {rnd:Bool} {ops:List Oper} {r:AExit×St}:∀ (is:List Nat) (s:St),ZaT P call rnd ops is s=some r→ZaT P call' rnd ops is s=some r
 | [],s,h=>h
 | i::rest,s,h=>by
  unfold ZaT at h ⊢
  cases ho:ops[i]? with
  | none=>rw [ho] at h;exact ZbH hle rest s h
  | some o =>
   rw [ho] at h
   dsimp only at h ⊢
   split at h
   · rename_i hw
     rw [if_pos hw]
     split at h
     · rename_i c hop
       split at h
       case isFalse=>simp at h
       rename_i hc
       rw [if_pos hc]
       split at h
       case h_2=>simp at h
       rename_i d hd
       exact ZbH hle rest _ h
     · rename_i hnd
       split at h
       · exact ZbH hle rest _ h
       · exact ZbH hle rest _ h
       · split at h
         · rename_i hc
           rw [hle _ _ _ _ hc]
           exact ZbH hle rest _ h
         · rename_i hc
           rw [hle _ _ _ _ hc]
           exact h
         · simp at h
       · exact h
       · simp at h
   · rename_i hw
     rw [if_neg hw]
     exact ZbH hle rest _ h
theorem ZfX {t:Tr} {x y:Option (List Tr×AHeap×AExit×St)} (h:∀ r,x=some r→y=some r) {r:List Tr×AHeap×AExit×St} (e:Zfs t x=some r):Zfs t y=some r:=by
 cases x with
 | none=>simp [Zfs] at e
 | some q=>rw [h q rfl];exact e
theorem Ze9 {call call':CallT} (hle:CallT.le call call') {ops:List Oper} {dfs:List ADef} {r:List Tr×AHeap×AExit×St}:∀ (plan:List Nat) (tm:List Value) (H:AHeap),
    ZaB P call ops dfs plan tm H=some r→ZaB P call' ops dfs plan tm H=some r:=by
 intro plan
 induction plan generalizing r with
 | nil=>intro tm H h;exact h
 | cons j rest ih =>
  intro tm H h
  unfold ZaB at h ⊢
  cases ho:ops[j]? with
  | none=>rw [ho] at h;simp at h
  | some o =>
   rw [ho] at h
   dsimp only at h ⊢
   split at h
   · rename_i hw
     rw [if_pos hw]
     split at h
     · exact ZfX (fun r hr=>ih _ _ hr) h
     · exact ZfX (fun r hr=>ih _ _ hr) h
     · split at h
       · rename_i hc
         rw [hle _ _ _ _ hc]
         exact ZfX (fun r hr=>ih _ _ hr) h
       · rename_i hc
         rw [hle _ _ _ _ hc]
         exact h
       · simp at h
     · exact h
     · simp at h
   · rename_i hw
     rw [if_neg hw]
     exact ZfX (fun r hr=>ih _ _ hr) h
theorem Zio {call call':CallT} (hle:CallT.le call call') {ops:List Oper} {s:St} {r:AExit×St} (h:ZbK P call ops s=some r):ZbK P call' ops s=some r:=by
 unfold ZbK at h ⊢
 split at h
 · unfold Zdj at h ⊢
   split at h
   case h_2=>simp at h
   rename_i T He x s' hr
   rw [Ze9 hle _ _ _ hr]
   exact h
 · unfold ZeG at h ⊢
   split at h
   case h_2=>simp at h
   rename_i T He x s' hr
   rw [Ze9 hle _ _ _ hr]
   exact h
theorem Za2 {rnd:Bool}:∀ (k:Nat) (c:Code) (call call':CallT) (s:St) (r:AExit×St) (k':Nat),CallT.le call call'→k≤k'→Zae P call rnd k c s=some r→Zae P call' rnd k' c s=some r:=by
 intro k
 induction k using Nat.strongRecOn with
 | _ k ihk =>
  intro c
  induction c with
  | seq c1 c2 ih1 ih2 =>
   intro call call' s r k' hle hk h
   rw [Zae] at h ⊢
   split at h
   · rename_i s1 h1
     rw [ih1 _ _ _ _ _ hle hk h1]
     exact ih2 _ _ _ _ _ hle hk h
   · rename_i hne
     rw [ih1 _ _ _ _ _ hle hk h]
     split
     · rename_i s1 h1;rw [h1] at h;exact absurd h (hne _)
     · rfl
  | cond c c1 c2 ih1 ih2 =>
   intro call call' s r k' hle hk h
   rw [Zae] at h ⊢
   split at h
   case isFalse=>simp at h
   rename_i hok
   rw [if_pos hok]
   split at h
   · exact ih1 _ _ _ _ _ hle hk h
   · exact ih2 _ _ _ _ _ hle hk h
   · simp at h
  | block id c1 ih1 =>
   intro call call' s r k' hle hk h
   rw [Zae] at h ⊢
   split at h
   · rename_i i s1 h1
     rw [ih1 _ _ _ _ _ hle hk h1]
     exact h
   · rename_i hne
     rw [ih1 _ _ _ _ _ hle hk h]
     split
     · rename_i i s1 h1;rw [h1] at h;exact absurd h (hne _ _)
     · rfl
  | loop c1 ih1 =>
   intro call call' s r k' hle hk h
   cases k with
   | zero=>rw [Zae] at h;simp at h
   | succ k =>
    obtain ⟨j,rfl⟩:∃ j,k'=j+1:=⟨k'-1,by omega⟩
    rw [Zae] at h ⊢
    split at h
    · rename_i s1 h1
      rw [ihk k (by omega) _ _ _ _ _ _ hle (by omega) h1]
      exact ihk k (by omega) _ _ _ _ _ _ hle (by omega) h
    · rename_i hne
      rw [ihk k (by omega) _ _ _ _ _ _ hle (by omega) h]
      split
      · rename_i s1 h1;rw [h1] at h;exact absurd h (hne _)
      · rfl
  | region id ops draw =>
   intro call call' s r k' hle hk h
   rw [Zae] at h ⊢
   split at h
   · rename_i hd;rw [if_pos hd];exact Zio hle h
   · rename_i hd;rw [if_neg hd];exact ZbH hle _ _ h
  | skip=>intro call call' s r k' hle hk h;rw [Zae] at h ⊢;exact h
  | rangeFunc f ps as b _ _ =>
   intro call call' s r k' hle hk h
   rw [Zae] at h ⊢
   split at h
   case isTrue=>simp at h
   rename_i hr
   rw [if_neg hr]
   split at h
   case h_2=>simp at h
   rename_i f0 args H1 hrc
   cases hc:call f0 args H1 with
   | none=>rw [hc] at h;simp [Zcc] at h
   | some q=>rw [hc] at h;rw [hle _ _ _ _ hc];exact h
  | exit id=>intro call call' s r k' hle hk h;rw [Zae] at h ⊢;exact h
  | scope b _=>intro call call' s r k' hle hk h;rw [Zae] at h;simp at h
  | label l=>intro call call' s r k' hle hk h;rw [Zae] at h ⊢;exact h
  | goto l=>intro call call' s r k' hle hk h;rw [Zae] at h;simp at h
  | ret=>intro call call' s r k' hle hk h;rw [Zae] at h ⊢;exact h
  | refuse why=>intro call call' s r k' hle hk h;rw [Zae] at h;simp at h
end
open Classical in
noncomputable def lim {α:Type} (g:Nat→Option α):Option α:=if h:∃ r,∃ k,g k=some r then some h.choose else none
def Zu7 {α:Type} (g:Nat→Option α):Prop:=∀ k k' r,k≤k'→g k=some r→g k'=some r
theorem ZiK {α:Type} {g:Nat→Option α} (hg:Zu7 g) {r:α}:lim g=some r↔∃ k,g k=some r:=by
 unfold lim
 constructor
 · intro h
   split at h
   · rename_i hh
     obtain ⟨k,hk⟩:=hh.choose_spec
     simp only [Option.some.injEq] at h
     rw [h] at hk
     exact ⟨k,hk⟩
   · simp at h
 · rintro ⟨k,hk⟩
   have hh:∃ r,∃ k,g k=some r:=⟨r,k,hk⟩
   rw [dif_pos hh]
   obtain ⟨k',hk'⟩:=hh.choose_spec
   have h1:=hg k (max k k') r (by omega) hk
   have h2:=hg k' (max k k') _ (by omega) hk'
   rw [h1] at h2
   exact h2.symm
theorem Zc6 {α:Type} {x y:Option α} (h:∀ r,x=some r↔y=some r):x=y:=by
 cases x with
 | some a=>exact ((h a).1 rfl).symm
 | none =>
  cases y with
  | none=>rfl
  | some b=>have:=(h b).2 rfl;simp at this
end
end B
end Go.Proofs.YtmocfnfnhgognaaGreat
