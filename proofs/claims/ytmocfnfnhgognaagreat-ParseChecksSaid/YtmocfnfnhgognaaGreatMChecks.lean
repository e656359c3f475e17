/-
  'Any tree: may it be': for every tree the law returns true, and the tree reads behind the call as it read before. No conditions.
-/
import Derived.Test.YtmocfnfnhgognaaGreatRows
import Derived.Test.YtmocfnfnhgognaaGreatMB
import Derived.ProofKit
import Derived.ChangeMaps5
namespace Go.Proofs.YtmocfnfnhgognaaGreat
open Go Go.Proofs B G X Go.ChangeShapes Go.WideShapes Go.ChangeAt Go.RowKit Go.ChangeMaps
theorem Tryz.own:ownKnob Tryz.prog.godebug=none:=by kernel_rfl
theorem Tryz.laidOut:laidOutB Tryz.prog=true:=by kernel_rfl
theorem Tryz.mapsRow:mapsRowed Tryz.prog=true:=by kernel_rfl
theorem Tryz.kids:Kids Tryz.prog (· < Tryz.prog.types.size):=kids_rows Tryz.laidOut Tryz.mapsRow
theorem Tryz.full:∀ t e,t<Tryz.prog.types.size→Tryz.prog.underlying t=some (.slice e)→0<Tryz.prog.cellsOf e:=slices_full_of Tryz.prog (by kernel_rfl)
theorem Tryz.mixed:Tryz.prog.follows .mixedOrders=true:=Tryz.checked.mixed
set_option maxRecDepth 100000 in
theorem Ztr {W:World} {base:Nat} {H:Type} {enc:TypeId×Value→H} {v:Value} {d:DataW H} {p:List MemPlace} {A:Nat→Prop} (hA:∀ b,A b) (hv:Value.okWide Tryz.prog W .any base 25 v)
    (h:DataW.Trod enc Tryz.prog W 0 (fun _=>true) true 25 v d p) (hw:Wok 25 d) :
    ∃ (cs:Array Value) (q:Tree),v=.agg cs∧q.fits∧cs.toList.length=5∧Cin W A q.cells cs.toList:=by
 have hu:Tryz.prog.underlying 25=some (.struct _):=Zmt Tryz.underlying25
 unfold Value.okWide at hv
 rw [hu] at hv
 obtain ⟨cs,rfl,_,_⟩:=hv
 obtain ⟨n,h⟩:=h
 obtain ⟨q,h1,_,h2,h3⟩:=ZxR (W:=W) (A:=A) hA n h hw
 exact ⟨cs,q,rfl,h1,h2,h3⟩
theorem Zlw {H:Type} {enc:TypeId×Value→H} {a:Assume} {C:Checked} {os:Os} {f:FuncId} {fn:Func} {s:ChangeSpec} {conds:List PathCond} {apart fresh handsOn again:Bool}
    (own:ownKnob C.prog.godebug=none) (started:os.Started) (noInit:C.prog.inits.idxOf? f=none) (hfn:C.prog.funcs[f]?=some fn)
    (witness:∃ (w:World) (tape:Tape) (i:Input),w.os=os∧(w.forCall tape i).Shaped C.prog∧i.vars=[]∧Input.okWide C.prog (w.forCall tape i) .any w.heap.size f i ∧
     s.pre6 enc C.prog fn conds apart (w.forCall tape i).memory i.args∧a.holds C.prog (lone (Frame.enter C.prog f i.args .normal) [] (w.forCall tape i)))
    (contract:∀ (W:World) (base:Nat) (args:Array Value) (ds gs:List (DataW H)) (before:List MemPlace),
     (∀ (j:Nat) t v,fn.params[j]?=some t→args[j]?=some v→Value.okWide C.prog W .any base t v) →
     DataW.Whole enc C.prog fn.params.toList s.vars apart W args.toList ds gs before →
     (DataW.weightsEach C.prog (fn.params.toList++s.plain.varTypes C.prog) (ds++gs)).all (·≤reachBytes)=true →
     Calls C.prog f args W fun e W'=>∃ v,e=.returned v∧s.post enc C.prog fn apart fresh handsOn again W args v W') :
    ReturnsInHanded a C os f .any (s.pre6 enc C.prog fn conds apart) (s.post enc C.prog fn apart fresh handsOn again):=by
 refine returnsInHanded_of_calls own started noInit witness ?_
 intro w tape i _ _ _ hok hpre _
 obtain ⟨_,_,_,fn',hfn',_,_,_,_,hval⟩:=hok
 have e:fn'=fn:=Option.some.inj (hfn'.symm.trans hfn)
 subst e
 obtain ⟨⟨ds,gs,before,hw,_⟩,hz⟩:=hpre
 have hw':=DataW.Whole.of_heap (w':=w.forCall tape i) (by rfl) hw
 refine (contract (w.forCall tape i) w.heap.size i.args ds gs before hval hw' (hz.weights hw)).mono fun e W' ⟨v,he,hp⟩=>?_
 subst he
 exact ChangeSpec.post_blind hp
set_option maxRecDepth 100000 in
theorem Zmb (os:Os) (started:os.Started) (H:Type) (enc:TypeId×Value→H) :
    ReturnsInHanded {} Tryz.checked os 3 .any (Rows.parseChecksSpec.pre6 enc Tryz.prog Tryz.f3 Rows.parseChecksRow.domain false) (Rows.parseChecksSpec.post enc Tryz.prog Tryz.f3 false true false false):=by
 refine Zlw (C:=Tryz.checked) Tryz.own started (by kernel_rfl) Tryz.func3
  (ChangeSpec.witness6 (enc:=enc) (C:=Tryz.checked) false ⟨#[],#[.agg #[.int .u8 0,.int .i64 0,.string ⟨#[]⟩,.int .u64 0,.slice none 0 0]],[]⟩ 8 (by kernel_rfl) (by kernel_rfl) (by kernel_rfl) (by kernel_rfl)) ?_
 intro W base args ds gs before hval0 hW hsz0
 have hval:∀ (j:Nat) t v,Tryz.f3.params[j]?=some t→args[j]?=some v→Value.okWide Tryz.prog W .any base t v:=hval0
 have hW':=hW
 obtain ⟨p,q,hA0,hV,rfl,hfz,hnd⟩:=hW
 have hA:DataW.TrodAll enc Tryz.prog W 0 (fun _=>true) true Tryz.f3.params.toList args.toList ds p:=hA0
 have hps:Tryz.f3.params = #[25]:=by kernel_rfl
 have hsz:(DataW.weightsEach Tryz.prog (Tryz.f3.params.toList++_) (ds++gs)).all (·≤reachBytes)=true:=hsz0
 rw [hps] at hA hval hsz
 obtain ⟨v0,d0,rfl,rfl,h0⟩:=trodAll_one hA
 obtain ⟨rfl,rfl⟩:=trodVars_none hV
 have hwk:∀ w,w∈DataW.weights Tryz.prog 25 d0→w≤reachBytes:=by
  intro w hw
  have:=List.all_eq_true.1 hsz w (by
   show w∈DataW.weights Tryz.prog 25 d0++_
   exact List.mem_append_left _ hw)
  exact of_decide_eq_true this
 have hT:∀ b:Nat,(fun _=>True) b:=fun _=>trivial
 obtain ⟨c0,q0,rfl,f0,l0,k0⟩:=Ztr (A:=fun _=>True) hT (hval 0 _ v0 rfl rfl) h0 hwk
 have hM:=Zo3 (hand:=Zrb) q0 f0 rfl
 obtain ⟨a,b,c,d,e,e0⟩:=ZFB l0
 have hcin:=k0
 rw [e0] at hcin
 have hmem:(3026,Zjh 3)∈prg.eng++prg.hnd:=by
  show _∈Zlb++ZpX
  unfold Zlb ZxD
  simp only [List.mem_append,List.mem_cons,true_or,or_true]
 have hno:∀ (i:Nat) (fr:Bool),(nodeVA:List VA)[i]?≠some (.ow fr):=by
  intro i fr h
  have:=List.mem_of_getElem? h
  simp [nodeVA] at this
 obtain ⟨H',hc⟩:=Zzp (W:=W) (av:=[.agg #[ZfQ W a,ZfQ W b,ZfQ W c,ZfQ W d,ZfQ W e]]) ZBA hmem rfl rfl rfl (ds:=q0.cells) (w:=[a,b,c,d,e].map (ZfQ W)) (by rw [q0.cells_len];rfl) (by rw [q0.cells_len];rfl) hno
  (fun i va d v h1 h2 h3=>by
   have hr:=hcin.1.get h2 h3
   cases q0 with
   | mk k1 a1 s1 n1 p1 l1 =>
   rw [Tree.c] at h2
   match i,h1,h2,hr with
   | 0,h1,h2,hr=>simp only [Zjh,nodeVA,List.getElem?_cons_zero,Option.some.injEq] at h1 h2;subst h1;subst h2;cases hr with | v h4 h5=>exact ⟨rfl,h4,h5⟩
   | 1,h1,h2,hr=>simp only [Zjh,nodeVA,List.getElem?_cons_zero,List.getElem?_cons_succ,Option.some.injEq] at h1 h2;subst h1;subst h2;cases hr with | v h4 h5=>exact ⟨rfl,h4,h5⟩
   | 2,h1,h2,hr=>simp only [Zjh,nodeVA,List.getElem?_cons_zero,List.getElem?_cons_succ,Option.some.injEq] at h1 h2;subst h1;subst h2;cases hr with | v h4 h5=>exact ⟨rfl,h4,h5⟩
   | 3,h1,h2,hr=>simp only [Zjh,nodeVA,List.getElem?_cons_zero,List.getElem?_cons_succ,Option.some.injEq] at h1 h2;subst h1;subst h2;cases hr with | v h4 h5=>exact ⟨rfl,h4,h5⟩
   | 4,h1,h2,hr =>
    simp only [Zjh,nodeVA,List.getElem?_cons_zero,List.getElem?_cons_succ,Option.some.injEq] at h1
    subst h1
    exact R.mono (ZhG Tryz.prog W).fresh (fun b _ _=>⟨Zxr rfl hno b,trivial,fun h=>by cases h⟩) (fun b _ _=>rfl) hr
   | _+5,h1,_,_=>simp [Zjh,nodeVA] at h1)
  ⟨rfl,fun i s v h1 h2=>by
   match i with
   | 0=>simp only [Zjh,List.getElem?_cons_zero,Option.some.injEq] at h1 h2;subst h1;subst h2;exact .inr ⟨by rw [show (⟨q0.cells,[a,b,c,d,e].map (ZfQ W),[]⟩:SE).ρ.length=5 from q0.cells_len];rfl,rfl⟩
   | _+1=>simp [Zjh] at h1⟩ hM
 have hr:∀ {x:List Value} {y:Array Value} {z:List D},y.toList=x→Cin W (fun _=>True) z x→VRels (ZcI W) (x.map (ZfQ W)) y.toList:=by
  intro x y z e h
  rw [e]
  have h2:=h.2
  clear e h
  induction x with
  | nil=>exact .nil
  | cons u x ih=>exact .cons (h2 u (by simp)) (ih fun v hv=>h2 v (by simp [hv]))
 rw [e0] at k0
 refine (ZEF (ZzM Tryz.mixed ZxX) Tryz.mixed Tryz.func3 hc rfl (.cons (.agg (hr e0 k0)) .nil)).mono fun e W' ⟨he,hw⟩=>?_
 subst he
 exact ⟨_,rfl,Ztl Tryz.kids Tryz.full hW' (by rw [hps];intro t ht;simp at ht;rw [ht];show 25<Tryz.prog.types.size;rw [Tryz.types_size];decide) rfl rfl (Zmt Tryz.underlying4) rfl rfl rfl hw⟩
theorem parseChecks_holds:Rows.ParseChecksSaid :=
 OpenClaim.holds_of_wide 3 Tryz.f3 rfl rfl rfl rfl rfl rfl rfl ⟨rfl,rfl,rfl,rfl,rfl⟩ rfl rfl rfl rfl rfl (by kernel_rfl) Tryz.func3 (by kernel_rfl)
  (of_decide_eq_true (by kernel_rfl)) (by unfold Func.isWrapper;rw [if_neg (of_decide_eq_false (by kernel_rfl))];exact ⟨rfl,rfl⟩)
  (fun os started H enc _=>Zmb os started H enc)
end Go.Proofs.YtmocfnfnhgognaaGreat
