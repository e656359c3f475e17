/-
  The second symbolic runner: the runner, its soundness, the limit.
-/
import Derived.Test.YtmjmpaceopipbaaGreatMX1
namespace Go.Proofs.YtmjmpaceopipbaaGreat
namespace X
open Go B
inductive XE where
 | normal
 | exit (i : Nat)
 | ret
 | panic (v : SV)
abbrev DF := List (FuncId × List SV)
abbrev Rec := Nat → Code → SS → DF → (XE → SS → DF → FT) → FT
def isEnd : XE → Bool
 | .normal => true
 | .ret => true
 | _ => false
def beqDf : DF → DF → Bool
 | [], [] => true
 | (g, l) :: d, (f, m) :: e => Nat.beq g f && beqL l m && beqDf d e
 | _, _ => false
structure Cfg where
 T : Tabs
 sigs : FuncId → List (Nat × Sig)
 inl : FuncId → Bool
 unr : FuncId → Nat
 eqT : TypeId → Bool
 K : List RC
abbrev Bnd := List (Option SV) × List (Option Nat)
def bset {α : Type} (l : List (Option α)) (i : Nat) (x : α) : List (Option α) := match l[i]? with
 | some none => l.set i (some x)
 | _ => l
mutual
def bindS : SV → SV → Bnd → Bnd
 | .x i, s, b => (bset b.1 i s, b.2)
 | .loc p _, .loc q _, b => (b.1, bset b.2 p q)
 | .al p _, .al q _, b => (b.1, bset b.2 p q)
 | .sl p _, .sl q _, b => (b.1, bset b.2 p q)
 | .mp p, .mp q, b => (b.1, bset b.2 p q)
 | .yl p, .yl q, b => (b.1, bset b.2 p q)
 | .agg l, .agg m, b => bindL l m b
 | .tup l, .tup m, b => bindL l m b
 | .fn _ l, .fn _ m, b => bindL l m b
 | .bm _ v, .bm _ w, b => bindS v w b
 | .ifc _ v, .ifc _ w, b => bindS v w b
 | _, _, b => b
def bindL : List SV → List SV → Bnd → Bnd
 | p :: l, s :: m, b => bindL l m (bindS p s b)
 | _, _, b => b
end
def bindB (p s : SB) (b : Bnd) : Bnd := match p, s with
 | .box l _, .box m _ => bindL l m b
 | .arr l _, .arr m _ => bindL l m b
 | .map x, .map y => (bset b.1 x (.x y), b.2)
 | .rc _ _ _ l, .rc _ _ _ m => bindL l m b
 | _, _ => b
def bindLocs (locs : List SB) : Nat → List SB → Bnd → Bnd
 | _, [], b => b
 | i, p :: l, b => bindLocs locs (i + 1) l (match b.2[i]? with
  | some (some j) => bindB p (getB locs j) b
  | _ => b)
def bindSt (p st : SS) (b : Bnd) : List SV × List Nat :=
 let r := bindLocs st.locs 0 p.locs (bindL p.slots st.slots b)
 (r.1.map fun o => o.getD (.c (.bool false)), r.2.map fun o => o.getD 0)
def frz : List VA → List SV → List VA → List VA
 | va, u :: us, a :: as => frz (match u, a with
  | .x i, .sh _ => match va[i]? with
   | some (.ow f) => va.set i (.sh f)
   | _ => va
  | _, _ => va) us as
 | va, _, _ => va
def altK (st : SS) (us : List SV) (vs : List Nat) (s : Sig) (k kp : SV → SS → FT) (i : Nat) : FT := match s.outs[i]? with
 | some a => (bif a.pan then kp else k) (retRes st us vs s a) (retSt st us vs s a)
 | none => .stop 40
def tryCall (st : SS) (as : List SV) (j : Nat) (s : Sig) (k kp : SV → SS → FT) : Option FT :=
 let b := bindSt ⟨s.args, s.locs, s.va⟩ ⟨as, st.locs, st.va⟩ (List.replicate s.va.length none, List.replicate s.locs.length none)
 let st1 : SS := { st with va := frz st.va b.1 s.va }
 bif chk ⟨as, st1.locs, st1.va⟩ b.1 b.2 ⟨s.args, s.locs, s.va⟩ && all2 (noLend st1.va) b.1 s.va && s.locs.all noRc then
  some (.call j b.1 (altK st1 b.1 b.2 s k kp 0) (altK st1 b.1 b.2 s k kp 1) (altK st1 b.1 b.2 s k kp 2))
 else none
def tryCalls (st : SS) (as : List SV) (k kp : SV → SS → FT) : List (Nat × Sig) → Option FT
 | [] => none
 | (j, s) :: l => match tryCall st as j s k kp with
  | some t => some t
  | none => tryCalls st as k kp l
def packS : List SV → SV
 | [v] => v
 | vs => .tup vs
def sres (T : Tabs) (st : SS) : List ResultVar → Option (List SV)
 | [] => some []
 | .tmp t :: rs => match st.slots[t]?, sres T st rs with
  | some v, some vs => bif isJk v then none else some (v :: vs)
  | _, _ => none
 | .cell a t :: rs => match st.slots[a]?, aggT' T t, sres T st rs with
  | some (.loc b o), some false, some vs => match getB st.locs b with
   | .box cs _ => match cs[o]? with
    | some v => bif isJk v then none else some (v :: vs)
    | none => none
   | _ => none
  | some (.loc b o), some true, some vs => match getB st.locs b, T.info t with
   | .box cs _, some i => bif lenLe (o + i.size) cs && !(((cs.drop o).take i.size).any isJk) then some (.agg ((cs.drop o).take i.size) :: vs) else none
   | _, _ => none
  | _, _, _ => none
def sPanic (st : SS) (x : Operand) (kp : SV → SS → FT) : FT := match sv st x with
 | some (.ifc t v) => kp (.ifc t v) st
 | _ => .stop 48
def isIfT (T : Tabs) (t : TypeId) : Bool := match T.und t with
 | some (.interface _) => true
 | none => true
 | _ => false
def sIfc (T : Tabs) (st : SS) (t : TypeId) (x : Operand) (k : SV → SS → FT) : FT := match sv st x with
 | some v => bif isIfT T t then .stop 49 else k (.ifc t v) st
 | none => .stop 49
def sAssert (T : Tabs) (st : SS) (t : TypeId) (x : Operand) (ok : Bool) (k : SV → SS → FT) : FT := match sv st x with
 | some (.ifc u v) => bif isIfT T t then .stop 49 else bif Nat.beq u t then k (bif ok then .tup [v, .c (.bool true)] else v) st
     else bif ok then match zeroT' T t with
      | some z => k (.tup [.c z, .c (.bool false)]) st
      | none => .stop 49
     else .stop 49
 | _ => .stop 49
def isIfTy (T : Tabs) (t : TypeId) : Bool := match T.und t with
 | some (.interface _) => true
 | _ => false
def isConstO : Operand → Bool
 | .const _ => true
 | _ => false
def sIfNil (T : Tabs) (st : SS) (op : BinOp) (t : TypeId) (same : Bool) (y : Operand) (k : SV → SS → FT) : FT := bif isIfTy T t && isConstO y then match op with
 | .eql => k (.c (.bool same)) st
 | .neq => k (.c (.bool (!same))) st
 | _ => .stop 49
 else .stop 49
def xop0 (cfg : Cfg) (st : SS) (k : SV → SS → FT) : Op → FT
 | .move x => sMove st x k
 | .assign x => sMove st x k
 | .pick c a b => sPick st c a b k
 | .alloc t => sAlloc cfg.T st t k
 | .box t x => sBox cfg.T st t x k
 | .build t ps => sBuild cfg.T st t ps.toList k
 | .buildSlice t n ps => sMk cfg.T st t n ps.toList k
 | .load t x => sLoad cfg.T st t x k
 | .store t x y => sStore cfg.T st t x y k
 | .nilCheck x => sNil st x k
 | .binOp op t x y _ => match sv st x, sv st y with
  | some (.agg l), some (.agg m) => sEqs cfg.T cfg.eqT st op t l m k
  | some (.ifc _ _), some (.c .nilIface) => sIfNil cfg.T st op t false y k
  | some (.c .nilIface), some (.c .nilIface) => sIfNil cfg.T st op t true y k
  | _, _ => sBin cfg.T st op t x y k
 | .unOp op _ x => sUn st op x k
 | .convert s d x => sConv cfg.T st s d x k
 | .makeFunc (.func f) u v => sFunc st f u.toList v.toList k
 | .slice t x lo hi none => sSlice cfg.T st t x lo hi k
 | .fieldAddr s x f => sFad cfg.T st s x f k
 | .field t x f => sField cfg.T st t x f k
 | .indexAddr t x y => sIdx cfg.T st t x y k
 | .index t x y => sIndex cfg.T st t x y k
 | .extract x i => sExtract st x i k
 | .makeMap _ none => sMap st k
 | .makeInterface t x => sIfc cfg.T st t x k
 | .typeAssert x _ t ok => sAssert cfg.T st t x ok k
 | .lookup t m x ok => sGet cfg.T cfg.eqT st t m x ok k
 | .mapUpdate t m x y => sPut cfg.T cfg.eqT st t m x y k
 | .call ⟨.builtin .len, args, tys⟩ => match args.toList, tys.toList with
  | [x], [t] => sLen cfg.T st t x k
  | _, _ => .stop 52
 | .call ⟨.builtin .append, args, tys⟩ => match args.toList, tys.toList with
  | [x, y], [t, t'] => bif Nat.beq t t' then sApp cfg.T st t x y k else .stop 52
  | _, _ => .stop 52
 | .call ⟨.builtin .min, args, tys⟩ => match args.toList, tys.toList with
  | [x, y], [_, _] => sMin st x y k
  | _, _ => .stop 52
 | _ => .stop 53
def sput (dst : Option Nat) (v : SV) (st : SS) : SS := match dst with
 | some d => { st with slots := st.slots.set d v }
 | none => st
def isU : SV → Bool
 | .tup [] => true
 | _ => false
def sWant (all : List Oper) (st : SS) (o : Oper) (yes no : SS → FT) : FT := match o.guard with
 | none => yes st
 | some (j, want) => match all[j]? with
  | some o' => match o'.dst with
   | some d => match st.slots[d]? with
    | some v => bif isU v then no st else bif want then sBr st v yes no else sBr st v no yes
    | none => .stop 54
   | none => .stop 54
  | none => .stop 54
abbrev SM := Option (SV × Bool)
def settleS : SM → SM
 | some (_, true) => none
 | m => m
def recoverS : SM → SV × SM
 | some (v, false) => (v, some (v, true))
 | m => (.c .nilIface, m)
def xopsS (cfg : Cfg) (all : List Oper) : List Oper → SM → SS → (XE → SM → SS → FT) → FT
 | [], m, st, k => k .normal m st
 | o :: rest, m, st, k => bif st.slots.isEmpty then .stop 85 else sWant all st o
     (fun st => bif isRecover o then bif allOk o.op.operands.toList then xopsS cfg all rest (recoverS m).2 (sput o.dst (recoverS m).1 st) k else .stop 86 else xop0 cfg st (fun v st' => xopsS cfg all rest m (sput o.dst v st') k) o.op)
     (fun st => xopsS cfg all rest m (sput o.dst (.tup []) st) k)
def xLeaf (rec : Rec) (u : Nat) (c : Code) (m : SM) (st : SS) (k : XE → SM → SS → FT) : FT := rec u c st [] fun x st' df => bif df.isEmpty then k x m st' else .stop 87
def xS (cfg : Cfg) (rec : Rec) (u : Nat) : Code → SM → SS → (XE → SM → SS → FT) → FT
 | .seq a b, m, st, k => xS cfg rec u a m st fun x m st => match x with
  | .normal => xS cfg rec u b m st k
  | x => k x m st
 | .cond q a b, m, st, k => match sv st q with
  | some v => sBr st v (fun st => xS cfg rec u a m st k) fun st => xS cfg rec u b m st k
  | none => .stop 58
 | .region id ops draw, m, st, k => bif !draw && ops.toList.any isRecover then xopsS cfg ops.toList ops.toList m st k else xLeaf rec u (.region id ops draw) m st k
 | c, m, st, k => xLeaf rec u c m st k
def runDf (cfg : Cfg) (rec : Rec) : DF → SM → SS → (SM → SS → FT) → FT
 | [], m, st, k => k m st
 | (g, as) :: l, m, st, k => match cfg.T.func g with
  | some fn => match fn.body with
   | some c => bif Nat.ble as.length fn.ntmps then xS cfg rec (cfg.unr g) c m ⟨as ++ List.replicate (fn.ntmps - as.length) .jk, st.locs, st.va⟩ fun x m st' => bif isEnd x then match sres cfg.T st' fn.results.toList with
         | some _ => runDf cfg rec l (settleS m) { st' with slots := st.slots } k
         | none => .stop 41
    else .stop 42
    else .stop 43
   | none => .stop 44
  | none => .stop 44
def xendD (cfg : Cfg) (rec : Rec) (rs : List ResultVar) (df : DF) (m : SM) (st : SS) (k kp : SV → SS → FT) : FT := runDf cfg rec df m st fun m st' => match m with
    | none => match sres cfg.T st' rs with
     | some vs => k (packS vs) st'
     | none => .stop 41
    | some (v, false) => kp v st'
    | _ => .stop 42
def xend1 (cfg : Cfg) (rec : Rec) (rs : List ResultVar) (x : XE) (st : SS) (df : DF) (k kp : SV → SS → FT) : FT := match x with
 | .panic v => bif df.isEmpty then kp v st else bif st.slots.isEmpty then .stop 42 else xendD cfg rec rs df (some (v, false)) st k kp
 | x => bif isEnd x then xendD cfg rec rs df none st k kp else .stop 42
def inlCall (cfg : Cfg) (rec : Rec) (g : FuncId) (as : List SV) (st : SS) (k kp : SV → SS → FT) : FT := match cfg.T.func g with
 | some fn => match fn.body with
  | some c => bif Nat.ble as.length fn.ntmps then rec (cfg.unr g) c ⟨as ++ List.replicate (fn.ntmps - as.length) .jk, st.locs, st.va⟩ [] fun x st' df => xend1 cfg rec fn.results.toList x st' df (fun v st' => k v { st' with slots := st.slots }) (fun v st' => kp v { st' with slots := st.slots })
   else .stop 43
  | none => .stop 44
 | none => .stop 44
def isFn : SV → Option (FuncId × List SV × List SV)
 | .fn g l => some (g, [], l)
 | .bm g v => some (g, [v], [])
 | .c (.func (.func g) x y) => bif x.toList.isEmpty && y.toList.isEmpty then some (g, [], []) else none
 | _ => none
def setAllS (ps : List Tmp) (as slots : List SV) : List SV := (ps.zip as).foldl (fun l p => l.set p.1 p.2) slots
def plainC : Code → Bool
 | .skip => true
 | .region _ ops _ => !(ops.toList.any fun o => isDefer o.op)
 | .seq a b => plainC a && plainC b
 | .cond _ a b => plainC a && plainC b
 | .block _ a => plainC a
 | .loop a => plainC a
 | .exit _ => true
 | .ret => true
 | .label _ => true
 | _ => false
def rndEnd : XE → Option (Option (Option Nat))
 | .normal => some none
 | .ret => some (some none)
 | .exit i => some (some (some i))
 | .panic _ => none
def sYield (cfg : Cfg) (rec : Rec) (st : SS) (b : Nat) (as : List SV) (k : SV → SS → FT) : FT := match getB st.locs b with
 | .rc j 0 none cs => match cfg.K[j]? with
  | some r => bif plainC r.asg && plainC r.body && Nat.beq as.length r.ps.size then rec 0 r.asg ⟨setAllS r.ps.toList as cs, st.locs, st.va⟩ [] fun x st1 df1 => match x with
      | .normal => match getB st1.locs b with
       | .rc j1 0 none cs1 => rec 0 r.body ⟨st1.slots, st1.locs.set b (.rc j1 1 none cs1), st1.va⟩ df1 fun x st2 _ => match rndEnd x with
        | some pd => match getB st2.locs b with
         | .rc j2 _ _ cs2 => k (.c (.bool pd.isNone)) ⟨st.slots, st2.locs.set b (.rc j2 (bif pd.isNone then 0 else 2) pd cs2), st2.va⟩
         | _ => .stop 88
        | none => .stop 88
       | _ => .stop 88
      | _ => .stop 88
   else .stop 88
  | none => .stop 88
 | _ => .stop 88
def sCall (cfg : Cfg) (rec : Rec) (st : SS) (f : Operand) (args : List Operand) (k kp : SV → SS → FT) : FT := match sv st f, svs st args with
 | some (.yl b), some as => sYield cfg rec st b as k
 | some v, some as => match isFn v with
  | some (g, pre, caps) => match cfg.T.func g with
   | some _ => match tryCalls st (pre ++ as ++ caps) k kp (cfg.sigs g) with
    | some t => t
    | none => bif cfg.inl g then inlCall cfg rec g (pre ++ as ++ caps) st k kp else .stop (1000 + g)
   | none => .stop 45
  | none => .stop 46
 | _, _ => .stop 47
def xop (cfg : Cfg) (rec : Rec) (st : SS) (k kp : SV → SS → FT) : Op → FT
 | .call ⟨.value f, args, _⟩ => sCall cfg rec st f args.toList k kp
 | .panic x => sPanic st x kp
 | op => xop0 cfg st k op
def sDefer (cfg : Cfg) (st : SS) (op : Op) (df : DF) (k : DF → FT) : FT := match op with
 | .defer ⟨.value f, args, _⟩ => match sv st f, svs st args.toList with
  | some v, some as => match isFn v with
   | some (g, pre, caps) => match cfg.T.func g with
    | some _ => k ((g, pre ++ as ++ caps) :: df)
    | none => .stop 45
   | none => .stop 46
  | _, _ => .stop 47
 | _ => .stop 55
def xops (cfg : Cfg) (rec : Rec) (all : List Oper) : List Oper → SS → DF → (SS → DF → FT) → (SV → SS → DF → FT) → FT
 | [], st, df, k, _ => k st df
 | o :: rest, st, df, k, kp => sWant all st o
     (fun st => bif isDefer o.op then sDefer cfg st o.op df fun df => xops cfg rec all rest (sput o.dst .jk st) df k kp else xop cfg rec st (fun v st' => xops cfg rec all rest (sput o.dst v st') df k kp) (fun v st' => kp v st' df) o.op)
     (fun st => xops cfg rec all rest (sput o.dst (.tup []) st) df k kp)
inductive Rd where
 | loc (b o : Nat) (cs : List SV)
 | any
 | obj (b : Nat) (sb : SB)
 | no
def SB.beq : SB → SB → Bool
 | .box l e, .box m e' => beqL l m && Nat.beq e e'
 | .arr l e, .arr m e' => beqL l m && Nat.beq e e'
 | _, _ => false
def isSh (va : List VA) (a : Nat) : Bool := match va[a]? with
 | some (.sh _) => true
 | _ => false
def rdOf (T : Tabs) (st : SS) (op : Op) (v : SV) : Rd := match op with
 | .load t x => match sv st x, aggT' T t, v with
  | some (.loc b o), some true, .agg l => .loc b o l
  | some (.loc b o), some false, v => bif isJk v then .no else .loc b o [v]
  | some (.el a _ _ _ _), _, _ => bif isSh st.va a then .any else .no
  | _, _, _ => .no
 | .call ⟨.builtin .len, args, tys⟩ => match args.toList, tys.toList with
  | [x], [_] => match sv st x with
   | some (.x a) => bif isSh st.va a then .any else .no
   | _ => .no
  | _, _ => .no
 | _ => .no
def alOf (st st' : SS) : Rd := match st'.locs[st.locs.length]? with
 | some (.box cs e) => bif cs.any isJk then .no else .obj st.locs.length (.box cs e)
 | some (.arr cs e) => bif cs.any isJk then .no else .obj st.locs.length (.arr cs e)
 | _ => .no
def chkR (st : SS) : Nat × Rd → Bool
 | (_, .loc b o cs) => match getB st.locs b with
  | .box l _ => beqL ((l.drop o).take cs.length) cs
  | _ => false
 | (_, .any) => true
 | (_, .obj b sb) => SB.beq (getB st.locs b) sb
 | (_, .no) => false
def xplan (cfg : Cfg) (rec : Rec) (all : List Oper) (B : List Nat) : List (Nat × Rd) → List Nat → SS → (SS → FT) → (SV → SS → FT) → FT
 | _, [], st, k, _ => k st
 | R, j :: rest, st, k, kp => match all[j]? with
  | none => .stop 80
  | some o => bif st.slots.isEmpty then .stop 85 else sWant all st o
   (fun st => bif isDefer o.op then .stop 81 else match okind o.op with
    | .pure => xop cfg rec st (fun v st' => xplan cfg rec all B R rest (sput o.dst v st') k kp) (fun _ _ => .stop 82) o.op
    | .read => xop cfg rec st (fun v st' => xplan cfg rec all B ((j, rdOf cfg.T st o.op v) :: R) rest (sput o.dst v st') k kp) (fun _ _ => .stop 82) o.op
    | .alloc => xop cfg rec st (fun v st' => xplan cfg rec all B ((j, alOf st st') :: R) rest (sput o.dst v st') k kp) (fun _ _ => .stop 82) o.op
    | .effect => xop cfg rec st (fun v st' => bif (R.filter fun r => !(bit B j r.1)).all (chkR st') then xplan cfg rec all B (R.filter fun r => !(bit B j r.1)) rest (sput o.dst v st') k kp else .stop 83) (fun v st' => bif R.all (chkR st) then kp v ⟨[], st'.locs, st'.va⟩ else .stop 84) o.op)
   (fun st => xplan cfg rec all B (bif isEff o then R.filter fun r => !(bit B j r.1) else R) rest (sput o.dst (.tup []) st) k kp)
def attrS (va : List VA) : SV → Option VA
 | .c v => bif isNilS v then some (.ow true) else bif closedV v && flatV v then some .sc else none
 | .x i => match va[i]? with
  | some .dd => none
  | r => r
 | _ => none
def VA.join : VA → VA → VA
 | .sc, .sc => .sc
 | .sc, .sh g => .sh g
 | .sh f, .sc => .sh f
 | .sh f, .sh g => .sh (f && g)
 | .ow f, .sh g => .sh (f && g)
 | .sh f, .ow g => .sh (f && g)
 | .ow f, .ow g => .ow (f && g)
 | _, _ => .dd
def VA.beq : VA → VA → Bool
 | .dd, .dd => true
 | .sc, .sc => true
 | .sh f, .sh g => f == g
 | .ow f, .ow g => f == g
 | _, _ => false
structure Gn where
 va : List VA
 ch : Bool
def setVA (g : Gn) (p : Nat) (a : VA) : Gn := match g.va[p]? with
 | some b => bif VA.beq a b then g else ⟨g.va.set p a, true⟩
 | none => g
def killV (g : Gn) (h : SV) (a : VA) : Gn := match h with
 | .x i => match g.va[i]?, a with
  | some (.ow _), .ow _ => setVA g i .dd
  | some (.ow _), .sh f => setVA g i (.sh f)
  | _, _ => g
 | _ => g
mutual
def mergeS (n : Nat) (ea : List VA) : SV → SV → Gn → SV × Gn
 | .jk, _, g => (.jk, g)
 | .x p, s, g => bif Nat.ble n p then match attrS ea s, g.va[p]? with
     | some a, some b => (.x p, setVA g p (VA.join b a))
     | _, _ => (.jk, ⟨g.va, true⟩)
  else bif SV.beq (.x p) s then (.x p, g) else match attrS g.va (.x p), attrS ea s with
   | some a, some b => (.x g.va.length, killV ⟨g.va ++ [VA.join a b], true⟩ (.x p) (VA.join a b))
   | _, _ => (.jk, ⟨g.va, true⟩)
 | .agg l, .agg m, g => let r := mergeL n ea l m g; (.agg r.1, r.2)
 | h, s, g => bif SV.beq h s then (h, g) else match attrS g.va h, attrS ea s with
     | some a, some b => (.x g.va.length, ⟨g.va ++ [VA.join a b], true⟩)
     | _, _ => (.jk, ⟨g.va, true⟩)
def mergeL (n : Nat) (ea : List VA) : List SV → List SV → Gn → List SV × Gn
 | h :: l, s :: m, g => let r := mergeS n ea h s g; let q := mergeL n ea l m r.2; (r.1 :: q.1, q.2)
 | _, _, g => ([], g)
end
def tidy : SV → SV
 | .agg l => bif noJkL l then .agg l else .jk
 | s => s
def mergeSl (n : Nat) (ea : List VA) (l m : List SV) (g : Gn) : List SV × Gn := let r := mergeL n ea l m g; (r.1.map tidy, r.2)
def mergeB (n : Nat) (ea : List VA) (h s : SB) (g : Gn) : SB × Gn := match h, s with
 | .box l e, .box m _ => let r := mergeL n ea l m g; (.box r.1 e, r.2)
 | h, _ => (h, g)
def mergeBs (n : Nat) (ea : List VA) : List SB → List SB → Gn → List SB × Gn
 | h :: l, s :: m, g => let r := mergeB n ea h s g; let q := mergeBs n ea l m r.2; (r.1 :: q.1, q.2)
 | _, _, g => ([], g)
def meetVA (n : Nat) : Nat → List VA → Gn → Gn
 | i, b :: ea, g => bif Nat.ble n i then g else meetVA n (i + 1) ea (match g.va[i]?, b with
  | some .dd, _ => g
  | some _, .dd => setVA g i .dd
  | some (.ow f), .sh f' => setVA g i (.sh (f && f'))
  | _, _ => g)
 | _, [], g => g
def merge (n : Nat) (c e : SS) (ch : Bool) : SS × Bool :=
 let r := mergeSl n e.va c.slots e.slots ⟨c.va, ch⟩
 let q := mergeBs n e.va c.locs e.locs r.2
 let g := meetVA n 0 e.va q.2
 (⟨r.1, q.1, g.va⟩, g.ch)
def merges (n : Nat) : SS → Bool → List SS → SS × Bool
 | c, ch, [] => (c, ch)
 | c, ch, e :: l => let r := merge n c e ch; merges n r.1 r.2 l
def ends : FT → List SS
 | .probe st => [st]
 | .out k => ends k
 | .bin _ _ _ _ k => ends k
 | .nilq _ _ k => ends k
 | .un _ _ k => ends k
 | .conv _ _ _ k => ends k
 | .len _ _ k => ends k
 | .sidx _ _ _ k => ends k
 | .ssl _ _ _ _ k => ends k
 | .lsl _ _ _ _ k => ends k
 | .bnd _ _ _ k => ends k
 | .ld _ _ _ _ _ k => ends k
 | .mk _ _ _ k => ends k
 | .app _ _ _ k => ends k
 | .upd _ _ _ _ _ _ k => ends k
 | .min _ _ k => ends k
 | .mnew k => ends k
 | .eqs _ _ _ _ k => ends k
 | .mget _ _ _ _ _ k => ends k
 | .mput _ _ _ _ _ k => ends k
 | .call _ _ k1 k2 k3 => ends k1 ++ ends k2 ++ ends k3
 | .br _ k1 k2 => ends k1 ++ ends k2
 | .loop _ body => ends body
 | _ => []
def genLoop (rec : Rec) (n : Nat) (a : Code) : Nat → SS → SS
 | 0, c => c
 | r + 1, c => match merges n c false (ends (rec 0 a c [] fun x st' _ => match x with
     | .normal => .probe st'
     | _ => .stop 0)) with
  | (c', true) => genLoop rec n a r c'
  | (c', false) => c'
def toHead (n m : Nat) (g st : SS) : Option (List SV) :=
 let b := bindSt g st ((newX 0 n).map some ++ List.replicate (g.va.length - n) none, (List.range m).map some)
 let vals := b.1.drop n
 bif chk st (newX 0 n ++ vals) (List.range m) g then some vals else none
def rcLt (n : Nat) : SB → Bool
 | .rc j _ _ _ => Nat.blt j n
 | _ => true
def exitX : Option (Option Nat) → XE
 | none => .normal
 | some none => .ret
 | some (some i) => .exit i
def xrange (cfg : Cfg) (rec2 : Cfg → Rec) (g : Operand) (ps : Array Tmp) (asg body : Code) (st : SS) (df : DF) (k : XE → SS → DF → FT) : FT := match sv st g with
 | some v => match isFn v with
  | some (f, pre, caps) => match cfg.T.func f with
   | some fn => match fn.body with
    | some c => bif cfg.inl f && Nat.ble (pre ++ .yl st.locs.length :: caps).length fn.ntmps then
        rec2 { cfg with K := cfg.K ++ [⟨ps, asg, body⟩] } (cfg.unr f) c ⟨(pre ++ .yl st.locs.length :: caps) ++ List.replicate (fn.ntmps - (pre ++ .yl st.locs.length :: caps).length) .jk, st.locs ++ [.rc cfg.K.length 0 none st.slots], st.va⟩ [] fun x st' df' =>
         xend1 { cfg with K := cfg.K ++ [⟨ps, asg, body⟩] } (rec2 { cfg with K := cfg.K ++ [⟨ps, asg, body⟩] }) fn.results.toList x st' df' (fun _ st2 => match getB st2.locs st.locs.length with
          | .rc _ s pd _ => bif Nat.beq s 1 then .stop 89 else bif (st2.locs.set st.locs.length .dead).all (rcLt cfg.K.length) then k (exitX pd) ⟨st.slots, st2.locs.set st.locs.length .dead, st2.va⟩ df else .stop 89
          | _ => .stop 89) (fun _ _ => .stop 89)
     else .stop 89
    | none => .stop 44
   | none => .stop 45
  | none => .stop 46
 | none => .stop 47
def xstep1 (cfg : Cfg) (rec : Rec) (rec2 : Cfg → Rec) (u : Nat) (c : Code) (st : SS) (df : DF) (k : XE → SS → DF → FT) : FT := match c with
 | .skip => k .normal st df
 | .region _ ops draw => match draw with
  | false => xops cfg rec ops.toList ops.toList st df (k .normal) fun v st df => k (.panic v) st df
  | true => bif planOK' ops.toList (planOf ops.toList) && ((planOf ops.toList).filterMap fun j => ops.toList[j]?).all (fun o => !isDefer o.op) then xops cfg rec ops.toList ((planOf ops.toList).filterMap fun j => ops.toList[j]?) st df (k .normal) fun v st df => k (.panic v) ⟨[], st.locs, st.va⟩ df
   else bif planStatic ops.toList (planOf ops.toList) then xplan cfg rec ops.toList (befOf ops.toList) [] (planOf ops.toList) st (fun st => k .normal st df) (fun v st => k (.panic v) st df) else .stop 57
 | .seq a b => rec u a st df fun x st' df' => match x with
  | .normal => rec u b st' df' k
  | x => k x st' df'
 | .cond q a b => match sv st q with
  | some v => sBr st v (fun st => rec u a st df k) fun st => rec u b st df k
  | none => .stop 58
 | .block id a => rec u a st df fun x st' df' => match x with
  | .exit i => bif Nat.beq i id then k .normal st' df' else k (.exit i) st' df'
  | x => k x st' df'
 | .loop a => match u with
  | u + 1 => rec (u + 1) a st df fun x st' df' => match x with
   | .normal => rec u (.loop a) st' df' k
   | x => k x st' df'
  | 0 =>
   let n := st.va.length
   let m := st.locs.length
   let g := genLoop rec n a 6 st
   match toHead n m g st with
   | some vals => .loop vals (rec 0 a g df fun x st' df' => match x with
       | .normal => bif beqDf df df' then match toHead n m g st' with
        | some vals' => .again vals'
        | none => .stop 59
        else .stop 59
       | x => .out (k x st' df'))
   | none => .stop 61
 | .exit id => k (.exit id) st df
 | .ret => k .ret st df
 | .label _ => k .normal st df
 | .rangeFunc g ps asg body => xrange cfg rec2 g ps asg body st df k
 | _ => .stop 62
def xstep (rec2 : Cfg → Rec) (cfg : Cfg) (u : Nat) (c : Code) (st : SS) (df : DF) (k : XE → SS → DF → FT) : FT := xstep1 cfg (rec2 cfg) rec2 u c st df k
def xcode : Nat → Cfg → Rec
 | 0, _, _, _, _, _, _ => .stop 63
 | n + 1, cfg, u, c, st, df, k => xstep (xcode n) cfg u c st df k
end X
end Go.Proofs.YtmjmpaceopipbaaGreat
namespace Go.Proofs.YtmjmpaceopipbaaGreat
namespace X
open Go B
section
variable {P : Program} {cfg : Cfg} {ext : CallT} {F : Nat → List D → Option (Nat × List D)} {L : Nat} {call : CallT} {C : Cx} {E : SE} {st : SS} {tm : List Value} {H : AHeap} {ty : TypeId} {dst : Option Nat} {dfs : List ADef} {K : St → Option (AExit × St)} {G : Option (AExit × St) → Prop} {o : Out}
inductive XRel (E : SE) : XE → AExit → Prop
 | normal : XRel E .normal .normal
 | exit {i : Nat} : XRel E (.exit i) (.exit i)
 | ret : XRel E .ret .ret
 | panic {v : SV} {w : Value} (h : Dn E v w) : XRel E (.panic v) (.panic w)
def DfR (E : SE) : DF → List ADef → Prop
 | [], [] => True
 | (g, as) :: l, d :: ds => d.f = g ∧ d.args = denL E as ∧ okL E.ρ.length E.ω.length as = true ∧ DfR E l ds
 | _, _ => False
theorem okL_ge {n m n' m' : Nat} (hn : n ≤ n') (hm : m ≤ m') {l : List SV} (h : okL n m l = true) : okL n' m' l = true := by
 rw [okL_all, List.all_eq_true] at h ⊢
 exact fun v hv => SV.ok_mono hn hm (h v hv)
theorem SE.le.len {E E' : SE} (h : SE.le E E') : E.ρ.length ≤ E'.ρ.length ∧ E.ω.length ≤ E'.ω.length := by
 obtain ⟨⟨a, ha⟩, _, ⟨c, hc⟩⟩ := h
 rw [ha, hc, List.length_append, List.length_append]; exact ⟨Nat.le_add_right _ _, Nat.le_add_right _ _⟩
theorem DfR.mono {E E' : SE} (h : SE.le E E') (hl : E.w.length = E.ρ.length) : ∀ {l : DF} {ds : List ADef}, DfR E l ds → DfR E' l ds
 | [], [], _ => trivial
 | (g, as) :: l, d :: ds, ⟨h1, h2, h3, h4⟩ => ⟨h1, by rw [h2, denL_le h (by omega) (Nat.le_refl _) h3], okL_ge h.len.1 h.len.2 h3, DfR.mono h hl h4⟩
 | [], _ :: _, hh => hh.elim
 | _ :: _, [], hh => hh.elim
theorem DfR.det {E : SE} : ∀ {l : DF} {ds ds' : List ADef}, DfR E l ds → DfR E l ds' → ds = ds'
 | [], [], [], _, _ => rfl
 | (g, as) :: l, d :: ds, d' :: ds', ⟨h1, h2, h3, h4⟩, ⟨g1, g2, g3, g4⟩ => by
  obtain ⟨f, a⟩ := d
  obtain ⟨f', a'⟩ := d'
  dsimp only at h1 h2 g1 g2
  rw [h1, h2, g1, g2, DfR.det h4 g4]
 | [], _ :: _, _, hh, _ => hh.elim
 | [], [], _ :: _, _, hh => hh.elim
 | _ :: _, [], _, hh, _ => hh.elim
 | _ :: _, _ :: _, [], _, hh => hh.elim
theorem beqDf_eq : ∀ {l m : DF}, beqDf l m = true → l = m
 | [], [], _ => rfl
 | (g, as) :: l, (f, bs) :: m, h => by
  unfold beqDf at h
  simp only [Bool.and_eq_true] at h
  rw [Nat.eq_of_beq_eq_true h.1.1, beqL_eq h.1.2, beqDf_eq h.2]
 | [], _ :: _, h => by simp [beqDf] at h
 | _ :: _, [], h => by simp [beqDf] at h
theorem DfR.nil {E : SE} {ds : List ADef} (h : DfR E [] ds) : ds = [] := by
 cases ds with
 | nil => rfl
 | cons d ds => exact h.elim
structure CC (C : Cx) (cfg : Cfg) : Prop where
 T : C.T = cfg.T
 K : C.K = cfg.K
def RecOK (P : Program) (cfg : Cfg) (ext : CallT) (F : Nat → List D → Option (Nat × List D)) (L : Nat) (rec : Rec) : Prop :=
 ∀ (C : Cx) (u : Nat) (c : Code) (st : SS) (E : SE) (tm : List Value) (H : AHeap) (df : DF) (dfs : List ADef) (o : Out) (G : Option (AExit × St) → Prop) (k : XE → SS → DF → FT), CC C cfg → SRel C E st tm H → DfR E df dfs →
  (∀ x ax st' E' tm' H' df' dfs', SRel C E' st' tm' H' → SE.le E E' → Kp E st.va H E' st'.va H' → XRel E' x ax → DfR E' df' dfs' → dent cfg.T F L (k x st' df') E'.ρ = some o → G (some (ax, ⟨tm', dfs', H'⟩))) → dent cfg.T F L (rec u c st df k) E.ρ = some o → G (theCode P ext false c ⟨tm, dfs, H⟩)
def NxtP (T : Tabs) (F : Nat → List D → Option (Nat × List D)) (L : Nat) (C : Cx) (E : SE) (va : List VA) (H : AHeap) (tm : List Value) (dfs : List ADef) (G : Option (AExit × St) → Prop) (o : Out) (k : SV → SS → FT) : Prop :=
 ∀ v w st' E' H', SRel C E' st' tm H' → SE.le E E' → Kp E va H E' st'.va H' → Dn E' v w → dent T F L (k v st') E'.ρ = some o → G (some (.panic w, ⟨tm, dfs, H'⟩))
structure CfgOK (P : Program) (cfg : Cfg) (ext : CallT) (F : Nat → List D → Option (Nat × List D)) : Prop where
 tab : TabOK P cfg.T
 ent : ∀ f fn, cfg.T.func f = some fn → enterB P f = true
 spec : ∀ f j s, (j, s) ∈ cfg.sigs f → s.f = f ∧ SpecOK cfg.T (theCall P ext) s (F j)
 inl : ∀ g, cfg.inl g = true → ∀ args H, ext g args H = none
 eqT : ∀ t, cfg.eqT t = true → EqT P t
 rnd : ∀ K args H, ext (P.funcs.size + K) args H = none
theorem isIf_concrete (hT : TabOK P cfg.T) {t : TypeId} (h : isIfT cfg.T t = false) : P.concrete t = true := by
 unfold isIfT at h
 unfold Program.concrete
 cases hu : cfg.T.und t with
 | none => rw [hu] at h; cases h
 | some d => rw [hT.und _ _ hu]; rw [hu] at h; cases d <;> first | rfl | cases h
theorem opA_ifc {ρ : Operand → Value} {t : TypeId} {x : Operand} (hx : operandOk x = true) (hc : P.concrete t = true) : opA P H ρ (.makeInterface t x) ty = some (.val (.iface t (ρ x)) H) := by
 rw [ev_of (by simp) (by simp) (by simp) (by simp)]; unfold evalOp; simp [Op.operands, hx, hc]
theorem sIfc_ok (hT : TabOK P cfg.T) (h : SRel C E st tm H) {t : TypeId} {x : Operand} {k : SV → SS → FT} (hk : Nxt cfg.T F L C E st.va H tm dst dfs K G o k) (hD : dent cfg.T F L (sIfc cfg.T st t x k) E.ρ = some o) :
    G (contA call dst K ⟨tm, dfs, H⟩ (opA P H (aev tm) (.makeInterface t x) ty)) := by
 unfold sIfc at hD
 split at hD
 case h_2 => simp [dent] at hD
 rename_i v hv
 obtain ⟨a1, a2, a3⟩ := sv_ok h hv
 cases hi : isIfT cfg.T t with
 | true => rw [hi] at hD; simp [dent] at hD
 | false =>
  rw [hi, cond_false] at hD
  exact nxt_val h hk (v := .ifc t v) (by rw [SV.ok]; exact a3) hD (by rw [opA_ifc a1 (isIf_concrete hT hi), a2]; rfl)
theorem opA_assert {ρ : Operand → Value} {t s u : TypeId} {v : Value} {x : Operand} {ok : Bool} (hx : operandOk x = true) (hc : P.concrete t = true) (hv : ρ x = .iface u v) (he : u = t) : opA P H ρ (.typeAssert x s t ok) ty = some (.val (if ok then .tuple #[v, .bool true] else v) H) := by
 rw [ev_of (by simp) (by simp) (by simp) (by simp)]; unfold evalOp
 simp only [Op.operands, List.all_toArray, List.all_cons, List.all_nil, hx, Bool.and_true, if_true, hv]
 unfold Program.concrete at hc
 cases hu : P.underlying t with
 | none => rw [hu] at hc; cases hc
 | some d => rw [hu] at hc; cases d <;> first | (simp only [he, if_true]; done) | cases hc
theorem opA_assertN {ρ : Operand → Value} {t s u : TypeId} {v z : Value} {i : TypeInfo} {x : Operand} (hx : operandOk x = true) (hc : P.concrete t = true) (hv : ρ x = .iface u v) (he : u ≠ t) (hi : P.info? t = some i) (hz : i.zero = some z) (hzc : closedV z = true) : opA P H ρ (.typeAssert x s t true) ty = some (.val (.tuple #[z, .bool false]) H) := by
 rw [ev_of (by simp) (by simp) (by simp) (by simp)]; unfold evalOp
 simp only [Op.operands, List.all_toArray, List.all_cons, List.all_nil, hx, Bool.and_true, if_true, hv]
 unfold Program.concrete at hc
 cases hu : P.underlying t with
 | none => rw [hu] at hc; cases hc
 | some d => rw [hu] at hc; cases d <;> first | (simp only [he, if_false, if_true, hi, hz, hzc]; done) | cases hc
theorem sAssert_ok (hT : TabOK P cfg.T) (h : SRel C E st tm H) {t s : TypeId} {x : Operand} {ok : Bool} {k : SV → SS → FT} (hk : Nxt cfg.T F L C E st.va H tm dst dfs K G o k) (hD : dent cfg.T F L (sAssert cfg.T st t x ok k) E.ρ = some o) :
    G (contA call dst K ⟨tm, dfs, H⟩ (opA P H (aev tm) (.typeAssert x s t ok) ty)) := by
 unfold sAssert at hD
 split at hD
 case h_2 => simp [dent] at hD
 rename_i u v hv
 obtain ⟨a1, a2, a3⟩ := sv_ok h hv
 rw [SV.ok] at a3
 cases hi : isIfT cfg.T t with
 | true => rw [hi] at hD; simp [dent] at hD
 | false =>
  rw [hi, cond_false] at hD
  have hc := isIf_concrete hT hi
  cases hb : Nat.beq u t with
  | true =>
   rw [hb, cond_true] at hD
   have he : u = t := Nat.eq_of_beq_eq_true hb
   cases ok with
   | true => exact nxt_val h hk (v := .tup [v, .c (.bool true)]) (by rw [SV.ok, okL, a3]; rfl) hD (by rw [opA_assert a1 hc a2 he]; rfl)
   | false => exact nxt_val h hk (v := v) a3 hD (by rw [opA_assert a1 hc a2 he]; rfl)
  | false =>
   rw [hb, cond_false] at hD
   have he : u ≠ t := fun e => by rw [e, Nat.beq_refl] at hb; cases hb
   cases ok with
   | false => simp [dent] at hD
   | true =>
    rw [cond_true] at hD
    split at hD
    case h_2 => simp [dent] at hD
    rename_i z hz
    obtain ⟨z1, z2⟩ := zero_some hz
    unfold zeroT' at hz
    split at hz
    case h_2 => cases hz
    rename_i i hin
    split at hz
    case h_2 => cases hz
    rename_i z' hz'
    split at hz
    case isFalse => cases hz
    simp only [Option.some.injEq] at hz
    subst hz
    exact nxt_val h hk (v := .tup [.c z', .c (.bool false)]) (by rw [SV.ok, okL, SV.ok, z1]; rfl) hD (by rw [opA_assertN a1 hc a2 he (hT.info _ _ hin) hz' z1]; rfl)
theorem pureRun_eqIf {t : TypeId} {ms : Array (String × TypeId)} (hu : P.underlying t = some (.interface ms)) {a : Value} {s : Bool} (ha : (s = true ∧ a = .nilIface) ∨ (s = false ∧ ∃ q v, a = .iface q v)) : pureRun P (Op.equal t a .nilIface) = some s := by
 unfold Op.equal
 show pureRun P (Op.equalIn 10000 t a .nilIface) = _
 unfold Op.equalIn
 rw [pureRun_seq (pureRun_underlying hu)]
 rcases ha with ⟨rfl, rfl⟩ | ⟨rfl, q, v, rfl⟩ <;> rfl
theorem ifNil_eq {ρ : Operand → Value} {op : BinOp} {t u : TypeId} {x y : Operand} (hx : operandOk x = true) (hy : operandOk y = true) {ms : Array (String × TypeId)} (hu : P.underlying t = some (.interface ms)) {a : Value} {s : Bool} (hv : ρ x = a) (hw : ρ y = .nilIface) (hc : ∃ v, y = .const v) (ha : (s = true ∧ a = .nilIface) ∨ (s = false ∧ ∃ q v, a = .iface q v)) {r : Bool} (hr : (op = .eql ∧ r = s) ∨ (op = .neq ∧ r = !s)) :
    opA P H ρ (.binOp op t x y u) ty = some (.val (.bool r) H) := by
 rw [opA_bin hx hy, hv, hw]
 obtain ⟨cv, rfl⟩ := hc
 have hp := pureRun_eqIf hu ha
 have hg : eqGuard op t x (.const cv) a .nilIface = pure () := by
  rcases hr with ⟨rfl, _⟩ | ⟨rfl, _⟩ <;> rcases ha with ⟨_, rfl⟩ | ⟨_, q, v, rfl⟩ <;> cases x <;> rfl
 have hclosed : closedV a = true → binC P op t x (.const cv) a .nilIface = some (.bool r) := by
  intro hca
  unfold binC
  rw [if_pos (by rw [hca]; rfl), hg, pureRun_seq pureRun_pure]
  rcases hr with ⟨rfl, rfl⟩ | ⟨rfl, rfl⟩
  · have h2 : binOp .eql t a .nilIface = (do pure (.bool (← Op.equal t a .nilIface))) := by rcases ha with ⟨_, rfl⟩ | ⟨_, q, v, rfl⟩ <;> rfl
    rw [h2, pureRun_seq hp]; simp [closedV, pureRun_pure]
  · have h2 : binOp .neq t a .nilIface = (do pure (.bool (!(← Op.equal t a .nilIface)))) := by rcases ha with ⟨_, rfl⟩ | ⟨_, q, v, rfl⟩ <;> rfl
    rw [h2, pureRun_seq hp]; simp [closedV, pureRun_pure]
 cases hca : closedV a with
 | true => exact binS_of (hclosed hca)
 | false =>
  rcases ha with ⟨_, rfl⟩ | ⟨rfl, q, v, rfl⟩
  · cases hca
  · unfold binS
    have : binC P op t x (.const cv) (.iface q v) .nilIface = none := by unfold binC; rw [if_neg]; simp [hca]
    rw [this]
    dsimp only
    rw [hu]
    rcases hr with ⟨rfl, rfl⟩ | ⟨rfl, rfl⟩ <;> rfl
theorem sIfNil_ok (hT : TabOK P cfg.T) (h : SRel C E st tm H) {op : BinOp} {t u : TypeId} {x y : Operand} {a : SV} {s : Bool} (hx : sv st x = some a) (hy : sv st y = some (.c .nilIface)) (ha : (s = true ∧ a = .c .nilIface) ∨ (s = false ∧ ∃ q v, a = .ifc q v)) {k : SV → SS → FT} (hk : Nxt cfg.T F L C E st.va H tm dst dfs K G o k)
    (hD : dent cfg.T F L (sIfNil cfg.T st op t s y k) E.ρ = some o) : G (contA call dst K ⟨tm, dfs, H⟩ (opA P H (aev tm) (.binOp op t x y u) ty)) := by
 obtain ⟨a1, a2, a3⟩ := sv_ok h hx
 obtain ⟨b1, b2, b3⟩ := sv_ok h hy
 unfold sIfNil at hD
 obtain ⟨hb, hD1⟩ := bif_dent hD
 clear hD
 rw [Bool.and_eq_true] at hb
 obtain ⟨ms, hu⟩ : ∃ ms, cfg.T.und t = some (.interface ms) := by
  have := hb.1
  unfold isIfTy at this
  split at this
  · rename_i ms hms; exact ⟨ms, hms⟩
  · cases this
 obtain ⟨cv, rfl⟩ : ∃ v, y = .const v := by
  have := hb.2
  unfold isConstO at this
  split at this
  · exact ⟨_, rfl⟩
  · cases this
 have ha' : (s = true ∧ a.den E = .nilIface) ∨ (s = false ∧ ∃ q v, a.den E = .iface q v) := by
  rcases ha with ⟨h1, rfl⟩ | ⟨h1, q, v, rfl⟩
  · exact .inl ⟨h1, rfl⟩
  · exact .inr ⟨h1, q, v.den E, rfl⟩
 split at hD1
 · exact nxt_val h hk (v := .c (.bool s)) rfl hD1 (ifNil_eq a1 b1 (hT.und _ _ hu) a2 b2 ⟨cv, rfl⟩ ha' (.inl ⟨rfl, rfl⟩))
 · exact nxt_val h hk (v := .c (.bool (!s))) rfl hD1 (ifNil_eq a1 b1 (hT.und _ _ hu) a2 b2 ⟨cv, rfl⟩ ha' (.inr ⟨rfl, rfl⟩))
 · simp [dent] at hD1
theorem opA_panic {ρ : Operand → Value} {t : TypeId} {v : Value} {x : Operand} (hx : operandOk x = true) (hv : ρ x = .iface t v) : opA P H ρ (.panic x) ty = some (.panic (.iface t v) H) := by
 rw [ev_of (by simp) (by simp) (by simp) (by simp)]; unfold evalOp; simp [Op.operands, hx, hv]
theorem sPanic_ok (h : SRel C E st tm H) {x : Operand} {kp : SV → SS → FT} (hkp : NxtP cfg.T F L C E st.va H tm dfs G o kp) (hD : dent cfg.T F L (sPanic st x kp) E.ρ = some o) :
    G (contA call dst K ⟨tm, dfs, H⟩ (opA P H (aev tm) (.panic x) ty)) := by
 unfold sPanic at hD
 split at hD
 case h_2 => simp [dent] at hD
 rename_i t v hv
 obtain ⟨a1, a2, a3⟩ := sv_ok h hv
 rw [opA_panic a1 a2, contA_panic]
 exact hkp _ _ st E H h (SE.le.refl E) (Kp.refl E st.va H) (.inr ⟨a3, rfl⟩) hD
theorem xop0_ok (hC : CC C cfg) (hT : TabOK P cfg.T) (hE : ∀ t, cfg.eqT t = true → EqT P t) (h : SRel C E st tm H) {op : Op} {k : SV → SS → FT} (hk : Nxt cfg.T F L C E st.va H tm dst dfs K G o k)
    (hD : dent cfg.T F L (xop0 cfg st k op) E.ρ = some o) : G (contA call dst K ⟨tm, dfs, H⟩ (opA P H (aev tm) op ty)) := by
 unfold xop0 at hD
 split at hD
 · exact (sMove_ok h hk hD).1
 · exact (sMove_ok h hk hD).2
 · exact sPick_ok h hk hD
 · exact sAlloc_ok hT h hk hD
 · exact sBox_ok hT h hk hD
 · exact sBuild_ok hT h hk hD
 · exact sMk_ok hT hC.T h hk hD
 · exact sLoad_ok hT hC.T h hk hD
 · exact sStore_ok hT hC.T h hk hD
 · exact sNil_ok h hk hD
 · split at hD
   · rename_i l m hx hy
     exact sEqs_ok hT hE h hx hy hk hD
   · rename_i q v hx hy
     exact sIfNil_ok hT h hx hy (.inr ⟨rfl, _, _, rfl⟩) hk hD
   · rename_i hx hy
     exact sIfNil_ok hT h hx hy (.inl ⟨rfl, rfl⟩) hk hD
   · exact sBin_ok hT h hk hD
 · exact sUn_ok h hk hD
 · exact sConv_ok hT h hk hD
 · exact sFunc_ok h hk hD
 · exact sSlice_ok hT hC.T h hk hD
 · exact sFad_ok hT h hk hD
 · exact sField_ok hT h hk hD
 · exact sIdx_ok hT h hk hD
 · exact sIndex_ok hT h hk hD
 · exact sExtract_ok h hk hD
 · exact sMap_ok h hk hD
 · exact sIfc_ok hT h hk hD
 · exact sAssert_ok hT h hk hD
 · exact sGet_ok hT hE h hk hD
 · exact sPut_ok hT hE h hk hD
 · split at hD
   case h_2 => simp [dent] at hD
   rename_i x t ha ht
   rw [arr_of ha, arr_of ht]; exact sLen_ok hT h hk hD
 · split at hD
   case h_2 => simp [dent] at hD
   rename_i x y t t' ha ht
   obtain ⟨hb, hD1⟩ := bif_dent hD
   clear hD
   obtain rfl : t = t' := Nat.eq_of_beq_eq_true hb
   rw [arr_of ha, arr_of ht]; exact sApp_ok hT hC.T h hk hD1
 · split at hD
   case h_2 => simp [dent] at hD
   rename_i x y t t' ha ht
   rw [arr_of ha, arr_of ht]; exact sMin_ok h hk hD
 · simp [dent] at hD
theorem sput_rel (h : SRel C E st tm H) {v : SV} {w : Value} (hs : Dn E v w) (dst : Option Nat) : SRel C E (sput dst v st) (putT dst w tm) H := by
 cases dst with
 | none => exact h
 | some d => exact h.slot hs d
theorem sput_va (st : SS) (dst : Option Nat) (v : SV) : (sput dst v st).va = st.va := by cases dst <;> rfl
theorem sWant_ok (h : SRel C E st tm H) {T : Tabs} {all : List Oper} {op : Oper} {yes no : SS → FT} (hD : dent T F L (sWant all st op yes no) E.ρ = some o) :
    ∃ st', SRel C E st' tm H ∧ st'.va = st.va ∧ ((wantedA all tm op = true ∧ dent T F L (yes st') E.ρ = some o) ∨ (wantedA all tm op = false ∧ dent T F L (no st') E.ρ = some o)) := by
 unfold sWant at hD
 cases hg : op.guard with
 | none =>
  rw [hg] at hD
  exact ⟨st, h, rfl, .inl ⟨by unfold wantedA; rw [hg], hD⟩⟩
 | some p =>
  obtain ⟨j, want⟩ := p
  rw [hg] at hD
  dsimp only at hD
  have hw : wantedA all tm op = (yieldA all tm j == some want) := by unfold wantedA; rw [hg]
  split at hD
  case h_2 => simp [dent] at hD
  rename_i o' ho'
  split at hD
  case h_2 => simp [dent] at hD
  rename_i d hd
  split at hD
  case h_2 => simp [dent] at hD
  rename_i v hv
  have hya : yieldA all tm j = match tm[d]? with | some v => boolOf v | none => none := by
   unfold yieldA; rw [ho']; dsimp only; rw [hd]; rfl
  obtain ⟨w, hw2⟩ := get_of_lt (l := tm) (i := d) (by rw [← h.tm.len]; exact get_lt hv)
  have hdn := h.tm.at_ d v w hv hw2
  have fin : ∀ b st', v.den E = .bool b → v ≠ .jk → SRel C E st' tm H → st'.va = st.va → ((b == want) = true → dent T F L (yes st') E.ρ = some o) → ((b == want) = false → dent T F L (no st') E.ρ = some o) →
      ∃ st', SRel C E st' tm H ∧ st'.va = st.va ∧ ((wantedA all tm op = true ∧ dent T F L (yes st') E.ρ = some o) ∨ (wantedA all tm op = false ∧ dent T F L (no st') E.ρ = some o)) := by
   intro b st' hb hj hS hva h1 h2
   have hwv : w = .bool b := by
    rcases hdn with e | ⟨_, e⟩
    · exact (hj e).elim
    · rw [e, hb]
   have hyv : yieldA all tm j = some b := by rw [hya, hw2, hwv]; rfl
   rw [hyv] at hw
   cases hbw : (b == want) with
   | true => exact ⟨st', hS, hva, .inl ⟨(by rw [hw]; cases b <;> cases want <;> first | rfl | (cases hbw)), h1 hbw⟩⟩
   | false => exact ⟨st', hS, hva, .inr ⟨(by rw [hw]; cases b <;> cases want <;> first | rfl | (cases hbw)), h2 hbw⟩⟩
  cases hu : isU v with
  | true =>
   rw [hu, cond_true] at hD
   have hvu : v = .tup [] := by
    unfold isU at hu
    split at hu
    · rfl
    · cases hu
   have hwu : w = undef := by
    rcases hdn with e | ⟨_, e⟩
    · rw [hvu] at e; cases e
    · rw [e, hvu]; rfl
   have hyu : yieldA all tm j = none := by rw [hya, hw2, hwu]; rfl
   rw [hyu] at hw
   exact ⟨st, h, rfl, .inr ⟨hw, hD⟩⟩
  | false =>
  rw [hu, cond_false] at hD
  cases want with
  | true =>
   rw [cond_true] at hD
   obtain ⟨b, st', h1, h2, h3, hva⟩ := sBr_ok h hD
   refine fin b st' h1 (fun e => by rw [e] at h1; cases h1) h2 hva (fun e => ?_) fun e => ?_
   · cases b with
     | true => exact h3
     | false => cases e
   · cases b with
     | true => cases e
     | false => exact h3
  | false =>
   rw [cond_false] at hD
   obtain ⟨b, st', h1, h2, h3, hva⟩ := sBr_ok h hD
   refine fin b st' h1 (fun e => by rw [e] at h1; cases h1) h2 hva (fun e => ?_) fun e => ?_
   · cases b with
     | true => cases e
     | false => exact h3
   · cases b with
     | true => exact h3
     | false => cases e
end
end X
end Go.Proofs.YtmjmpaceopipbaaGreat
namespace Go.Proofs.YtmjmpaceopipbaaGreat
namespace X
open Go B
section
variable {P : Program} {cfg : Cfg} {ext : CallT} {F : Nat → List D → Option (Nat × List D)} {L : Nat} {call : CallT} {C : Cx} {E : SE} {st : SS} {tm : List Value} {H : AHeap} {ty : TypeId} {dst : Option Nat} {dfs : List ADef} {K : St → Option (AExit × St)} {G : Option (AExit × St) → Prop} {o : Out}
theorem dD_map (E : SE) (us : List SV) : us.map (dv E.ρ) = us.map (SV.dD E) := List.map_congr_left fun s _ => dv_eq E s
theorem kp_frz : ∀ (us : List SV) (as : List VA) (va : List VA), Kp E va H E (frz va us as) H
 | [], _, va => by simpa [X.frz] using Kp.refl E va H
 | _ :: _, [], va => by simpa [X.frz] using Kp.refl E va H
 | u :: us, a :: as, va => by
  unfold X.frz
  refine Kp.trans ?_ (kp_frz us as _)
  split
  · split
    · exact kp_freeze _ _ _
    · exact Kp.refl E va H
  · exact Kp.refl E va H
theorem SRel.frz : ∀ {us : List SV} {as : List VA} {va : List VA}, SRel C E { st with va := va } tm H → SRel C E { st with va := frz va us as } tm H
 | [], _, _, h => by simpa [X.frz] using h
 | _ :: _, [], _, h => by simpa [X.frz] using h
 | u :: us, a :: as, va, h => by
  unfold X.frz
  refine SRel.frz (va := _) ?_
  split
  · rename_i i f
    split
    · rename_i g hg
      exact h.freeze (st := { st with va := va }) hg
    · exact h
  · exact h
theorem tryCall_ok (hC : CC C cfg) (hF : CfgOK P cfg ext F) (h : SRel C E st tm H) {as : List SV} {vals : List Value} {g : FuncId} (ha : DnL E as vals) {j : Nat} {s : Sig} (hs : (j, s) ∈ cfg.sigs g) {k kp : SV → SS → FT} (hk : Nxt cfg.T F L C E st.va H tm dst dfs K G o k) (hkp : NxtP cfg.T F L C E st.va H tm dfs G o kp)
    {t : FT} (ht : tryCall st as j s k kp = some t) (hD : dent cfg.T F L t E.ρ = some o) : G (callA dst K tm dfs (theCall P ext g vals H)) := by
 unfold tryCall at ht
 dsimp only at ht
 generalize bindSt ⟨s.args, s.locs, s.va⟩ ⟨as, st.locs, st.va⟩ (List.replicate s.va.length none, List.replicate s.locs.length none) = b at ht
 obtain ⟨hb, ht⟩ := bif_some' ht
 rw [Bool.and_eq_true, Bool.and_eq_true] at hb
 simp only [Option.some.injEq] at ht
 subst ht
 have hz : SRel C E { st with va := X.frz st.va b.1 s.va } tm H := SRel.frz (st := st) h
 obtain ⟨hsf, hspec⟩ := hF.spec g j s hs
 rw [dent, Option.bind_eq_some_iff] at hD
 obtain ⟨r, hr, hD⟩ := hD
 rw [dD_map] at hr
 obtain ⟨a, ws, os, v, H', h1, h2, h3, hkp0, h5, h6, h7⟩ := hz.ret hb.1.1 hb.1.2 hb.2 ha (hC.T ▸ hspec) (k := r.1) (out := r.2) hr
 have hkpp := (kp_frz b.1 s.va st.va).trans hkp0
 rw [hsf] at h3
 rw [h3]
 have fin : ∀ i, r.1 = i → dent cfg.T F L (altK { st with va := X.frz st.va b.1 s.va } b.1 b.2 s k kp i) (E.ρ ++ r.2) = some o → G (callA dst K tm dfs (some (endOf a.pan v, H'))) := by
  intro i hi hD
  unfold altK at hD
  rw [← hi, h1] at hD
  dsimp only at hD
  cases hp : a.pan with
  | true =>
   rw [hp, cond_true] at hD
   exact hkp _ v _ _ H' h6 h5 hkpp h7 hD
  | false =>
   rw [hp, cond_false] at hD
   exact hk _ v _ _ H' h6 h5 hkpp h7 hD
 split at hD
 · rename_i hr1; exact fin 0 hr1 hD
 · rename_i hr1; exact fin 1 hr1 hD
 · rename_i hr1; exact fin 2 hr1 hD
 · cases hD
theorem tryCalls_ok (hC : CC C cfg) (hF : CfgOK P cfg ext F) (h : SRel C E st tm H) {as : List SV} {vals : List Value} {g : FuncId} (ha : DnL E as vals) {k kp : SV → SS → FT} (hk : Nxt cfg.T F L C E st.va H tm dst dfs K G o k) (hkp : NxtP cfg.T F L C E st.va H tm dfs G o kp) :
    ∀ {l : List (Nat × Sig)}, (∀ p, p ∈ l → p ∈ cfg.sigs g) → ∀ {t : FT}, tryCalls st as k kp l = some t → dent cfg.T F L t E.ρ = some o → G (callA dst K tm dfs (theCall P ext g vals H))
 | [], _, t, ht, _ => by simp [tryCalls] at ht
 | (j, s) :: l, hl, t, ht, hD => by
  unfold tryCalls at ht
  split at ht
  · rename_i t' ht'
    simp only [Option.some.injEq] at ht
    subst ht
    exact tryCall_ok hC hF h ha (hl _ (List.mem_cons_self ..)) hk hkp ht' hD
  · exact tryCalls_ok hC hF h ha hk hkp (fun p hp => hl p (List.mem_cons_of_mem _ hp)) ht hD
theorem packS_ok {vs : List SV} : packA (denL E vs) = (packS vs).den E := by
 match vs with
 | [] => rfl
 | [v] => rfl
 | _ :: _ :: _ => rfl
theorem packS_ok2 {n m : Nat} {vs : List SV} (h : okL n m vs = true) : SV.ok n m (packS vs) = true := by
 match vs, h with
 | [], h => rfl
 | [v], h => rw [okL, Bool.and_eq_true] at h; exact h.1
 | a :: b :: l, h => show SV.ok n m (.tup (a :: b :: l)) = true; rw [SV.ok]; exact h
theorem sres_ok (hT : TabOK P cfg.T) (h : SRel C E st tm H) : ∀ (rs : List ResultVar) (vs : List SV), sres cfg.T st rs = some vs → resultsA P H tm rs = some (denL E vs) ∧ okL E.ρ.length E.ω.length vs = true
 | [], vs, hs => by simp only [sres, Option.some.injEq] at hs; subst hs; exact ⟨rfl, rfl⟩
 | .tmp t :: rs, vs, hs => by
  unfold sres at hs
  split at hs
  case h_2 => cases hs
  rename_i v vs' hv hvs
  cases hj : isJk v with
  | true => rw [hj] at hs; cases hs
  | false =>
   rw [hj, cond_false] at hs
   simp only [Option.some.injEq] at hs
   subst hs
   obtain ⟨w, hw⟩ := get_of_lt (l := tm) (i := t) (by rw [← h.tm.len]; exact get_lt hv)
   obtain ⟨d1, d2⟩ := dn_nj (h.tm.at_ t v w hv hw) hj
   obtain ⟨r1, r2⟩ := sres_ok hT h rs vs' hvs
   refine ⟨?_, by rw [okL, d1, r2]; rfl⟩
   unfold resultsA resultA
   rw [r1]
   dsimp only
   rw [getD_of hw, d2]; rfl
 | .cell a t :: rs, vs, hs => by
  unfold sres at hs
  have hslot : ∀ {b oo : Nat}, st.slots[a]? = some (SV.loc b oo) → tm.getD a undef = .pointer (some ⟨E.ω.getD b 0, oo, none⟩) := by
   intro b oo hv
   obtain ⟨w, hw⟩ := get_of_lt (l := tm) (i := a) (by rw [← h.tm.len]; exact get_lt hv)
   obtain ⟨_, d2⟩ := dn_nj (h.tm.at_ a _ w hv hw) rfl
   rw [getD_of hw, d2]; rfl
  split at hs
  · rename_i b oo vs' ha hg hvs
    obtain ⟨r1, r2⟩ := sres_ok hT h rs vs' hvs
    split at hs
    case h_2 => cases hs
    rename_i cs e hsb
    split at hs
    case h_2 => cases hs
    rename_i v hv
    cases hj : isJk v with
    | true => rw [hj] at hs; cases hs
    | false =>
     rw [hj, cond_false] at hs
     simp only [Option.some.injEq] at hs
     subst hs
     obtain ⟨ad, h1, h2, xs, h3, h4⟩ := h.objAt (getB_of hsb (by simp))
     obtain ⟨w, hw⟩ := get_of_lt (l := xs) (i := oo) (by rw [← h4.len]; exact get_lt hv)
     obtain ⟨d1, d2⟩ := dn_nj (h4.at_ oo v w hv hw) hj
     refine ⟨?_, by rw [okL, d1, r2]; rfl⟩
     unfold resultsA resultA
     dsimp only
     rw [hslot ha, h2, r1]
     dsimp only
     rw [loadV_flat (hT.agg hg), cell_eq, h3, cellO_box, hw, d2]; rfl
  · rename_i b oo vs' ha hg hvs
    obtain ⟨r1, r2⟩ := sres_ok hT h rs vs' hvs
    split at hs
    case h_2 => cases hs
    rename_i cs e i hsb hi
    obtain ⟨hb, hs⟩ := bif_some' hs
    simp only [Option.some.injEq] at hs
    subst hs
    rw [Bool.and_eq_true, Bool.not_eq_true'] at hb
    obtain ⟨ad, h1, h2, xs, h3, h4⟩ := h.objAt (getB_of hsb (by simp))
    obtain ⟨d1, d2⟩ := dnl_all ((h4.drop oo).take i.size) hb.2
    refine ⟨?_, by rw [okL, SV.ok, d1, r2]; rfl⟩
    unfold resultsA resultA
    dsimp only
    rw [hslot ha, h2, r1]
    dsimp only
    have hlv : H.loadV P t ⟨ad, oo, none⟩ = some (.agg ((xs.drop oo).take i.size).toArray) := by
     unfold AHeap.loadV
     rw [hT.agg hg]
     dsimp only
     rw [hT.info _ _ hi]
     dsimp only
     rw [readN_box h3 _ _ (by rw [← h4.len]; exact lenLe_of hb.1)]
    rw [hlv, d2]; rfl
  · cases hs
theorem enter_slots {args : List SV} {vals : List Value} (n : Nat) (h : SRel C E st tm H) (ha : DnL E args vals) : SRel C E ⟨args ++ List.replicate (n - args.length) .jk, st.locs, st.va⟩ (vals ++ List.replicate (n - vals.length) undef) H := by
 refine h.slots ⟨by rw [List.length_append, List.length_append, List.length_replicate, List.length_replicate, ha.len], fun i s v h1 h2 => ?_⟩
 rcases get_app h1 with h1 | ⟨h1, h3⟩
 · rw [List.getElem?_append_left (by rw [← ha.len]; exact get_lt h1)] at h2
   exact ha.at_ i s v h1 h2
 · exact .inl (List.eq_of_mem_replicate (List.mem_of_getElem? h3))
def ModeR (E : SE) : SM → B.Mode → Prop
 | none, none => True
 | some (v, b), some (w, b') => Dn E v w ∧ b = b'
 | _, _ => False
theorem ModeR.mono {E' : SE} (h : SE.le E E') (hl : E.w.length = E.ρ.length) : ∀ {m : SM} {mm : B.Mode}, ModeR E m mm → ModeR E' m mm
 | none, none, _ => trivial
 | some (v, b), some (w, b'), ⟨h1, h2⟩ => ⟨h1.mono h hl, h2⟩
 | none, some _, hh => hh.elim
 | some _, none, hh => hh.elim
theorem ModeR.settle : ∀ {m : SM} {mm : B.Mode}, ModeR E m mm → ModeR E (settleS m) (settleA mm)
 | none, none, _ => trivial
 | some (v, true), some (w, b'), ⟨h1, h2⟩ => by subst h2; trivial
 | some (v, false), some (w, b'), ⟨h1, h2⟩ => by subst h2; exact ⟨h1, rfl⟩
 | none, some _, hh => hh.elim
 | some _, none, hh => hh.elim
theorem ModeR.recover : ∀ {m : SM} {mm : B.Mode}, ModeR E m mm → ModeR E (recoverS m).2 (recoverA mm).2 ∧ Dn E (recoverS m).1 (recoverA mm).1
 | none, none, _ => ⟨trivial, .inr ⟨rfl, rfl⟩⟩
 | some (v, false), some (w, b'), ⟨h1, h2⟩ => by subst h2; exact ⟨⟨h1, rfl⟩, h1⟩
 | some (v, true), some (w, b'), ⟨h1, h2⟩ => by subst h2; exact ⟨⟨h1, rfl⟩, .inr ⟨rfl, rfl⟩⟩
 | none, some _, hh => hh.elim
 | some _, none, hh => hh.elim
noncomputable def evalListS (P : Program) (all : List Oper) : List Oper → B.Mode → St → Option (AExit × B.Mode × St)
 | [], m, s => some (.normal, m, s)
 | o :: rest, m, s =>
     if wantedA all s.tmps o then
      if isRecover o then if o.op.operands.all operandOk then evalListS P all rest (recoverA m).2 { s with tmps := putT o.dst (recoverA m).1 s.tmps } else none
      else match opA P s.H (aev s.tmps) o.op o.type with
       | some (.val v H) => evalListS P all rest m { s with tmps := putT o.dst v s.tmps, H := H }
       | some (.skip H) => evalListS P all rest m { s with tmps := putT o.dst undef s.tmps, H := H }
       | some (.panic v H) => some (.panic v, m, { s with H := H })
       | _ => none
     else evalListS P all rest m { s with tmps := putT o.dst undef s.tmps }
theorem evalIdxS_from {ops : List Oper} : ∀ (n k : Nat) (m : B.Mode) (s : St), k + n = ops.length → evalIdxS P ops (List.range' k n) m s = evalListS P ops (ops.drop k) m s
 | 0, k, m, s, h => by rw [List.drop_of_length_le (by omega)]; rfl
 | n + 1, k, m, s, h => by
  have hk : k < ops.length := by omega
  rw [List.range'_succ, List.drop_eq_getElem_cons hk]
  unfold evalIdxS
  rw [List.getElem?_eq_getElem hk]
  conv => rhs; unfold evalListS
  have ih := fun m s => evalIdxS_from (ops := ops) n (k + 1) m s (by omega)
  simp only [evalAny_op, ih]
  split
  · split
    · rfl
    · cases opA P s.H (aev s.tmps) ops[k].op ops[k].type with
      | none => rfl
      | some r => cases r <;> rfl
  · rfl
theorem evalIdxS_all {ops : List Oper} {m : B.Mode} {s : St} {n : Nat} (hn : n = ops.length) : evalIdxS P ops (List.range n) m s = evalListS P ops ops m s := by
 have := evalIdxS_from (P := P) (ops := ops) n 0 m s (by omega)
 rw [List.drop_zero] at this
 rw [← this, List.range_eq_range']
theorem xop0_res (hC : CC C cfg) (hT : TabOK P cfg.T) (hE : ∀ t, cfg.eqT t = true → EqT P t) (h : SRel C E st tm H) (hne : tm ≠ []) {op : Op} {k : SV → SS → FT} (hD : dent cfg.T F L (xop0 cfg st k op) E.ρ = some o) :
    ∃ v w st' E' H', SRel C E' st' tm H' ∧ SE.le E E' ∧ Kp E st.va H E' st'.va H' ∧ Dn E' v w ∧ dent cfg.T F L (k v st') E'.ρ = some o ∧ (opA P H (aev tm) op ty = some (.val w H') ∨ (opA P H (aev tm) op ty = some (.skip H') ∧ w = undef)) := by
 have := xop0_ok (P := P) (call := fun _ _ _ => none) (ty := ty) (dst := some 0) (dfs := []) (K := fun s => some (.normal, s)) (o := o) (k := k) (G := fun z => ∃ v w st' E' H', z = some (.normal, ⟨putT (some 0) w tm, [], H'⟩) ∧ SRel C E' st' tm H' ∧ SE.le E E' ∧ Kp E st.va H E' st'.va H' ∧ Dn E' v w ∧ dent cfg.T F L (k v st') E'.ρ = some o)
  hC hT hE h (fun v w st' E' H' a1 a2 a3 a4 a5 => ⟨v, w, st', E', H', rfl, a1, a2, a3, a4, a5⟩) hD
 obtain ⟨v, w, st', E', H', hz, a1, a2, a3, a4, a5⟩ := this
 have set0 : ∀ {a b : Value}, tm.set 0 a = tm.set 0 b → a = b := by
  intro a b e
  cases tm with
  | nil => exact (hne rfl).elim
  | cons x l => simpa using e
 refine ⟨v, w, st', E', H', a1, a2, a3, a4, a5, ?_⟩
 cases hr : opA P H (aev tm) op ty with
 | none => rw [hr] at hz; cases hz
 | some r =>
  rw [hr] at hz
  cases r with
  | val v0 H0 =>
   rw [contA_val] at hz
   simp only [Option.some.injEq, Prod.mk.injEq, St.mk.injEq, true_and] at hz
   obtain ⟨h1, rfl⟩ := hz
   left
   rw [set0 h1]
  | skip H0 =>
   rw [contA_skip] at hz
   simp only [Option.some.injEq, Prod.mk.injEq, St.mk.injEq, true_and] at hz
   obtain ⟨h1, rfl⟩ := hz
   exact .inr ⟨rfl, (set0 h1).symm⟩
  | enter f args H1 => cases hz
  | panic v0 H0 => rw [contA_panic] at hz; cases hz
  | defer d args H0 => cases hz
theorem xopsS_ok (hC : CC C cfg) (hF : CfgOK P cfg ext F) {all : List Oper} : ∀ (l : List Oper) (m : SM) (mm : B.Mode) (st : SS) (E : SE) (tm : List Value) (H : AHeap) (k : XE → SM → SS → FT) (G : Option (AExit × B.Mode × St) → Prop), SRel C E st tm H → ModeR E m mm →
    (∀ x ax m' mm' st' E' tm' H', SRel C E' st' tm' H' → SE.le E E' → Kp E st.va H E' st'.va H' → XRel E' x ax → ModeR E' m' mm' → dent cfg.T F L (k x m' st') E'.ρ = some o → G (some (ax, mm', ⟨tm', [], H'⟩))) →
    dent cfg.T F L (xopsS cfg all l m st k) E.ρ = some o → G (evalListS P all l mm ⟨tm, [], H⟩)
 | [], m, mm, st, E, tm, H, k, G, h, hm, hk, hD => hk .normal .normal m mm st E tm H h (SE.le.refl E) (Kp.refl E st.va H) .normal hm hD
 | op :: rest, m, mm, st, E, tm, H, k, G, h, hm, hk, hD => by
  unfold xopsS at hD
  unfold evalListS
  dsimp only
  cases hem : st.slots.isEmpty with
  | true => rw [hem, cond_true] at hD; simp [dent] at hD
  | false =>
  rw [hem, cond_false] at hD
  have hne : tm ≠ [] := fun e => by
   have := h.tm.len
   rw [e] at this
   rw [List.length_eq_zero_iff.1 this] at hem
   cases hem
  obtain ⟨st1, h1, hva1, hcase⟩ := sWant_ok h hD
  clear hD
  rw [← hva1] at hk
  rcases hcase with ⟨hw, hD⟩ | ⟨hw, hD⟩
  · rw [if_pos hw]
    cases hr : isRecover op with
    | true =>
     rw [hr, cond_true] at hD
     obtain ⟨ha, hD1⟩ := bif_dent hD
     rw [if_pos rfl, if_pos (by rw [allOk_eq] at ha; simpa using ha)]
     obtain ⟨r1, r2⟩ := hm.recover
     exact xopsS_ok hC hF rest _ _ _ E _ H k G (sput_rel h1 r2 op.dst) r1 (by rw [sput_va]; exact hk) hD1
    | false =>
     rw [hr, cond_false] at hD
     rw [if_neg (by simp)]
     obtain ⟨v, w, st', E', H', a1, a2, a3, a4, a5, a6⟩ := xop0_res (ty := op.type) hC hF.tab hF.eqT h1 hne hD
     have key := xopsS_ok hC hF rest m mm _ E' _ H' k G (sput_rel a1 a4 op.dst) (hm.mono a2 h.lw) (by
      rw [sput_va]
      exact fun x ax m' mm' st2 E2 tm2 H2 b1 b2 b3 b4 b5 b6 => hk x ax m' mm' st2 E2 tm2 H2 b1 (a2.trans b2) (a3.trans b3) b4 b5 b6) a5
     rcases a6 with a6 | ⟨a6, rfl⟩
     · rw [a6]; exact key
     · rw [a6]; exact key
  · rw [if_neg (by rw [hw]; simp)]
    exact xopsS_ok hC hF rest m mm _ E _ H k G (sput_rel h1 (v := .tup []) (w := undef) (.inr ⟨rfl, rfl⟩) op.dst) hm (by rw [sput_va]; exact hk) hD
theorem xS_ok (hC : CC C cfg) (hF : CfgOK P cfg ext F) {rec : Rec} (hrec : RecOK P cfg ext F L rec) {u : Nat} : ∀ (c : Code) (m : SM) (mm : B.Mode) (st : SS) (E : SE) (tm : List Value) (H : AHeap) (k : XE → SM → SS → FT) (G : Option (AExit × B.Mode × St) → Prop), SRel C E st tm H → ModeR E m mm →
    (∀ x ax m' mm' st' E' tm' H', SRel C E' st' tm' H' → SE.le E E' → Kp E st.va H E' st'.va H' → XRel E' x ax → ModeR E' m' mm' → dent cfg.T F L (k x m' st') E'.ρ = some o → G (some (ax, mm', ⟨tm', [], H'⟩))) →
    dent cfg.T F L (xS cfg rec u c m st k) E.ρ = some o → G (evalS P (theCode P ext false) c mm ⟨tm, [], H⟩) := by
 have leaf : ∀ (c : Code) (m : SM) (mm : B.Mode) (st : SS) (E : SE) (tm : List Value) (H : AHeap) (k : XE → SM → SS → FT) (G : Option (AExit × B.Mode × St) → Prop), SRel C E st tm H → ModeR E m mm →
     (∀ x ax m' mm' st' E' tm' H', SRel C E' st' tm' H' → SE.le E E' → Kp E st.va H E' st'.va H' → XRel E' x ax → ModeR E' m' mm' → dent cfg.T F L (k x m' st') E'.ρ = some o → G (some (ax, mm', ⟨tm', [], H'⟩))) →
     dent cfg.T F L (xLeaf rec u c m st k) E.ρ = some o → G (keepS mm (theCode P ext false c ⟨tm, [], H⟩)) := by
  intro c m mm st E tm H k G h hm hk hD
  unfold xLeaf at hD
  refine hrec C u c st E tm H [] [] o (fun z => G (keepS mm z)) _ hC h trivial ?_ hD
  intro x ax st' E' tm' H' df' dfs' hR hle hkp hx hd hD
  obtain ⟨he, hD1⟩ := bif_dent hD
  rw [List.isEmpty_iff] at he
  subst he
  obtain rfl := hd.nil
  exact hk x ax m mm st' E' tm' H' hR hle hkp hx (hm.mono hle h.lw) hD1
 intro c
 induction c with
 | seq a b iha ihb =>
  intro m mm st E tm H k G h hm hk hD
  rw [xS] at hD
  rw [evalS]
  refine iha m mm st E tm H _ (fun z => G (match z with | some (.normal, m1, s1) => evalS P (theCode P ext false) b m1 s1 | r => r)) h hm ?_ hD
  intro x ax m' mm' st' E' tm' H' hR hle hkp hx hm' hD
  cases hx with
  | normal => exact ihb m' mm' st' E' tm' H' k G hR hm' (fun x2 ax2 m2 mm2 st2 E2 tm2 H2 b1 b2 b3 b4 b5 b6 => hk x2 ax2 m2 mm2 st2 E2 tm2 H2 b1 (hle.trans b2) (hkp.trans b3) b4 b5 b6) hD
  | exit => exact hk _ _ _ _ _ _ _ _ hR hle hkp .exit hm' hD
  | ret => exact hk _ _ _ _ _ _ _ _ hR hle hkp .ret hm' hD
  | panic hd => exact hk _ _ _ _ _ _ _ _ hR hle hkp (.panic hd) hm' hD
 | cond q a b iha ihb =>
  intro m mm st E tm H k G h hm hk hD
  rw [xS] at hD
  rw [evalS]
  split at hD
  case h_2 => simp [dent] at hD
  rename_i v hv
  obtain ⟨a1, a2, a3⟩ := sv_ok h hv
  obtain ⟨bb, st', h1, h2, h3, hva⟩ := sBr_ok h hD
  rw [← hva] at hk
  rw [if_pos a1]
  have hbo : boolOf (aev (St.mk tm [] H).tmps q) = some bb := by show boolOf (aev tm q) = _; rw [a2, h1]; rfl
  rw [hbo]
  cases bb with
  | true => exact iha m mm st' E tm H k G h2 hm hk h3
  | false => exact ihb m mm st' E tm H k G h2 hm hk h3
 | region id ops draw =>
  intro m mm st E tm H k G h hm hk hD
  rw [xS] at hD
  rw [evalS]
  cases hb : !draw && ops.toList.any isRecover with
  | true =>
   rw [hb, cond_true] at hD
   rw [Bool.and_eq_true, Bool.not_eq_true'] at hb
   rw [if_pos hb, evalIdxS_all (by simp)]
   exact xopsS_ok hC hF _ m mm st E tm H k G h hm hk hD
  | false =>
   rw [hb, cond_false] at hD
   rw [if_neg (by rintro ⟨h1, h2⟩; rw [h1, h2] at hb; cases hb)]
   exact leaf _ m mm st E tm H k G h hm hk hD
 | _ =>
  intro m mm st E tm H k G h hm hk hD
  rw [xS] at hD <;> first | (rw [evalS] <;> first | exact leaf _ m mm st E tm H k G h hm hk hD | simp) | simp
theorem runDf_ok (hC : CC C cfg) (hF : CfgOK P cfg ext F) {rec : Rec} (hrec : RecOK P cfg ext F L rec) : ∀ (df : DF) (m : SM) (mm : B.Mode) (st : SS) (E : SE) (H : AHeap) (ds : List ADef) (k : SM → SS → FT) (G : Option (B.Mode × AHeap) → Prop), SRel C E st tm H → DfR E df ds → ModeR E m mm →
    (∀ m' mm' st' E' H', SRel C E' st' tm H' → SE.le E E' → Kp E st.va H E' st'.va H' → ModeR E' m' mm' → dent cfg.T F L (k m' st') E'.ρ = some o → G (some (mm', H'))) →
    dent cfg.T F L (runDf cfg rec df m st k) E.ρ = some o → G (unwindA P (theCode P ext false) ds mm H)
 | [], m, mm, st, E, H, ds, k, G, h, hd, hm, hk, hD => by
  rw [hd.nil]
  exact hk m mm st E H h (SE.le.refl E) (Kp.refl E st.va H) hm hD
 | (g, as) :: l, m, mm, st, E, H, [], k, G, h, hd, hm, hk, hD => hd.elim
 | (g, as) :: l, m, mm, st, E, H, d :: ds, k, G, h, ⟨h1, h2, h3, h4⟩, hm, hk, hD => by
  unfold runDf at hD
  split at hD
  case h_2 => simp [dent] at hD
  rename_i fn hfn
  split at hD
  case h_2 => simp [dent] at hD
  rename_i c hc
  obtain ⟨hb, hD1⟩ := bif_dent hD
  clear hD
  have hdn : DnL E as d.args := by rw [h2]; exact DnL_of_ok h3
  unfold unwindA
  have hda : deferredA P (theCode P ext false) d mm H = leaveS P fn (evalS P (theCode P ext false) c mm ⟨d.args ++ List.replicate (fn.ntmps - d.args.length) undef, [], H⟩) := by
   unfold deferredA
   rw [h1, hF.tab.func _ _ hfn]
   dsimp only
   rw [hc]; rfl
  rw [hda]
  refine xS_ok hC hF hrec c m mm _ E _ H _ (fun z => G (match leaveS P fn z with | some (m1, H1) => unwindA P (theCode P ext false) ds m1 H1 | none => none)) (enter_slots fn.ntmps h hdn) hm ?_ hD1
  intro x ax m' mm' st' E' tm' H' hR hle hkp hx hm' hD
  obtain ⟨he, hD2⟩ := bif_dent hD
  clear hD
  split at hD2
  case h_2 => simp [dent] at hD2
  rename_i vs hvs
  obtain ⟨r1, r2⟩ := sres_ok hF.tab hR _ _ hvs
  have hl : leaveS P fn (some (ax, mm', ⟨tm', [], H'⟩)) = some (settleA mm', H') := by
   cases hx with
   | normal => unfold leaveS; dsimp only; rw [r1]
   | ret => unfold leaveS; dsimp only; rw [r1]
   | _ => cases he
  rw [hl]
  dsimp only
  exact runDf_ok hC hF hrec l _ _ _ E' H' ds k G (hR.slots (h.tm.mono hle h.lw)) (h4.mono hle h.lw) hm'.settle (fun m2 mm2 st2 E2 H2 a1 a2 a3 a4 a5 => hk m2 mm2 st2 E2 H2 a1 (hle.trans a2) (hkp.trans a3) a4 a5) hD2
theorem xend1_ok (hC : CC C cfg) (hF : CfgOK P cfg ext F) {rec : Rec} (hrec : RecOK P cfg ext F L rec) {rs : List ResultVar} {x : XE} {ax : AExit} {df : DF} {k kp : SV → SS → FT} {R : Option (AEnd × AHeap) → Prop} (h : SRel C E st tm H) (hx : XRel E x ax) (hd : DfR E df dfs)
    (hk : ∀ v st' E' H', SRel C E' st' tm H' → SE.le E E' → Kp E st.va H E' st'.va H' → SV.ok E'.ρ.length E'.ω.length v = true → dent cfg.T F L (k v st') E'.ρ = some o → R (some (.ret (v.den E'), H')))
    (hkp : ∀ v w st' E' H', SRel C E' st' tm H' → SE.le E E' → Kp E st.va H E' st'.va H' → Dn E' v w → dent cfg.T F L (kp v st') E'.ρ = some o → R (some (.panic w, H')))
    (hD : dent cfg.T F L (xend1 cfg rec rs x st df k kp) E.ρ = some o) : R (leaveR P (theCode P ext false) rs (some (ax, ⟨tm, dfs, H⟩))) := by
 have key : ∀ (m : SM) (mm : B.Mode), ModeR E m mm → dent cfg.T F L (xendD cfg rec rs df m st k kp) E.ρ = some o → R (endA P rs tm (unwindA P (theCode P ext false) dfs mm H)) := by
  intro m mm hm hD
  unfold xendD at hD
  refine runDf_ok hC hF hrec df m mm st E H dfs _ (fun z => R (endA P rs tm z)) h hd hm ?_ hD
  intro m' mm' st' E' H' hR hle hkp' hm' hD
  split at hD
  · cases mm' with
    | some _ => exact hm'.elim
    | none =>
     split at hD
     case h_2 => simp [dent] at hD
     rename_i vs hvs
     obtain ⟨r1, r2⟩ := sres_ok hF.tab hR _ _ hvs
     unfold endA
     dsimp only
     rw [r1]
     dsimp only
     rw [packS_ok]
     exact hk _ st' E' H' hR hle hkp' (packS_ok2 r2) hD
  · rename_i v
    cases mm' with
    | none => exact hm'.elim
    | some q =>
     obtain ⟨w, b'⟩ := q
     obtain ⟨h1, h2⟩ := hm'
     subst h2
     exact hkp v w st' E' H' hR hle hkp' h1 hD
  · simp [dent] at hD
 unfold xend1 at hD
 cases hx with
 | normal => rw [leaveR_end (.inl rfl)]; exact key none none trivial hD
 | ret => rw [leaveR_end (.inr rfl)]; exact key none none trivial hD
 | exit => simp [isEnd, dent] at hD
 | @panic v w hv =>
  dsimp only at hD
  cases hb : df.isEmpty with
  | true =>
   rw [hb, cond_true] at hD
   rw [List.isEmpty_iff] at hb
   subst hb
   obtain rfl := hd.nil
   rw [leaveR_panic]
   exact hkp _ _ st E H h (SE.le.refl E) (Kp.refl E st.va H) hv hD
  | false =>
   rw [hb, cond_false] at hD
   cases hem : st.slots.isEmpty with
   | true => rw [hem, cond_true] at hD; simp [dent] at hD
   | false =>
    rw [hem, cond_false] at hD
    have hlr : leaveR P (theCode P ext false) rs (some (.panic w, ⟨tm, dfs, H⟩)) = endA P rs tm (unwindA P (theCode P ext false) dfs (some (w, false)) H) := by
     cases tm with
     | nil =>
      have := h.tm.len
      rw [List.length_nil, List.length_eq_zero_iff] at this
      rw [this] at hem; cases hem
     | cons t tm =>
      cases dfs with
      | nil =>
       cases df with
       | nil => cases hb
       | cons _ _ => exact hd.elim
      | cons d ds => rfl
    rw [hlr]
    exact key (some (v, false)) (some (w, false)) ⟨hv, rfl⟩ hD
end
end X
end Go.Proofs.YtmjmpaceopipbaaGreat
namespace Go.Proofs.YtmjmpaceopipbaaGreat
namespace X
open Go B
section
variable {P : Program} {cfg : Cfg} {ext : CallT} {F : Nat → List D → Option (Nat × List D)} {L : Nat} {call : CallT} {C : Cx} {E : SE} {st : SS} {tm : List Value} {H : AHeap} {ty : TypeId} {dst : Option Nat} {dfs : List ADef} {K : St → Option (AExit × St)} {G : Option (AExit × St) → Prop} {o : Out}
theorem inlCall_ok (hC : CC C cfg) (hF : CfgOK P cfg ext F) {rec : Rec} (hrec : RecOK P cfg ext F L rec) (h : SRel C E st tm H) {as : List SV} {vals : List Value} {g : FuncId} (hg : cfg.inl g = true) (ha : DnL E as vals) {k kp : SV → SS → FT} (hk : Nxt cfg.T F L C E st.va H tm dst dfs K G o k) (hkp : NxtP cfg.T F L C E st.va H tm dfs G o kp)
    (hD : dent cfg.T F L (inlCall cfg rec g as st k kp) E.ρ = some o) : G (callA dst K tm dfs (theCall P ext g vals H)) := by
 unfold inlCall at hD
 split at hD
 case h_2 => simp [dent] at hD
 rename_i fn hfn
 split at hD
 case h_2 => simp [dent] at hD
 rename_i c hc
 obtain ⟨hb, hD1⟩ := bif_dent hD
 clear hD
 rw [theCall_body (hF.inl g hg vals H) (hF.tab.func _ _ hfn) hc]
 refine hrec C (cfg.unr g) c _ E _ H [] [] o (fun z => G (callA dst K tm dfs (leaveR P (theCode P ext false) fn.results.toList z))) _ hC (enter_slots fn.ntmps h ha) trivial ?_ hD1
 intro x ax st' E' tm' H' df' dfs' hR hle' hkp' hx hd' hD
 refine xend1_ok (R := fun z => G (callA dst K tm dfs z)) hC hF hrec hR hx hd' ?_ ?_ hD
 · intro v st2 E2 H2 a1 a2 a3 a4 a5
   exact hk _ _ _ E2 H2 (a1.slots (h.tm.mono (hle'.trans a2) h.lw)) (hle'.trans a2) (hkp'.trans a3) (.inr ⟨a4, rfl⟩) a5
 · intro v w st2 E2 H2 a1 a2 a3 a4 a5
   exact hkp _ _ _ E2 H2 (a1.slots (h.tm.mono (hle'.trans a2) h.lw)) (hle'.trans a2) (hkp'.trans a3) a4 a5
theorem isFn_ok {v : SV} {g : FuncId} {pre caps : List SV} (hv : isFn v = some (g, pre, caps)) (hk : SV.ok E.ρ.length E.ω.length v = true) : v.den E = .func (.func g) (denL E pre).toArray (denL E caps).toArray ∧ okL E.ρ.length E.ω.length pre = true ∧ okL E.ρ.length E.ω.length caps = true := by
 unfold isFn at hv
 split at hv
 · simp only [Option.some.injEq, Prod.mk.injEq] at hv
   obtain ⟨rfl, rfl, rfl⟩ := hv
   rw [SV.ok] at hk
   exact ⟨rfl, rfl, hk⟩
 · simp only [Option.some.injEq, Prod.mk.injEq] at hv
   obtain ⟨rfl, rfl, rfl⟩ := hv
   rw [SV.ok] at hk
   exact ⟨rfl, by rw [okL, hk]; rfl, rfl⟩
 · rename_i f x y
   obtain ⟨hb, hv⟩ := bif_some' hv
   simp only [Option.some.injEq, Prod.mk.injEq] at hv
   obtain ⟨rfl, rfl, rfl⟩ := hv
   rw [Bool.and_eq_true, List.isEmpty_iff, List.isEmpty_iff] at hb
   refine ⟨?_, rfl, rfl⟩
   rw [SV.den, denL]
   have e1 : x = #[] := Array.toList_eq_nil_iff.1 hb.1
   have e2 : y = #[] := Array.toList_eq_nil_iff.1 hb.2
   rw [e1, e2]
 · cases hv
theorem evalIdx_rnd {all : List Oper} (h : all.any (fun o => isDefer o.op) = false) : ∀ (is : List Nat) (s : St), evalIdx P call true all is s = evalIdx P call false all is s
 | [], s => rfl
 | j :: rest, s => by
  have ih := fun s => evalIdx_rnd h rest s
  unfold evalIdx
  cases ho : all[j]? with
  | none => exact ih s
  | some o =>
   dsimp only
   have hnd : ∀ c, o.op ≠ .defer c := by
    intro c hc
    rw [List.any_eq_false] at h
    have := h o (List.mem_of_getElem? ho)
    rw [hc] at this
    simp [isDefer] at this
   split
   · split
     · rename_i c hc; exact (hnd c hc).elim
     · simp only [ih]
   · exact ih _
theorem evalCode_rnd : ∀ (k : Nat) (c : Code) (s : St), plainC c = true → evalCode P call true k c s = evalCode P call false k c s := by
 intro k
 induction k using Nat.strongRecOn with
 | _ k ihk =>
  intro c
  induction c with
  | seq a b iha ihb =>
   intro s h
   rw [plainC, Bool.and_eq_true] at h
   rw [evalCode_seq, evalCode_seq, iha s h.1]
   congr 1
   funext s1
   exact ihb s1 h.2
  | cond q a b iha ihb =>
   intro s h
   rw [plainC, Bool.and_eq_true] at h
   rw [evalCode, evalCode, iha s h.1, ihb s h.2]
  | block id a iha =>
   intro s h
   rw [plainC] at h
   rw [evalCode, evalCode, iha s h]
  | loop a iha =>
   intro s h
   cases k with
   | zero => rw [evalCode, evalCode]
   | succ k =>
    have h' := h
    rw [plainC] at h'
    rw [evalCode, evalCode, ihk k (Nat.lt_succ_self k) a s h']
    cases evalCode P call false k a s with
    | none => rfl
    | some r =>
     obtain ⟨x, s1⟩ := r
     cases x with
     | normal => exact ihk k (Nat.lt_succ_self k) (.loop a) s1 h
     | _ => rfl
  | region id ops draw =>
   intro s h
   rw [plainC, Bool.not_eq_true'] at h
   rw [evalCode, evalCode]
   cases draw with
   | true => rfl
   | false => simp only [Bool.false_eq_true, if_false]; exact evalIdx_rnd h _ _
  | skip => intro s _; rw [evalCode, evalCode]
  | exit => intro s _; rw [evalCode, evalCode]
  | ret => intro s _; rw [evalCode, evalCode]
  | label => intro s _; rw [evalCode, evalCode]
  | _ => intro s h; simp [plainC] at h
theorem theCode_plain {c : Code} {s : St} (h : plainC c = true) : theCode P ext true c s = theCode P ext false c s := by
 unfold theCode
 congr 1
 funext k
 exact evalCode_rnd k c s h
theorem setAll_dn : ∀ (ps : List Tmp) {as cs : List SV} {vals vs : List Value}, DnL E as vals → DnL E cs vs → DnL E (setAllS ps as cs) (setAll ps vals vs)
 | [], as, cs, vals, vs, ha, hc => hc
 | p :: ps, [], cs, vals, vs, ha, hc => by
  have : vals = [] := List.length_eq_zero_iff.1 ha.len.symm
  subst this; exact hc
 | p :: ps, a :: as, cs, [], vs, ha, hc => by have := ha.len; simp at this
 | p :: ps, a :: as, cs, v :: vals, vs, ha, hc => by
  have h1 : DnL E as vals := ⟨by have := ha.len; simpa using this, fun i s w h1 h2 => ha.at_ (i + 1) s w (by simpa using h1) (by simpa using h2)⟩
  have h2 : DnL E (cs.set p a) (vs.set p v) := ⟨by simp [hc.len], fun i s w g1 g2 => by
   rcases mem_set_ne g1 with ⟨e1, e2⟩ | ⟨e1, e2⟩
   · rcases mem_set_ne g2 with ⟨f1, f2⟩ | ⟨f1, f2⟩
     · rw [e2, f2]; exact ha.at_ 0 a v rfl rfl
     · exact (f1 e1).elim
   · rcases mem_set_ne g2 with ⟨f1, f2⟩ | ⟨f1, f2⟩
     · exact (e1 f1).elim
     · exact hc.at_ i s w e2 f2⟩
  exact setAll_dn ps h1 h2
theorem rndEnd_ok {x : XE} {ax : AExit} {pd : Option (Option Nat)} (hx : XRel E x ax) (h : rndEnd x = some pd) : jumpOf ax = some (pdOf pd) := by
 cases hx <;> simp only [rndEnd, Option.some.injEq] at h <;> first | (subst h; rfl) | cases h
theorem kp_set (h : SRel C E st tm H) {b a : Nat} (ha : E.ω[b]? = some a) (ob : AObj) : Kp E st.va H E st.va (H.set a ob) :=
 ⟨Nat.le_refl _, fun c _ hc => by
  have : c ≠ a := fun e => hc (.inl (e ▸ List.mem_of_getElem? ha))
  simp [AHeap.set, this], fun _ _ hp => hp, fun _ hb => .inl hb⟩
theorem set_get (H : AHeap) (a : Nat) (ob : AObj) : (H.set a ob).get a = some ob := by simp [AHeap.set]
theorem roundA_ready {a : Nat} {tm1 : List Value} {dfs1 : List ADef} {H1 : AHeap} {r1 : ALoop} (k : St → Option (AExit × St)) (h : H1.get a = some (.loop r1)) (hs : r1.state = .ready) : roundA a (some (.normal, ⟨tm1, dfs1, H1⟩)) k = roundB a (k ⟨tm1, dfs1, H1.set a (.loop { r1 with state := .busy })⟩) := by
 unfold roundA
 dsimp only
 rw [h]
 dsimp only
 rw [if_pos hs]
theorem sYield_ok (hC : CC C cfg) (hF : CfgOK P cfg ext F) {rec : Rec} (hrec : RecOK P cfg ext F L rec) (h : SRel C E st tm H) {b : Nat} {as : List SV} {vals : List Value} (ha : DnL E as vals) {k : SV → SS → FT} (hk : Nxt cfg.T F L C E st.va H tm dst dfs K G o k)
    (hD : dent cfg.T F L (sYield cfg rec st b as k) E.ρ = some o) : ∃ r, H.get (E.ω.getD b 0) = some (.loop r) ∧ vals.length = r.params.size ∧ G (callA dst K tm dfs (theCall P ext (P.funcs.size + E.ω.getD b 0) vals H)) := by
 unfold sYield at hD
 split at hD
 case h_2 => simp [dent] at hD
 rename_i j cs hsb
 split at hD
 case h_2 => simp [dent] at hD
 rename_i r hr
 obtain ⟨hb, hD1⟩ := bif_dent hD
 clear hD
 simp only [Bool.and_eq_true] at hb
 obtain ⟨⟨hp1, hp2⟩, hp3⟩ := hb
 obtain ⟨a, e1, e2, r0, vs, e3, e4, e5⟩ := h.objAt (getB_of hsb (by simp))
 rw [hC.K, hr] at e3
 obtain rfl := Option.some.inj e3
 have hlen : vals.length = r.ps.size := by rw [← ha.len]; exact Nat.eq_of_beq_eq_true hp3
 rw [e2]
 refine ⟨_, e4, hlen, ?_⟩
 rw [theCall_round (hF.rnd _ _ _) e4, theCode_plain hp1]
 simp only [theCode_plain hp2]
 have hst := (h.slots (setAll_dn r.ps.toList ha e5))
 refine hrec C 0 r.asg _ E _ H [] [] o (fun z => G (callA dst K tm dfs (roundA a z (fun s => theCode P ext false r.body s)))) _ hC hst trivial ?_ hD1
 intro x ax st1 E1 tm1 H1 df1 dfs1 hR1 le1 kp1 hx hd1 hD
 cases hx with
 | exit => simp [dent] at hD
 | ret => simp [dent] at hD
 | panic => simp [dent] at hD
 | normal =>
 dsimp only at hD
 split at hD
 case h_2 => simp [dent] at hD
 rename_i j1 cs1 hsb1
 obtain ⟨a1, f1, f2, r1, vs1, f3, f4, f5⟩ := hR1.objAt (getB_of hsb1 (by simp))
 have haa : a1 = a := by
  obtain ⟨_, _, ⟨l, hl⟩⟩ := le1
  rw [hl, List.getElem?_append_left (get_lt e1), e1] at f1
  exact (Option.some.inj f1).symm
 subst haa
 rw [roundA_ready _ f4 rfl]
 have hR2 := hR1.setObj (o := .loop ⟨.busy, none, vs1, r1.ps, r1.asg, r1.body⟩) (sb := .rc j1 1 none cs1) f1 (by rw [f4]; rfl) ⟨r1, vs1, f3, set_get _ _ _, f5⟩
 have kp2 := kp_set hR1 f1 (.loop ⟨.busy, none, vs1, r1.ps, r1.asg, r1.body⟩)
 refine hrec C 0 r.body _ E1 tm1 _ df1 dfs1 o (fun z => G (callA dst K tm dfs (roundB a1 z))) _ hC hR2 hd1 ?_ hD
 intro x ax st3 E3 tm3 H3 df3 dfs3 hR3 le3 kp3 hx hd3 hD
 split at hD
 case h_2 => simp [dent] at hD
 rename_i pd hpd
 have hj := rndEnd_ok hx hpd
 split at hD
 case h_2 => simp [dent] at hD
 rename_i j2 s2 pd2 cs2 hsb2
 obtain ⟨a2, g1, g2, r2, vs2, g3, g4, g5⟩ := hR3.objAt (getB_of hsb2 (by simp))
 have haa2 : a2 = a1 := by
  obtain ⟨_, _, ⟨l, hl⟩⟩ := le3
  rw [hl, List.getElem?_append_left (get_lt f1), f1] at g1
  exact (Option.some.inj g1).symm
 subst haa2
 have hst2 : stOf (bif pd.isNone then 0 else 2) = (if (pdOf pd).isNone then LoopState.ready else LoopState.done) := by
  cases pd with
  | none => rfl
  | some q => cases q <;> rfl
 have hb2 : (pdOf pd).isNone = pd.isNone := by
  cases pd with
  | none => rfl
  | some q => cases q <;> rfl
 have hrb : roundB a2 (some (ax, ⟨tm3, dfs3, H3⟩)) = some (.ret (.bool pd.isNone), H3.set a2 (.loop ⟨stOf (bif pd.isNone then 0 else 2), pdOf pd, vs2, r2.ps, r2.asg, r2.body⟩)) := by
  unfold roundB
  dsimp only
  rw [hj]
  dsimp only
  rw [g4]
  dsimp only
  rw [hst2, hb2]
 rw [hrb, callA_ret]
 have hR4 := hR3.setObj (o := .loop ⟨stOf (bif pd.isNone then 0 else 2), pdOf pd, vs2, r2.ps, r2.asg, r2.body⟩) (sb := .rc j2 (bif pd.isNone then 0 else 2) pd cs2) g1 (by rw [g4]; rfl) ⟨r2, vs2, g3, set_get _ _ _, g5⟩
 have kp4 := kp_set hR3 g1 (.loop ⟨stOf (bif pd.isNone then 0 else 2), pdOf pd, vs2, r2.ps, r2.asg, r2.body⟩)
 exact hk (.c (.bool pd.isNone)) (.bool pd.isNone) _ E3 _ (hR4.slots (h.tm.mono (le1.trans le3) h.lw)) (le1.trans le3) (((kp1.trans kp2).trans kp3).trans kp4) (.inr ⟨rfl, rfl⟩) hD
theorem sCall_ok (hC : CC C cfg) (hF : CfgOK P cfg ext F) {rec : Rec} (hrec : RecOK P cfg ext F L rec) (h : SRel C E st tm H) {f : Operand} {args : Array Operand} {tys : Array TypeId} {k kp : SV → SS → FT} (hk : Nxt cfg.T F L C E st.va H tm dst dfs K G o k) (hkp : NxtP cfg.T F L C E st.va H tm dfs G o kp)
    (hD : dent cfg.T F L (sCall cfg rec st f args.toList k kp) E.ρ = some o) : G (contA (theCall P ext) dst K ⟨tm, dfs, H⟩ (opA P H (aev tm) (.call ⟨.value f, args, tys⟩) ty)) := by
 unfold sCall at hD
 split at hD
 case h_3 => simp [dent] at hD
 · rename_i b as hv has
   obtain ⟨a1, a2, a3⟩ := sv_ok h hv
   obtain ⟨b1, b2, b3⟩ := svs_ok h has
   obtain ⟨r, h1, h2, h3⟩ := sYield_ok hC hF hrec h (DnL_of_ok b3) hk hD
   have : args = args.toList.toArray := by simp
   rw [this, opA_call a1 b1, a2, b2, SV.den, callS_yield h1 h2, contA_enter]
   exact h3
 rename_i v as _ hv has
 obtain ⟨a1, a2, a3⟩ := sv_ok h hv
 obtain ⟨b1, b2, b3⟩ := svs_ok h has
 split at hD
 case h_2 => simp [dent] at hD
 rename_i g pre caps hfn
 split at hD
 case h_2 => simp [dent] at hD
 rename_i fn hg
 obtain ⟨c1, c0, c2⟩ := isFn_ok hfn a3
 have hop : opA P H (aev tm) (.call ⟨.value f, args, tys⟩) ty = some (.enter g (denL E (pre ++ as ++ caps)) H) := by
  refine fCall_ok (r := .enter g (denL E (pre ++ as ++ caps))) (T := cfg.T) hF.ent ?_
  unfold fCall
  have hkk : allOk (f :: args.toList) = true := by rw [allOk_eq, List.all_cons, a1, b1]; rfl
  rw [hkk, cond_true, a2, c1]
  dsimp only
  rw [hg]
  dsimp only
  rw [b2, denL_append, denL_append]
 rw [hop, contA_enter]
 have hdn : DnL E (pre ++ as ++ caps) (denL E (pre ++ as ++ caps)) := DnL_of_ok (okL_append (okL_append c0 b3) c2)
 split at hD
 · rename_i t ht
   exact tryCalls_ok hC hF h hdn hk hkp (fun p hp => hp) ht hD
 · cases hi : cfg.inl g with
   | false => rw [hi] at hD; simp [dent] at hD
   | true =>
    rw [hi, cond_true] at hD
    exact inlCall_ok hC hF hrec h hi hdn hk hkp hD
theorem xop_ok (hC : CC C cfg) (hF : CfgOK P cfg ext F) {rec : Rec} (hrec : RecOK P cfg ext F L rec) (h : SRel C E st tm H) {op : Op} {k kp : SV → SS → FT} (hk : Nxt cfg.T F L C E st.va H tm dst dfs K G o k) (hkp : NxtP cfg.T F L C E st.va H tm dfs G o kp)
    (hD : dent cfg.T F L (xop cfg rec st k kp op) E.ρ = some o) : G (contA (theCall P ext) dst K ⟨tm, dfs, H⟩ (opA P H (aev tm) op ty)) := by
 unfold xop at hD
 split at hD
 · exact sCall_ok hC hF hrec h hk hkp hD
 · exact sPanic_ok h hkp hD
 · exact xop0_ok hC hF.tab hF.eqT h hk hD
end
end X
end Go.Proofs.YtmjmpaceopipbaaGreat
namespace Go.Proofs.YtmjmpaceopipbaaGreat
namespace X
open Go B
section
variable {P : Program} {cfg : Cfg} {ext : CallT} {F : Nat → List D → Option (Nat × List D)} {L : Nat} {C : Cx} {E : SE} {st : SS} {tm : List Value} {H : AHeap} {ty : TypeId} {dst : Option Nat} {dfs : List ADef} {K : St → Option (AExit × St)} {G : Option (AExit × St) → Prop} {o : Out}
theorem sDefer_ok (hF : CfgOK P cfg ext F) (h : SRel C E st tm H) {op : Op} {df : DF} {k : DF → FT} (hd : DfR E df dfs) (hD : dent cfg.T F L (sDefer cfg st op df k) E.ρ = some o) :
    ∃ c df' d, op = .defer c ∧ op.operands.all operandOk = true ∧ deferOf P (aev tm) c = some d ∧ DfR E df' (d :: dfs) ∧ dent cfg.T F L (k df') E.ρ = some o := by
 unfold sDefer at hD
 split at hD
 case h_2 => simp [dent] at hD
 rename_i f args tys
 split at hD
 case h_2 => simp [dent] at hD
 rename_i v as hv has
 obtain ⟨a1, a2, a3⟩ := sv_ok h hv
 obtain ⟨b1, b2, b3⟩ := svs_ok h has
 split at hD
 case h_2 => simp [dent] at hD
 rename_i g pre caps hfn
 split at hD
 case h_2 => simp [dent] at hD
 rename_i fn hg
 obtain ⟨c1, c0, c2⟩ := isFn_ok hfn a3
 refine ⟨_, (g, pre ++ as ++ caps) :: df, ⟨g, denL E (pre ++ as ++ caps)⟩, rfl, ?_, ?_, ⟨rfl, rfl, okL_append (okL_append c0 b3) c2, hd⟩, hD⟩
 · have : (f :: args.toList).all operandOk = true := by rw [List.all_cons, a1, b1]; rfl
   simpa [Op.operands, Call.operands] using this
 · unfold deferOf
   dsimp only
   rw [a2, c1]
   dsimp only
   have he := hF.ent _ _ hg
   unfold enterB at he
   split at he
   · rename_i fn' hfn'
     rw [hfn']
     dsimp only
     rw [if_pos he, b2, denL_append, denL_append]
   · cases he
theorem xops_ok (hC : CC C cfg) (hF : CfgOK P cfg ext F) {rec : Rec} (hrec : RecOK P cfg ext F L rec) {rnd : Bool} {all : List Oper} : ∀ (l : List Oper) (st : SS) (E : SE) (tm : List Value) (H : AHeap) (df : DF) (dfs : List ADef) (k : SS → DF → FT) (kp : SV → SS → DF → FT) (G : Option (AExit × St) → Prop), (rnd = true → ∀ op, op ∈ l → isDefer op.op = false) → SRel C E st tm H → DfR E df dfs →
    (∀ st' E' tm' H' df' dfs', SRel C E' st' tm' H' → SE.le E E' → Kp E st.va H E' st'.va H' → DfR E' df' dfs' → dent cfg.T F L (k st' df') E'.ρ = some o → G (some (.normal, ⟨tm', dfs', H'⟩))) →
    (∀ v w st' E' tm' H' df' dfs', SRel C E' st' tm' H' → SE.le E E' → Kp E st.va H E' st'.va H' → Dn E' v w → DfR E' df' dfs' → dent cfg.T F L (kp v st' df') E'.ρ = some o → G (some (.panic w, ⟨tm', dfs', H'⟩))) →
    dent cfg.T F L (xops cfg rec all l st df k kp) E.ρ = some o → G (evalList P (theCall P ext) rnd all l ⟨tm, dfs, H⟩)
 | [], st, E, tm, H, df, dfs, k, kp, G, _, h, hd, hk, _, hD => hk st E tm H df dfs h (SE.le.refl E) (Kp.refl E st.va H) hd hD
 | op :: rest, st, E, tm, H, df, dfs, k, kp, G, hrn, h, hd, hk, hkp, hD => by
  have hrn' : rnd = true → ∀ op, op ∈ rest → isDefer op.op = false := fun e p hp => hrn e p (List.mem_cons_of_mem _ hp)
  unfold xops at hD
  unfold evalList
  dsimp only
  obtain ⟨st1, h1, hva1, hcase⟩ := sWant_ok h hD
  rw [← hva1] at hk hkp
  rcases hcase with ⟨hw, hD'⟩ | ⟨hw, hD'⟩
  · rw [if_pos hw]
    cases hdf : isDefer op.op with
    | true =>
     rw [hdf, cond_true] at hD'
     rw [if_pos rfl]
     obtain ⟨c, df', d, e1, e2, e3, e4, e5⟩ := sDefer_ok hF h1 hd hD'
     rw [e1] at e2 ⊢
     dsimp only
     have hrf : rnd = false := by
      cases rnd with
      | false => rfl
      | true => rw [hrn rfl op (List.mem_cons_self ..)] at hdf; cases hdf
     rw [if_pos ⟨hrf, e2⟩, e3]
     dsimp only
     exact xops_ok hC hF hrec rest _ E _ H df' _ k kp G hrn' (sput_rel h1 (v := .jk) (w := undef) (.inl rfl) op.dst) e4 (by rw [sput_va]; exact hk) (by rw [sput_va]; exact hkp) e5
    | false =>
     rw [hdf, cond_false] at hD'
     rw [if_neg (by simp)]
     refine xop_ok (dst := op.dst) (K := evalList P (theCall P ext) rnd all rest) (G := G) hC hF hrec h1 (k := fun v st' => xops cfg rec all rest (sput op.dst v st') df k kp) (kp := fun v st' => kp v st' df) ?_ ?_ hD'
     · intro v w st' E' H' hR hle hkk hdn hD''
       exact xops_ok hC hF hrec rest _ E' _ H' df dfs k kp G hrn' (sput_rel hR hdn op.dst) (hd.mono hle h.lw) (fun st2 E2 tm2 H2 df2 dfs2 a1 a2 a2' a3 a4 => hk st2 E2 tm2 H2 df2 dfs2 a1 (hle.trans a2) (hkk.trans (sput_va st' op.dst v ▸ a2')) a3 a4) (fun v2 w2 st2 E2 tm2 H2 df2 dfs2 a1 a2 a2' a3 a4 a5 => hkp v2 w2 st2 E2 tm2 H2 df2 dfs2 a1 (hle.trans a2) (hkk.trans (sput_va st' op.dst v ▸ a2')) a3 a4 a5) hD''
     · intro v w st' E' H' hR hle hkk hdn hD''
       exact hkp v w st' E' tm H' df dfs hR hle hkk hdn (hd.mono hle h.lw) hD''
  · rw [if_neg (by rw [hw]; simp)]
    exact xops_ok hC hF hrec rest _ E _ H df dfs k kp G hrn' (sput_rel h1 (v := .tup []) (w := undef) (.inr ⟨rfl, rfl⟩) op.dst) hd (by rw [sput_va]; exact hk) (by rw [sput_va]; exact hkp) hD'
end
end X
end Go.Proofs.YtmjmpaceopipbaaGreat
namespace Go.Proofs.YtmjmpaceopipbaaGreat
namespace X
open Go B
section
variable {P : Program} {cfg : Cfg} {ext : CallT} {F : Nat → List D → Option (Nat × List D)} {L : Nat} {C : Cx} {E : SE} {st : SS} {tm : List Value} {H : AHeap} {ty : TypeId} {dst : Option Nat} {dfs : List ADef} {K : St → Option (AExit × St)} {G : Option (AExit × St) → Prop} {o : Out}
theorem loadV_congr {H2 : AHeap} {t : TypeId} {a : Addr} (h : H2.get a.block = H.get a.block) : H2.loadV P t a = H.loadV P t a := by
 unfold AHeap.loadV
 split
 · split
   · rw [readN_congr h _ _ rfl]
   · rfl
 · show H2.cell a = H.cell a
   unfold AHeap.cell AHeap.view; rw [h]
 · rfl
def RdRel (P : Program) (E : SE) (va : List VA) (H : AHeap) (t : Tr) : Rd → Prop
 | .loc b oo cs => b < E.ω.length ∧ okL E.ρ.length E.ω.length cs = true ∧ ∀ H2 vs e, H2.get (E.ω.getD b 0) = some (.box vs e) → (vs.drop oo).take cs.length = denL E cs → same P t H2
 | .any => ∃ bo : Option Nat, (∀ b, bo = some b → b < H.next ∧ ¬ Priv E va b) ∧ ∀ H2, (∀ b, bo = some b → H2.get b = H.get b) → same P t H2
 | .obj b (.box cs e) => b < E.ω.length ∧ okL E.ρ.length E.ω.length cs = true ∧ ∀ H2, H2.get (E.ω.getD b 0) = some (.box (denL E cs) e) → same P t H2
 | .obj b (.arr cs e) => b < E.ω.length ∧ okL E.ρ.length E.ω.length cs = true ∧ ∀ H2, H2.get (E.ω.getD b 0) = some (.arr (denL E cs) (List.replicate (denL E cs).length 0) 0 e false) → same P t H2
 | .obj _ _ => True
 | .no => True
theorem RdRel.mono {E' : SE} {va va' : List VA} {H' : AHeap} {t : Tr} {r : Rd} (hle : SE.le E E') (hl : E.w.length = E.ρ.length) (hk : Kp E va H E' va' H') (h : RdRel P E va H t r) : RdRel P E' va' H' t r := by
 have hρ : E.ρ.length ≤ E'.ρ.length := by obtain ⟨⟨l, e⟩, _, _⟩ := hle; rw [e, List.length_append]; omega
 have hω : E.ω.length ≤ E'.ω.length := by obtain ⟨_, _, ⟨l, e⟩⟩ := hle; rw [e, List.length_append]; omega
 have hg : ∀ b, b < E.ω.length → E'.ω.getD b 0 = E.ω.getD b 0 := fun b hb => by obtain ⟨_, _, ⟨l, e⟩⟩ := hle; rw [e, getD_app hb]
 have hd : ∀ cs, okL E.ρ.length E.ω.length cs = true → denL E' cs = denL E cs := fun cs hc => denL_le hle (by omega) (Nat.le_refl _) hc
 cases r with
 | loc b oo cs =>
  obtain ⟨h1, h2, h3⟩ := h
  exact ⟨by omega, okL_mono hρ hω h2, fun H2 vs e a1 a2 => h3 H2 vs e (by rw [← hg b h1]; exact a1) (by rw [← hd cs h2]; exact a2)⟩
 | any =>
  obtain ⟨bo, h1, h2⟩ := h
  exact ⟨bo, fun b hb => ⟨Nat.lt_of_lt_of_le (h1 b hb).1 hk.nx, fun hp => (h1 b hb).2 (hk.pr b (h1 b hb).1 hp)⟩, fun H2 h3 => h2 H2 fun b hb => (h3 b hb).trans (hk.same b (h1 b hb).1 (h1 b hb).2)⟩
 | obj b sb =>
  cases sb with
  | box cs e =>
   obtain ⟨h1, h2, h3⟩ := h
   exact ⟨by omega, okL_mono hρ hω h2, fun H2 a1 => h3 H2 (by rw [← hg b h1, ← hd cs h2]; exact a1)⟩
  | arr cs e =>
   obtain ⟨h1, h2, h3⟩ := h
   exact ⟨by omega, okL_mono hρ hω h2, fun H2 a1 => h3 H2 (by rw [← hg b h1, ← hd cs h2]; exact a1)⟩
  | _ => trivial
 | no => trivial
theorem noJk_isJk {s : SV} (h : noJk s = true) : isJk s = false := by cases s <;> first | rfl | (simp [noJk] at h)
theorem any_isJk {n m : Nat} {l : List SV} (h : okL n m l = true) : l.any isJk = false := by
 rw [List.any_eq_false]
 intro s hs
 rw [okL_all, List.all_eq_true] at h
 rw [noJk_isJk (noJk_of_ok (h s hs))]; simp
theorem SB.beq_eq {a b : SB} (h : SB.beq a b = true) : a = b := by
 cases a <;> cases b <;> simp only [SB.beq, Bool.and_eq_true] at h <;> first | (cases h; done) | rw [beqL_eq h.1, Nat.eq_of_beq_eq_true h.2]
theorem chkR_ok (h : SRel C E st tm H) {t : Tr} {j : Nat} {r : Rd} (hr : RdRel P E st.va H t r) (hc : chkR st (j, r) = true) : same P t H := by
 cases r with
 | loc b oo cs =>
  unfold chkR at hc
  dsimp only at hc
  split at hc
  case h_2 => cases hc
  rename_i l e hsb
  obtain ⟨h1, h2, h3⟩ := hr
  obtain ⟨a, e1, e2, xs, e3, e4⟩ := h.objAt (getB_of hsb (by simp))
  have hb := beqL_eq hc
  obtain ⟨d1, d2⟩ := dnl_all ((e4.drop oo).take cs.length) (by rw [hb]; exact any_isJk h2)
  rw [hb] at d2
  exact h3 H xs e (by rw [e2]; exact e3) d2
 | any => obtain ⟨bo, h1, h2⟩ := hr; exact h2 H fun _ _ => rfl
 | obj b sb =>
  have he := SB.beq_eq hc
  cases sb with
  | box cs e =>
   obtain ⟨h1, h2, h3⟩ := hr
   obtain ⟨a, e1, e2, xs, e3, e4⟩ := h.objAt (getB_of he (by simp))
   obtain ⟨_, d2⟩ := dnl_all e4 (any_isJk h2)
   exact h3 H (by rw [e2, ← d2]; exact e3)
  | arr cs e =>
   obtain ⟨h1, h2, h3⟩ := hr
   obtain ⟨a, e1, e2, xs, e3, e4⟩ := h.objAt (getB_of he (by simp))
   obtain ⟨_, d2⟩ := dnl_all e4 (any_isJk h2)
   exact h3 H (by rw [e2, ← d2]; exact e3)
  | _ => cases hb : getB st.locs b <;> simp [chkR, SB.beq, hb] at hc
 | no => cases hc
def ResA (P : Program) (ext : CallT) (H : AHeap) (tm : List Value) (op : Op) (ty : TypeId) (w : Value) (H' : AHeap) : Prop :=
 opA P H (aev tm) op ty = some (.val w H') ∨ (opA P H (aev tm) op ty = some (.skip H') ∧ w = undef) ∨ ∃ f args H1, opA P H (aev tm) op ty = some (.enter f args H1) ∧ theCall P ext f args H1 = some (.ret w, H')
theorem set0_inj {l : List Value} (hl : l ≠ []) {a b : Value} (h : l.set 0 a = l.set 0 b) : a = b := by
 cases l with
 | nil => exact (hl rfl).elim
 | cons x l => simpa using h
theorem xop_res (hC : CC C cfg) (hF : CfgOK P cfg ext F) {rec : Rec} (hrec : RecOK P cfg ext F L rec) (h : SRel C E st tm H) (hne : tm ≠ []) {op : Op} {k : SV → SS → FT} {c : Nat} (hD : dent cfg.T F L (xop cfg rec st k (fun _ _ => .stop c) op) E.ρ = some o) :
    ∃ v w st' E' H', SRel C E' st' tm H' ∧ SE.le E E' ∧ Kp E st.va H E' st'.va H' ∧ Dn E' v w ∧ dent cfg.T F L (k v st') E'.ρ = some o ∧ ResA P ext H tm op ty w H' := by
 have := xop_ok (ty := ty) (dst := some 0) (dfs := []) (K := fun s => some (.normal, s)) (o := o) (k := k) (kp := fun _ _ => .stop c) (G := fun z => ∃ v w st' E' H', z = some (.normal, ⟨putT (some 0) w tm, [], H'⟩) ∧ SRel C E' st' tm H' ∧ SE.le E E' ∧ Kp E st.va H E' st'.va H' ∧ Dn E' v w ∧ dent cfg.T F L (k v st') E'.ρ = some o)
  hC hF hrec h (fun v w st' E' H' a1 a2 a3 a4 a5 => ⟨v, w, st', E', H', rfl, a1, a2, a3, a4, a5⟩) (fun v w st' E' H' a1 a2 a3 a4 a5 => by simp [dent] at a5) hD
 obtain ⟨v, w, st', E', H', hz, a1, a2, a3, a4, a5⟩ := this
 refine ⟨v, w, st', E', H', a1, a2, a3, a4, a5, ?_⟩
 unfold ResA
 cases hr : opA P H (aev tm) op ty with
 | none => rw [hr] at hz; cases hz
 | some r =>
  rw [hr] at hz
  cases r with
  | val v0 H0 =>
   rw [contA_val] at hz
   simp only [Option.some.injEq, Prod.mk.injEq, St.mk.injEq, true_and] at hz
   obtain ⟨h1, rfl⟩ := hz
   left
   rw [set0_inj hne h1]
  | skip H0 =>
   rw [contA_skip] at hz
   simp only [Option.some.injEq, Prod.mk.injEq, St.mk.injEq, true_and] at hz
   obtain ⟨h1, rfl⟩ := hz
   exact .inr (.inl ⟨rfl, (set0_inj hne h1).symm⟩)
  | enter f args H1 =>
   rw [contA_enter] at hz
   right; right
   refine ⟨f, args, H1, rfl, ?_⟩
   cases hc : theCall P ext f args H1 with
   | none => rw [hc] at hz; cases hz
   | some q =>
    rw [hc] at hz
    obtain ⟨e, H2⟩ := q
    cases e with
    | ret v0 =>
     have hz' : some (AExit.normal, (⟨putT (some 0) v0 tm, [], H2⟩ : St)) = some (.normal, ⟨putT (some 0) w tm, [], H'⟩) := hz
     simp only [Option.some.injEq, Prod.mk.injEq, St.mk.injEq, true_and] at hz'
     obtain ⟨h1, rfl⟩ := hz'
     rw [set0_inj hne h1]
    | panic v0 => cases hz
  | panic v0 H0 => rw [contA_panic] at hz; cases hz
  | defer d args H0 => cases hz
def PanA (P : Program) (ext : CallT) (H : AHeap) (tm : List Value) (op : Op) (ty : TypeId) (w : Value) (H' : AHeap) : Prop :=
 opA P H (aev tm) op ty = some (.panic w H') ∨ ∃ f args H1, opA P H (aev tm) op ty = some (.enter f args H1) ∧ theCall P ext f args H1 = some (.panic w, H')
theorem xop_resP (hC : CC C cfg) (hF : CfgOK P cfg ext F) {rec : Rec} (hrec : RecOK P cfg ext F L rec) (h : SRel C E st tm H) (hne : tm ≠ []) {op : Op} {k kp : SV → SS → FT} (hD : dent cfg.T F L (xop cfg rec st k kp op) E.ρ = some o) :
    (∃ v w st' E' H', SRel C E' st' tm H' ∧ SE.le E E' ∧ Kp E st.va H E' st'.va H' ∧ Dn E' v w ∧ dent cfg.T F L (k v st') E'.ρ = some o ∧ ResA P ext H tm op ty w H') ∨
    (∃ v w st' E' H', SRel C E' st' tm H' ∧ SE.le E E' ∧ Kp E st.va H E' st'.va H' ∧ Dn E' v w ∧ dent cfg.T F L (kp v st') E'.ρ = some o ∧ PanA P ext H tm op ty w H') := by
 have := xop_ok (ty := ty) (dst := some 0) (dfs := []) (K := fun s => some (.normal, s)) (o := o) (k := k) (kp := kp) (G := fun z => (∃ v w st' E' H', z = some (.normal, ⟨putT (some 0) w tm, [], H'⟩) ∧ SRel C E' st' tm H' ∧ SE.le E E' ∧ Kp E st.va H E' st'.va H' ∧ Dn E' v w ∧ dent cfg.T F L (k v st') E'.ρ = some o) ∨
     (∃ v w st' E' H', z = some (.panic w, ⟨tm, [], H'⟩) ∧ SRel C E' st' tm H' ∧ SE.le E E' ∧ Kp E st.va H E' st'.va H' ∧ Dn E' v w ∧ dent cfg.T F L (kp v st') E'.ρ = some o))
  hC hF hrec h (fun v w st' E' H' a1 a2 a3 a4 a5 => .inl ⟨v, w, st', E', H', rfl, a1, a2, a3, a4, a5⟩) (fun v w st' E' H' a1 a2 a3 a4 a5 => .inr ⟨v, w, st', E', H', rfl, a1, a2, a3, a4, a5⟩) hD
 rcases this with ⟨v, w, st', E', H', hz, a1, a2, a3, a4, a5⟩ | ⟨v, w, st', E', H', hz, a1, a2, a3, a4, a5⟩
 · left
   refine ⟨v, w, st', E', H', a1, a2, a3, a4, a5, ?_⟩
   unfold ResA
   cases hr : opA P H (aev tm) op ty with
   | none => rw [hr] at hz; cases hz
   | some r =>
    rw [hr] at hz
    cases r with
    | val v0 H0 =>
     rw [contA_val] at hz
     simp only [Option.some.injEq, Prod.mk.injEq, St.mk.injEq, true_and] at hz
     obtain ⟨h1, rfl⟩ := hz
     left
     rw [set0_inj hne h1]
    | skip H0 =>
     rw [contA_skip] at hz
     simp only [Option.some.injEq, Prod.mk.injEq, St.mk.injEq, true_and] at hz
     obtain ⟨h1, rfl⟩ := hz
     exact .inr (.inl ⟨rfl, (set0_inj hne h1).symm⟩)
    | enter f args H1 =>
     rw [contA_enter] at hz
     right; right
     refine ⟨f, args, H1, rfl, ?_⟩
     cases hc : theCall P ext f args H1 with
     | none => rw [hc] at hz; cases hz
     | some q =>
      rw [hc] at hz
      obtain ⟨e, H2⟩ := q
      cases e with
      | ret v0 =>
       have hz' : some (AExit.normal, (⟨putT (some 0) v0 tm, [], H2⟩ : St)) = some (.normal, ⟨putT (some 0) w tm, [], H'⟩) := hz
       simp only [Option.some.injEq, Prod.mk.injEq, St.mk.injEq, true_and] at hz'
       obtain ⟨h1, rfl⟩ := hz'
       rw [set0_inj hne h1]
      | panic v0 => cases hz
    | panic v0 H0 => rw [contA_panic] at hz; cases hz
    | defer d args H0 => cases hz
 · right
   refine ⟨v, w, st', E', H', a1, a2, a3, a4, a5, ?_⟩
   unfold PanA
   cases hr : opA P H (aev tm) op ty with
   | none => rw [hr] at hz; cases hz
   | some r =>
    rw [hr] at hz
    cases r with
    | val v0 H0 => rw [contA_val] at hz; cases hz
    | skip H0 => rw [contA_skip] at hz; cases hz
    | enter f args H1 =>
     rw [contA_enter] at hz
     right
     refine ⟨f, args, H1, rfl, ?_⟩
     cases hc : theCall P ext f args H1 with
     | none => rw [hc] at hz; cases hz
     | some q =>
      rw [hc] at hz
      obtain ⟨e, H2⟩ := q
      cases e with
      | ret v0 => cases hz
      | panic v0 =>
       have hz' : some (AExit.panic v0, (⟨tm, [], H2⟩ : St)) = some (.panic w, ⟨tm, [], H'⟩) := hz
       simp only [Option.some.injEq, Prod.mk.injEq, AExit.panic.injEq, St.mk.injEq, true_and] at hz'
       obtain ⟨h1, h2⟩ := hz'
       rw [h1, h2]
    | panic v0 H0 =>
     rw [contA_panic] at hz
     simp only [Option.some.injEq, Prod.mk.injEq, AExit.panic.injEq, St.mk.injEq, true_and] at hz
     obtain ⟨h1, h2⟩ := hz
     left; rw [h1, h2]
    | defer d args H0 => cases hz
theorem planW_pan {call : CallT} {l : List Oper} {B : List Nat} {R : List Tr} {j : Nat} {rest : List Nat} {op : Oper} {w : Value} {H' : AHeap} (ho : l[j]? = some op) (hw : wantedA l tm op = true) (hp : opA P H (aev tm) op.op op.type = some (.panic w H') ∨ ∃ f args H1, opA P H (aev tm) op.op op.type = some (.enter f args H1) ∧ call f args H1 = some (.panic w, H'))
    (hR : ∀ t ∈ R, same P t H) : PlanR P call l dfs B R (j :: rest) tm H (.panic w) ⟨[], dfs, H'⟩ := by
 refine ⟨[], H, ?_, trivial, fun t ht => hR t ht⟩
 unfold runPlan
 rw [ho]
 dsimp only
 rw [if_pos hw, evalAny_op]
 rcases hp with hp | ⟨f, args, H1, hp, hc⟩
 · rw [hp]
 · rw [hp]
   dsimp only
   rw [hc]
theorem el_there (hC : CC C cfg) (h : SRel C E st tm H) {t : TypeId} {x : Operand} {k : SV → SS → FT} (hD : dent cfg.T F L (sLoad cfg.T st t x k) E.ρ = some o) {a e sz oo : Nat} {ix : Ix} (hx : sv st x = some (.el a ix e sz oo)) (hs : isSh st.va a = true) :
    ∃ ad n c, E.w.getD a undef = .slice (some ad) n c ∧ ad.block < H.next ∧ ¬ Priv E st.va ad.block := by
 obtain ⟨fr, hva⟩ : ∃ fr, st.va[a]? = some (.sh fr) := by
  unfold isSh at hs
  split at hs
  · rename_i f hf; exact ⟨f, hf⟩
  · cases hs
 obtain ⟨d, h1, h2, h3⟩ := h.at_ hva
 unfold sLoad at hD
 rw [hx] at hD
 dsimp only at hD
 split at hD
 · rename_i hh _ _; cases hh
 · rename_i hh _ _; cases hh
 · rename_i hh _ _; cases hh
 · rename_i hh _ _
   cases hh
   split at hD
   case h_2 => simp [dent] at hD
   obtain ⟨_, hD⟩ := bif_dent hD
   rw [dent, Option.bind_eq_some_iff] at hD
   obtain ⟨ds, hds, _⟩ := hD
   rw [getD_of h1] at hds
   unfold ldD at hds
   split at hds
   case h_2 => cases hds
   rename_i e' l xx
   split at hds
   case h_2 => cases hds
   rename_i d0 hd0
   have h3' : R C.T H _ (.sl e' l xx) (E.w.getD a undef) := h3
   generalize E.w.getD a undef = w at h3'
   cases h3' with
   | nil => simp at hd0
   | sl hi hl hz hA hv hs hR he hn hc => exact ⟨_, _, _, rfl, elemOk_lt h.fm.fresh he, hA.1⟩
 · simp [dent] at hD
theorem lenOp_same {H2 : AHeap} {t : TypeId} {u : Value} (h : closedV u = true ∨ ∃ a n c, u = .slice a n c) : lenOp P H2 t u = lenOp P H t u := by
 rcases h with h | ⟨a, n, c, rfl⟩
 · cases u with
   | map m =>
    cases m with
    | none => rfl
    | some m => simp [closedV] at h
   | slice a n c => cases a <;> rfl
   | _ => rfl
 · cases a <;> rfl
theorem len_same {H2 : AHeap} {ρ : Operand → Value} {x : Operand} {t : TypeId} {w : Value} (hl : lenOp P H2 t (ρ x) = lenOp P H t (ρ x)) (h : opA P H ρ (.call ⟨.builtin .len, #[x], #[t]⟩) ty = some (.val w H)) :
    opA P H2 ρ (.call ⟨.builtin .len, #[x], #[t]⟩) ty = some (.val w H2) := by
 unfold opA evalAny at h ⊢
 cases hok : (Op.call ⟨.builtin .len, #[x], #[t]⟩).operands.all operandOk with
 | false => simp [hok] at h
 | true =>
  simp only [hok, if_true] at h ⊢
  unfold evalCall at h ⊢
  dsimp only at h ⊢
  rw [hl]
  cases h1 : lenOp P H t (ρ x) with
  | some n => rw [h1] at h; simp only [Option.some.injEq, ARes.val.injEq, and_true] at h ⊢; exact h
  | none =>
   rw [h1] at h
   dsimp only at h ⊢
   cases h2 : closedRun P ρ ⟨none, .call ⟨.builtin .len, #[x], #[t]⟩, ty, "", #[], none⟩ with
   | none => rw [h2] at h; cases h
   | some u => rw [h2] at h; simp only [Option.some.injEq, ARes.val.injEq, and_true] at h ⊢; exact h
theorem rdOf_ok (hC : CC C cfg) (hF : CfgOK P cfg ext F) (h : SRel C E st tm H) {E' : SE} {st' : SS} (hle : SE.le E E') (hkp : Kp E st.va H E' st'.va H) {op : Op} {v : SV} {w : Value} (hv : Dn E' v w) {t : Tr} (ht : t.o.op = op) (htm : t.tm = tm) (htv : t.v = w) (hk : okind op = .read) (hop : opA P H (aev tm) op t.o.type = some (.val w H))
    {rec : Rec} {k : SV → SS → FT} {kp : SV → SS → FT} (hD : dent cfg.T F L (xop cfg rec st k kp op) E.ρ = some o) : RdRel P E' st'.va H t (rdOf cfg.T st op v) := by
 unfold rdOf
 split
 case h_3 => trivial
 case h_2 =>
  rename_i args tys
  split
  case h_2 => trivial
  rename_i x ty hxs hts
  have hxa : args = #[x] := by cases args; simp_all
  have hta : tys = #[ty] := by cases tys; simp_all
  subst hxa; subst hta
  split
  case h_2 => trivial
  rename_i a hx
  cases hsh : isSh st.va a with
  | false => trivial
  | true =>
   rw [cond_true]
   obtain ⟨a1, a2, a3⟩ := sv_ok h hx
   unfold isSh at hsh
   split at hsh
   case h_2 => cases hsh
   rename_i fr hva
   obtain ⟨d, hd, _, h3⟩ := h.at_ hva
   have hcl : closedV (aev tm x) = true ∨ ∃ a n c, aev tm x = .slice a n c := by
    rw [a2, SV.den]
    have h3' : R C.T H _ d (E.w.getD a undef) := h3
    generalize E.w.getD a undef = u at h3'
    cases h3' with
    | v hc hf => exact .inl hc
    | nil => exact .inr ⟨_, _, _, rfl⟩
    | sl => exact .inr ⟨_, _, _, rfl⟩
   exact ⟨none, fun b hb => (nomatch hb), fun H2 _ => same_read (by rw [ht]; exact hk) (by rw [ht, htm, htv]; exact len_same (lenOp_same hcl) hop)⟩
 rename_i ty x
 have hsame : ∀ H2, (∀ a, aev tm x = .pointer (some a) → H2.loadV P ty a = H.loadV P ty a) → same P t H2 := by
  intro H2 h2
  refine same_read (by rw [ht]; exact hk) ?_
  rw [ht, htm, htv]
  cases hxo : operandOk x with
  | false =>
   rw [← evalAny_op (o := ⟨none, .load ty x, t.o.type, "", #[], none⟩)] at hop
   unfold evalAny evalOp at hop
   simp [Op.operands, hxo] at hop
  | true =>
   rw [opA_load hxo] at hop ⊢
   cases hp : aev tm x with
   | pointer a =>
    cases a with
    | none => rw [hp] at hop; cases hop
    | some a =>
     rw [hp] at hop
     rw [loadS_ptr] at hop ⊢
     rw [h2 a hp]
     unfold valA at hop ⊢
     cases hl : H.loadV P ty a with
     | none => rw [hl] at hop; cases hop
     | some u => rw [hl] at hop; simp only [Option.map_some, Option.some.injEq, ARes.val.injEq, and_true] at hop ⊢; exact hop
   | _ => rw [hp] at hop; cases hop
 have hldv : ∀ a, aev tm x = .pointer (some a) → H.loadV P ty a = some w := by
  intro a hp
  cases hxo : operandOk x with
  | false =>
   rw [← evalAny_op (o := ⟨none, .load ty x, t.o.type, "", #[], none⟩)] at hop
   unfold evalAny evalOp at hop
   simp [Op.operands, hxo] at hop
  | true =>
   rw [opA_load hxo, hp, loadS_ptr] at hop
   unfold valA at hop
   cases hl : H.loadV P ty a with
   | none => rw [hl] at hop; cases hop
   | some u => rw [hl] at hop; simp only [Option.map_some, Option.some.injEq, ARes.val.injEq, and_true] at hop; rw [hop]
 split
 · rename_i b oo l hx hg
   obtain ⟨a1, a2, a3⟩ := sv_ok h hx
   have hb : b < E.ω.length := by simpa [SV.ok] using a3
   have hbω : b < E'.ω.length := by obtain ⟨_, _, ⟨m, e⟩⟩ := hle; rw [e, List.length_append]; omega
   have hge : E'.ω.getD b 0 = E.ω.getD b 0 := by obtain ⟨_, _, ⟨m, e⟩⟩ := hle; rw [e, getD_app hb]
   obtain ⟨v1, v2⟩ := dn_nj hv rfl
   rw [SV.ok] at v1
   refine ⟨hbω, v1, fun H2 vs e a4 a5 => hsame H2 fun a ha => ?_⟩
   rw [a2, SV.den] at ha
   simp only [Value.pointer.injEq, Option.some.injEq] at ha
   subst ha
   have h0 := hldv _ (by rw [a2, SV.den])
   rw [h0]
   rw [hge] at a4
   have hT := hF.tab.agg hg
   unfold AHeap.loadV at h0 ⊢
   rw [hT] at h0 ⊢
   dsimp only at h0 ⊢
   cases hi : P.info? ty with
   | none => rw [hi] at h0; cases h0
   | some i =>
    rw [hi] at h0
    dsimp only at h0 ⊢
    cases hr : H.readN ⟨E.ω.getD b 0, oo, none⟩ i.size with
    | none => rw [hr] at h0; cases h0
    | some us =>
     rw [hr] at h0
     simp only [Option.some.injEq] at h0
     have hus : us = denL E' l := by
      rw [v2, SV.den] at h0
      have := congrArg (fun q => match q with | Value.agg a => a.toList | _ => []) h0
      simpa using this
     have hlen : l.length = i.size := by have := readN_length hr; rw [hus, denL_len] at this; exact this
     have hvl : oo + i.size ≤ vs.length ∨ i.size = 0 := by
      have := congrArg List.length a5
      rw [List.length_take, List.length_drop, denL_len] at this
      omega
     rcases hvl with hvl | hvl
     · rw [readN_box a4 _ _ hvl, ← hlen, a5, ← hus]
       exact congrArg some h0
     · rw [hvl] at hr ⊢
       simp only [AHeap.readN, Option.some.injEq] at hr ⊢
       rw [hr]
       exact h0
 · rename_i v _ _ _ b oo hx hg
   cases hj : isJk v with
   | true => trivial
   | false =>
    rw [cond_false]
    obtain ⟨a1, a2, a3⟩ := sv_ok h hx
    have hb : b < E.ω.length := by simpa [SV.ok] using a3
    have hbω : b < E'.ω.length := by obtain ⟨_, _, ⟨m, e⟩⟩ := hle; rw [e, List.length_append]; omega
    have hge : E'.ω.getD b 0 = E.ω.getD b 0 := by obtain ⟨_, _, ⟨m, e⟩⟩ := hle; rw [e, getD_app hb]
    obtain ⟨v1, v2⟩ := dn_nj hv hj
    refine ⟨hbω, by rw [okL, v1]; rfl, fun H2 vs e a4 a5 => hsame H2 fun a ha => ?_⟩
    rw [a2, SV.den] at ha
    simp only [Value.pointer.injEq, Option.some.injEq] at ha
    subst ha
    rw [hldv _ (by rw [a2, SV.den])]
    rw [hge] at a4
    rw [loadV_flat (hF.tab.agg hg), cell_eq, a4, cellO_box, v2]
    have : ((vs.drop oo).take 1)[0]? = some (v.den E') := by
     have e1 : (vs.drop oo).take 1 = denL E' [v] := a5
     rw [e1]; rfl
    rw [List.getElem?_take, if_pos (by omega), List.getElem?_drop] at this
    exact this
 · rename_i a ix e sz oo hx
   cases hs : isSh st.va a with
   | false => trivial
   | true =>
    rw [cond_true]
    obtain ⟨ad, n, c, e1, e2, e3⟩ := el_there hC h (show dent cfg.T F L (sLoad cfg.T st ty x k) E.ρ = some o from hD) hx hs
    obtain ⟨a1, a2, a3⟩ := sv_ok h hx
    refine ⟨some ad.block, fun b hb => ?_, fun H2 h2 => hsame H2 fun q hq => loadV_congr ?_⟩
    · cases hb
      exact ⟨e2, fun hp => e3 (hkp.pr _ e2 hp)⟩
    · rw [a2, SV.den, e1] at hq
      simp only [elAddr, Value.pointer.injEq, Option.some.injEq] at hq
      rw [← hq, addA_block]
      exact h2 _ rfl
 · trivial
theorem alOf_ok (h : SRel C E st tm H) {E' : SE} {st' : SS} {ob : AObj} {tm' : List Value} (hS : SRel C E' st' tm' (H.push ob)) (hle : SE.le E E') (hkp : Kp E st.va H E' st'.va (H.push ob)) {t : Tr} (hk : okind t.o.op = .alloc) (h1 : t.H = H) (h2 : t.H' = H.push ob) : RdRel P E' st'.va (H.push ob) t (alOf st st') := by
 have gen : ∀ sb, st'.locs[st.locs.length]? = some sb → ∃ a, st.locs.length < E'.ω.length ∧ E'.ω.getD st.locs.length 0 = a ∧ SBok C E' (H.push ob) a sb ∧ ∀ H2, H2.get a = (H.push ob).get a → same P t H2 := by
  intro sb hsb
  obtain ⟨a, e1, e2, e3⟩ := hS.objAt hsb
  have ha : a = H.next := by
   have hm := List.mem_of_getElem? e1
   have hub := (hS.pn a (.inl hm)).1
   have hub' : a < H.next + 1 := hub
   rcases hkp.om a hm with h3 | h3
   · exfalso
     obtain ⟨i, hi⟩ := List.mem_iff_getElem?.1 h3
     obtain ⟨_, _, ⟨l, e⟩⟩ := hle
     have hi' : E'.ω[i]? = some a := by rw [e, List.getElem?_append_left (get_lt hi)]; exact hi
     have := nodup_get hS.nd hi' e1
     have := get_lt hi
     rw [h.lo] at this
     omega
   · omega
  exact ⟨a, get_lt e1, e2, e3, fun H2 hg => same_alloc hk (by rw [h1, h2, ← ha]; exact hg)⟩
 unfold alOf
 split
 · rename_i cs e hsb
   cases hj : cs.any isJk with
   | true => trivial
   | false =>
    rw [cond_false]
    obtain ⟨a, g1, g2, ⟨xs, e4, e5⟩, g4⟩ := gen _ hsb
    obtain ⟨d1, d2⟩ := dnl_all e5 hj
    exact ⟨g1, d1, fun H2 hg => g4 H2 (by rw [g2] at hg; rw [hg, e4, d2])⟩
 · rename_i cs e hsb
   cases hj : cs.any isJk with
   | true => trivial
   | false =>
    rw [cond_false]
    obtain ⟨a, g1, g2, ⟨xs, e4, e5⟩, g4⟩ := gen _ hsb
    obtain ⟨d1, d2⟩ := dnl_all e5 hj
    exact ⟨g1, d1, fun H2 hg => g4 H2 (by rw [g2] at hg; rw [hg, e4, d2])⟩
 · trivial
theorem xplan_ok (hC : CC C cfg) (hF : CfgOK P cfg ext F) {rec : Rec} (hrec : RecOK P cfg ext F L rec) {all : List Oper} {B : List Nat} : ∀ (plan : List Nat) (R : List (Nat × Rd)) (Ra : List Tr) (st : SS) (E : SE) (tm : List Value) (H : AHeap) (k : SS → FT) (kp : SV → SS → FT) (G : Option (AExit × St) → Prop), SRel C E st tm H →
    (∀ t, t ∈ Ra → same P t H ∧ (okind t.o.op = .read ∨ (okind t.o.op = .alloc ∧ t.H.next < H.next)) ∧ ∃ r, r ∈ R ∧ r.1 = t.j ∧ RdRel P E st.va H t r.2) →
    (∀ st' E' tm' H', SRel C E' st' tm' H' → SE.le E E' → Kp E st.va H E' st'.va H' → dent cfg.T F L (k st') E'.ρ = some o → G (some (.normal, ⟨tm', dfs, H'⟩))) →
    (∀ v w st' E' H', SRel C E' st' [] H' → SE.le E E' → Kp E st.va H E' st'.va H' → Dn E' v w → dent cfg.T F L (kp v st') E'.ρ = some o → G (some (.panic w, ⟨[], dfs, H'⟩))) →
    dent cfg.T F L (xplan cfg rec all B R plan st k kp) E.ρ = some o → ∃ x s', PlanR P (theCall P ext) all dfs B Ra plan tm H x s' ∧ G (some (x, s'))
 | [], R, Ra, st, E, tm, H, k, kp, G, h, hR, hk, hkp, hD => ⟨.normal, ⟨tm, dfs, H⟩, planR_nil fun t ht => (hR t ht).1, hk st E tm H h (SE.le.refl E) (Kp.refl E st.va H) hD⟩
 | j :: rest, R, Ra, st, E, tm, H, k, kp, G, h, hR, hk, hkp, hD => by
  unfold xplan at hD
  split at hD
  · simp [dent] at hD
  rename_i op ho
  cases hem : st.slots.isEmpty with
  | true => rw [hem, cond_true] at hD; simp [dent] at hD
  | false =>
  rw [hem, cond_false] at hD
  have hne : tm ≠ [] := fun e => by
   have := h.tm.len
   rw [e] at this
   rw [List.length_eq_zero_iff.1 this] at hem
   cases hem
  obtain ⟨st1, h1, hva1, hcase⟩ := sWant_ok h hD
  clear hD
  rw [← hva1] at hk hR hkp
  have hinv : ∀ {E' : SE} {va' : List VA} {H' : AHeap} {t : Tr}, SE.le E E' → Kp E st1.va H E' va' H' → t ∈ Ra → ∃ r, r ∈ R ∧ r.1 = t.j ∧ RdRel P E' va' H' t r.2 := by
   intro E' va' H' t hle hkp ht
   obtain ⟨_, _, r, hr1, hr2, hr3⟩ := hR t ht
   exact ⟨r, hr1, hr2, hr3.mono hle h.lw hkp⟩
  rcases hcase with ⟨hw, hD⟩ | ⟨hw, hD⟩
  · cases hdf : isDefer op.op with
    | true => rw [hdf] at hD; simp [dent] at hD
    | false =>
     rw [hdf, cond_false] at hD
     have kk : ∀ {E1 : SE} {v1 : List VA} {H1 : AHeap}, SE.le E E1 → Kp E st1.va H E1 v1 H1 → ∀ st' E' tm' H', SRel C E' st' tm' H' → SE.le E1 E' → Kp E1 v1 H1 E' st'.va H' → dent cfg.T F L (k st') E'.ρ = some o → G (some (.normal, ⟨tm', dfs, H'⟩)) :=
      fun hle hkp st' E' tm' H' b1 b2 b3 b4 => hk st' E' tm' H' b1 (hle.trans b2) (hkp.trans b3) b4
     have kq : ∀ {E1 : SE} {v1 : List VA} {H1 : AHeap}, SE.le E E1 → Kp E st1.va H E1 v1 H1 → ∀ v w st' E' H', SRel C E' st' [] H' → SE.le E1 E' → Kp E1 v1 H1 E' st'.va H' → Dn E' v w → dent cfg.T F L (kp v st') E'.ρ = some o → G (some (.panic w, ⟨[], dfs, H'⟩)) :=
      fun hle hkk v w st' E' H' b1 b2 b3 b4 b5 => hkp v w st' E' H' b1 (hle.trans b2) (hkk.trans b3) b4 b5
     cases hok : okind op.op with
     | pure =>
      rw [hok] at hD
      obtain ⟨v, w, st', E', H', a1, a2, a3, a4, a5, a6⟩ := xop_res (ty := op.type) hC hF hrec h1 hne hD
      rcases a6 with a6 | ⟨a6, _⟩ | ⟨f, args, H1, a6, _⟩ <;> rw [← evalAny_op] at a6 <;> obtain ⟨v0, hv0, _⟩ := pure_any hok a6 <;> cases hv0
      rw [evalAny_op] at a6
      obtain ⟨xx, s', p1, p2⟩ := xplan_ok hC hF hrec rest R Ra _ E' _ H k kp G (sput_rel a1 a4 op.dst) (fun t ht => ⟨(hR t ht).1, (hR t ht).2.1, by rw [sput_va]; exact hinv a2 a3 ht⟩) (by rw [sput_va]; exact kk a2 a3) (by rw [sput_va]; exact kq a2 a3) a5
      exact ⟨xx, s', planW_pure ho hw hok a6 p1, p2⟩
     | read =>
      rw [hok] at hD
      have hD0 := hD
      obtain ⟨v, w, st', E', H', a1, a2, a3, a4, a5, a6⟩ := xop_res (ty := op.type) hC hF hrec h1 hne hD
      rcases a6 with a6 | ⟨a6, _⟩ | ⟨f, args, H1, a6, _⟩ <;> rw [← evalAny_op] at a6 <;> obtain ⟨v0, hv0⟩ := read_any hok a6 <;> cases hv0
      rw [evalAny_op] at a6
      obtain ⟨xx, s', p1, p2⟩ := xplan_ok hC hF hrec rest _ (⟨j, op, tm, H, w, H, true⟩ :: Ra) _ E' _ H k kp G (sput_rel a1 a4 op.dst) (fun t ht => by
       rw [sput_va]
       rcases List.mem_cons.1 ht with rfl | ht
       · exact ⟨same_read hok a6, .inl hok, _, List.mem_cons_self .., rfl, rdOf_ok hC hF h1 a2 a3 a4 rfl rfl rfl hok a6 hD0⟩
       · obtain ⟨r, r1, r2⟩ := hinv a2 a3 ht
         exact ⟨(hR t ht).1, (hR t ht).2.1, r, List.mem_cons_of_mem _ r1, r2⟩) (by rw [sput_va]; exact kk a2 a3) (by rw [sput_va]; exact kq a2 a3) a5
      exact ⟨xx, s', planW_keep ho hw (.inl hok) a6 p1, p2⟩
     | alloc =>
      rw [hok] at hD
      obtain ⟨v, w, st', E', H', a1, a2, a3, a4, a5, a6⟩ := xop_res (ty := op.type) hC hF hrec h1 hne hD
      rcases a6 with a6 | ⟨a6, _⟩ | ⟨f, args, H1, a6, _⟩
      · rw [← evalAny_op] at a6
        obtain ⟨obj, _, _, _, rfl⟩ := alloc_push hok a6
        rw [evalAny_op] at a6
        obtain ⟨xx, s', p1, p2⟩ := xplan_ok hC hF hrec rest _ (⟨j, op, tm, H, w, H.push obj, true⟩ :: Ra) _ E' _ (H.push obj) k kp G (sput_rel a1 a4 op.dst) (fun t ht => by
         rw [sput_va]
         rcases List.mem_cons.1 ht with rfl | ht
         · exact ⟨same_alloc hok rfl, .inr ⟨hok, Nat.lt_succ_self _⟩, _, List.mem_cons_self .., rfl, alOf_ok h1 a1 a2 a3 hok rfl rfl⟩
         · obtain ⟨r, r1, r2⟩ := hinv a2 a3 ht
           exact ⟨same_push (hR t ht).2.1 h.fm.fresh (hR t ht).1 obj, (hR t ht).2.1.imp id fun q => ⟨q.1, Nat.lt_succ_of_lt q.2⟩, r, List.mem_cons_of_mem _ r1, r2⟩) (by rw [sput_va]; exact kk a2 a3) (by rw [sput_va]; exact kq a2 a3) a5
        exact ⟨xx, s', planW_keep ho hw (.inr hok) a6 p1, p2⟩
      · rw [← evalAny_op] at a6; exact (alloc_not_skip hok a6).elim
      · rw [← evalAny_op] at a6; exact (alloc_not_enter hok a6).elim
     | effect =>
      rw [hok] at hD
      rcases xop_resP (ty := op.type) hC hF hrec h1 hne hD with ⟨v, w, st', E', H', a1, a2, a3, a4, a5, a6⟩ | ⟨v, w, st', E', H', a1, a2, a3, a4, a5, a6⟩
      case inr =>
       obtain ⟨hch, a5⟩ := bif_dent a5
       exact ⟨.panic w, ⟨[], dfs, H'⟩, planW_pan ho hw a6 (fun t ht => (hR t ht).1), hkp v w ⟨[], st'.locs, st'.va⟩ E' H' (a1.slots (ss := []) (vs := []) ⟨rfl, fun i s v h1 h2 => by simp at h1⟩) a2 a3 a4 a5⟩
      obtain ⟨hch, a5⟩ := bif_dent a5
      rw [List.all_eq_true] at hch
      obtain ⟨xx, s', p1, p2⟩ := xplan_ok hC hF hrec rest _ (Ra.filter fun t => !(bit B j t.j)) _ E' _ H' k kp G (sput_rel a1 a4 op.dst) (fun t ht => by
       rw [sput_va]
       obtain ⟨ht1, ht2⟩ := List.mem_filter.1 ht
       obtain ⟨r, r1, r2, r3⟩ := hinv a2 a3 ht1
       have hmem : r ∈ R.filter fun r => !(bit B j r.1) := List.mem_filter.2 ⟨r1, by rw [r2]; exact ht2⟩
       exact ⟨chkR_ok a1 r3 (by have := hch r hmem; rw [show ((r.1, r.2) : Nat × Rd) = r from rfl]; exact this), (hR t ht1).2.1.imp id fun q => ⟨q.1, Nat.lt_of_lt_of_le q.2 a3.nx⟩, r, hmem, r2, r3⟩) (by rw [sput_va]; exact kk a2 a3) (by rw [sput_va]; exact kq a2 a3) a5
      have hRR : ∀ t, t ∈ Ra → same P t H ∧ (bit B j t.j = true ∨ t ∈ Ra.filter fun t => !(bit B j t.j)) := fun t ht => ⟨(hR t ht).1, by
       cases hb : bit B j t.j with
       | true => exact .inl rfl
       | false => exact .inr (List.mem_filter.2 ⟨ht, by rw [hb]; rfl⟩)⟩
      rcases a6 with a6 | ⟨a6, rfl⟩ | ⟨f, args, H1, a6, a7⟩
      · exact ⟨xx, s', planW_eff ho hw hok a6 hRR p1, p2⟩
      · exact ⟨xx, s', planW_skip ho hw hok a6 hRR p1, p2⟩
      · exact ⟨xx, s', planW_call ho hw hok a6 a7 hRR p1, p2⟩
  · cases he : isEff op with
    | true =>
     rw [he, cond_true] at hD
     have hRR : ∀ t, t ∈ Ra → same P t H ∧ (bit B j t.j = true ∨ t ∈ Ra.filter fun t => !(bit B j t.j)) := fun t ht => ⟨(hR t ht).1, by
      cases hb : bit B j t.j with
      | true => exact .inl rfl
      | false => exact .inr (List.mem_filter.2 ⟨ht, by rw [hb]; rfl⟩)⟩
     obtain ⟨xx, s', p1, p2⟩ := xplan_ok hC hF hrec rest _ (Ra.filter fun t => !(bit B j t.j)) _ E _ H k kp G (sput_rel h1 (v := .tup []) (w := undef) (.inr ⟨rfl, rfl⟩) op.dst) (fun t ht => by
      rw [sput_va]
      obtain ⟨ht1, ht2⟩ := List.mem_filter.1 ht
      obtain ⟨r, r1, r2, r3⟩ := hinv (SE.le.refl E) (Kp.refl E st1.va H) ht1
      exact ⟨(hR t ht1).1, (hR t ht1).2.1, r, List.mem_filter.2 ⟨r1, by rw [r2]; exact ht2⟩, r2, r3⟩) (by rw [sput_va]; exact hk) (by rw [sput_va]; exact hkp) hD
     exact ⟨xx, s', planW_notE ho hw he hRR p1, p2⟩
    | false =>
     rw [he, cond_false] at hD
     obtain ⟨xx, s', p1, p2⟩ := xplan_ok hC hF hrec rest R Ra _ E _ H k kp G (sput_rel h1 (v := .tup []) (w := undef) (.inr ⟨rfl, rfl⟩) op.dst) (fun t ht => by rw [sput_va]; exact hR t ht) (by rw [sput_va]; exact hk) (by rw [sput_va]; exact hkp) hD
     exact ⟨xx, s', planW_not ho hw he p1, p2⟩
end
end X
end Go.Proofs.YtmjmpaceopipbaaGreat
namespace Go.Proofs.YtmjmpaceopipbaaGreat
namespace X
open Go B
section
variable {P : Program} {cfg : Cfg} {ext : CallT} {F : Nat → List D → Option (Nat × List D)} {L : Nat} {C : Cx} {E : SE} {st : SS} {tm : List Value} {H : AHeap} {ty : TypeId} {dst : Option Nat} {dfs : List ADef} {K : St → Option (AExit × St)} {G : Option (AExit × St) → Prop} {o : Out}
theorem newX_dD (E0 E' : SE) (hle : SE.le E0 E') (hl : E0.w.length = E0.ρ.length) : (newX 0 E0.ρ.length).map (SV.dD E') = E0.ρ ∧ (newX 0 E0.ρ.length).map (SV.den E') = E0.w ∧ (List.range E0.ω.length).map (fun b => E'.ω.getD b 0) = E0.ω := by
 obtain ⟨⟨a, ha⟩, ⟨b, hb⟩, ⟨c, hc⟩⟩ := hle
 have gen : ∀ {α : Type} (l m : List α) (d : α), (List.range l.length).map (fun i => (l ++ m).getD i d) = l := by
  intro α l m d
  apply List.ext_getElem?
  intro i
  rw [List.getElem?_map]
  by_cases hi : i < l.length
  · rw [List.getElem?_range hi]
    simp only [Option.map_some]
    rw [getD_app hi, List.getD_eq_getElem?_getD, List.getElem?_eq_getElem hi]; rfl
  · rw [List.getElem?_eq_none (by simpa using hi), List.getElem?_eq_none (by omega)]; rfl
 unfold newX
 rw [List.map_map, List.map_map]
 refine ⟨?_, ?_, ?_⟩
 · have := gen E0.ρ a (.ag [])
   rw [← ha] at this
   refine Eq.trans (List.map_congr_left fun i _ => ?_) this
   show E'.ρ.getD (0 + i) (.ag []) = _
   rw [Nat.zero_add]
 · have := gen E0.w b undef
   rw [← hb, hl] at this
   refine Eq.trans (List.map_congr_left fun i _ => ?_) this
   show E'.w.getD (0 + i) undef = _
   rw [Nat.zero_add]
 · rw [hc]; exact gen E0.ω c 0
theorem renPre {E0 E' : SE} (hle : SE.le E0 E') (hl : E0.w.length = E0.ρ.length) (vals : List SV) : E'.ren (newX 0 E0.ρ.length ++ vals) (List.range E0.ω.length) = ⟨E0.ρ ++ vals.map (SV.dD E'), E0.w ++ vals.map (SV.den E'), E0.ω⟩ := by
 obtain ⟨h1, h2, h3⟩ := newX_dD E0 E' hle hl
 unfold SE.ren
 rw [List.map_append, List.map_append, h1, h2, h3]
theorem toHead_ok {E0 : SE} (h : SRel C E st tm H) (hle : SE.le E0 E) (hl : E0.w.length = E0.ρ.length) {n m : Nat} {g : SS} {vals : List SV} (hn : n = E0.ρ.length) (hm : m = E0.ω.length) (ht : toHead n m g st = some vals) : SRel C ⟨E0.ρ ++ vals.map (dv E.ρ), E0.w ++ vals.map (SV.den E), E0.ω⟩ g tm H := by
 unfold toHead at ht
 dsimp only at ht
 obtain ⟨hb, ht⟩ := bif_some' ht
 simp only [Option.some.injEq] at ht
 rw [ht] at hb
 have := h.ren hb
 rw [hn, hm, renPre hle hl] at this
 rw [dD_map]
 exact this
theorem toHead_pr {E0 : SE} (h : SRel C E st tm H) (hle : SE.le E0 E) (hl : E0.w.length = E0.ρ.length) {n m : Nat} {g : SS} {vals : List SV} (hn : n = E0.ρ.length) (hm : m = E0.ω.length) (ht : toHead n m g st = some vals) : Kp E st.va H ⟨E0.ρ ++ vals.map (dv E.ρ), E0.w ++ vals.map (SV.den E), E0.ω⟩ g.va H := by
 unfold toHead at ht
 dsimp only at ht
 obtain ⟨hb, ht⟩ := bif_some' ht
 simp only [Option.some.injEq] at ht
 rw [ht] at hb
 have := h.renPr hb
 rw [hn, hm, renPre hle hl, ← dD_map] at this
 exact ⟨Nat.le_refl _, fun _ _ _ => rfl, fun b _ hp => this b hp, fun b hb => by
  obtain ⟨_, _, ⟨l, hl⟩⟩ := hle
  rw [hl]; exact .inl (List.mem_append_left _ hb)⟩
theorem loop_ok {va0 : List VA} {Hs : AHeap} {a : Code} {E0 : SE} (hl0 : E0.w.length = E0.ρ.length) {rec : Rec} (hrec : RecOK P cfg ext F L rec) (hC : CC C cfg) {g : SS} {n m : Nat} (hn : n = E0.ρ.length) (hm : m = E0.ω.length) {df : DF} (hd : DfR E0 df dfs) {k : XE → SS → DF → FT}
    (hk : ∀ x ax st' E' tm' H' df' dfs', SRel C E' st' tm' H' → SE.le E0 E' → Kp E0 va0 Hs E' st'.va H' → XRel E' x ax → DfR E' df' dfs' → dent cfg.T F L (k x st' df') E'.ρ = some o → G (some (ax, ⟨tm', dfs', H'⟩))) :
    ∀ (N : Nat) (v : List D) (w : List Value) (tm : List Value) (H : AHeap), SRel C ⟨E0.ρ ++ v, E0.w ++ w, E0.ω⟩ g tm H → Kp E0 va0 Hs ⟨E0.ρ ++ v, E0.w ++ w, E0.ω⟩ g.va H →
     iter (fun v => dent cfg.T F L (rec 0 a g df fun x st' df' => match x with
         | .normal => bif beqDf df df' then match toHead n m g st' with
          | some vals' => .again vals'
          | none => .stop 59
          else .stop 59
         | x => .out (k x st' df')) (E0.ρ ++ v)) N v = some o → G (theCode P ext false (.loop a) ⟨tm, dfs, H⟩)
 | 0, v, w, tm, H, _, _, hi => by simp [iter] at hi
 | N + 1, v, w, tm, H, h, hkp, hi => by
  have hleh : SE.le E0 ⟨E0.ρ ++ v, E0.w ++ w, E0.ω⟩ := ⟨⟨v, rfl⟩, ⟨w, rfl⟩, ⟨[], by simp⟩⟩
  unfold iter at hi
  cases hb : dent cfg.T F L (rec 0 a g df fun x st' df' => match x with
        | .normal => bif beqDf df df' then match toHead n m g st' with
         | some vals' => .again vals'
         | none => .stop 59
         else .stop 59
        | x => .out (k x st' df')) (E0.ρ ++ v) with
  | none => simp only [hb] at hi; cases hi
  | some ob =>
   simp only [hb] at hi
   rw [theCode_loop]
   refine hrec C 0 a g ⟨E0.ρ ++ v, E0.w ++ w, E0.ω⟩ tm H df dfs ob (fun z => G (thenA z fun s1 => theCode P ext false (.loop a) s1)) _ hC h (hd.mono hleh hl0) ?_ hb
   intro x ax st' E' tm' H' df' dfs' hR hle hkk hx hd' hD
   have hout : dent cfg.T F L (.out (k x st' df')) E'.ρ = some ob → G (some (ax, ⟨tm', dfs', H'⟩)) := by
    intro hD
    rw [dent] at hD
    obtain ⟨o', ho', rfl⟩ := Option.map_eq_some_iff.1 hD
    simp only [Option.some.injEq] at hi
    subst hi
    exact hk x ax st' E' tm' H' df' dfs' hR (hleh.trans hle) (hkp.trans hkk) hx hd' ho'
   cases hx with
   | normal =>
    dsimp only at hD
    obtain ⟨hbd, hD1⟩ := bif_dent hD
    obtain rfl := beqDf_eq hbd
    obtain rfl := (hd.mono (hleh.trans hle) hl0).det hd'
    split at hD1
    case h_2 => simp [dent] at hD1
    rename_i vals' hv'
    rw [dent, Option.some.injEq] at hD1
    subst hD1
    dsimp only at hi
    rw [thenA_normal]
    exact loop_ok hl0 hrec hC hn hm hd hk N (vals'.map (dv E'.ρ)) (vals'.map (SV.den E')) tm' H' (toHead_ok hR (hleh.trans hle) hl0 hn hm hv') ((hkp.trans hkk).trans (toHead_pr hR (hleh.trans hle) hl0 hn hm hv')) hi
   | exit => rw [thenA_exit]; exact hout hD
   | ret => rw [thenA_ret]; exact hout hD
   | panic hd => rw [thenA_panic]; exact hout hD
def Cx.withK (C : Cx) (K : List RC) : Cx := ⟨C.T, K, C.H0, C.P0, C.Z, C.Q, C.hZ, C.hQ⟩
theorem VarOK.withK {K : List RC} {Pr : Nat → Prop} : ∀ {a : VA} {d : D} {v : Value}, VarOK (C.withK K) H Pr a d v = VarOK C H Pr a d v
 | .dd, _, _ => rfl
 | .sc, _, _ => rfl
 | .sh _, _, _ => rfl
 | .ow _, _, _ => rfl
theorem SRel.withK (h : SRel C E st tm H) {K : List RC} (hK : ∀ (j : Nat) (r : RC), C.K[j]? = some r → K[j]? = some r) : SRel (C.withK K) E st tm H where
 lw := h.lw
 la := h.la
 lo := h.lo
 var := fun i a d v h1 h2 h3 => by rw [VarOK.withK]; exact h.var i a d v h1 h2 h3
 loc := fun b sb a h1 h2 => by
  have := h.loc b sb a h1 h2
  cases sb with
  | rc j s pd cs => obtain ⟨r, vs, a1, a2, a3⟩ := this; exact ⟨r, vs, hK _ _ a1, a2, a3⟩
  | _ => exact this
 tm := h.tm
 nd := h.nd
 own := h.own
 own2 := h.own2
 fm := h.fm
 pn := h.pn
theorem SRel.dropK {K : List RC} (h : SRel (C.withK K) E st tm H) {n : Nat} (hl : st.locs.all (rcLt n) = true) (hK : ∀ (j : Nat) (r : RC), j < n → K[j]? = some r → C.K[j]? = some r) : SRel C E st tm H where
 lw := h.lw
 la := h.la
 lo := h.lo
 var := fun i a d v h1 h2 h3 => by rw [← VarOK.withK (K := K)]; exact h.var i a d v h1 h2 h3
 loc := fun b sb a h1 h2 => by
  have := h.loc b sb a h1 h2
  rw [List.all_eq_true] at hl
  have hb := hl sb (List.mem_of_getElem? h1)
  cases sb with
  | rc j s pd cs => obtain ⟨r, vs, a1, a2, a3⟩ := this; exact ⟨r, vs, hK _ _ (by simpa [rcLt] using hb) a1, a2, a3⟩
  | _ => exact this
 tm := h.tm
 nd := h.nd
 own := h.own
 own2 := h.own2
 fm := h.fm
 pn := h.pn
theorem CfgOK.withK (hF : CfgOK P cfg ext F) (K : List RC) : CfgOK P { cfg with K := K } ext F := ⟨hF.tab, hF.ent, hF.spec, hF.inl, hF.eqT, hF.rnd⟩
theorem exitX_ok {pd : Option (Option Nat)} : ∃ ax, exitOf (pdOf pd) = some ax ∧ XRel E (exitX pd) ax := by
 cases pd with
 | none => exact ⟨.normal, rfl, .normal⟩
 | some q => cases q with
  | none => exact ⟨.ret, rfl, .ret⟩
  | some i => exact ⟨.exit i, rfl, .exit⟩
theorem xrange_ok (hF : CfgOK P cfg ext F) {rec2 : Cfg → Rec} (hrec2 : ∀ K, RecOK P { cfg with K := K } ext F L (rec2 { cfg with K := K })) (hC : CC C cfg) (h : SRel C E st tm H) {df : DF} (hd : DfR E df dfs) {g : Operand} {ps : Array Tmp} {asg body : Code} {k : XE → SS → DF → FT}
    (hk : ∀ x ax st' E' tm' H' df' dfs', SRel C E' st' tm' H' → SE.le E E' → Kp E st.va H E' st'.va H' → XRel E' x ax → DfR E' df' dfs' → dent cfg.T F L (k x st' df') E'.ρ = some o → G (some (ax, ⟨tm', dfs', H'⟩)))
    (hD : dent cfg.T F L (xrange cfg rec2 g ps asg body st df k) E.ρ = some o) : G (theCode P ext false (.rangeFunc g ps asg body) ⟨tm, dfs, H⟩) := by
 unfold xrange at hD
 split at hD
 case h_2 => simp [dent] at hD
 rename_i v hv
 split at hD
 case h_2 => simp [dent] at hD
 rename_i f pre caps hfn
 split at hD
 case h_2 => simp [dent] at hD
 rename_i fn hf
 split at hD
 case h_2 => simp [dent] at hD
 rename_i c hc
 obtain ⟨hb, hD1⟩ := bif_dent hD
 clear hD
 rw [Bool.and_eq_true] at hb
 obtain ⟨a1, a2, a3⟩ := sv_ok h hv
 obtain ⟨c1, c0, c2⟩ := isFn_ok hfn a3
 have hen := hF.ent _ _ hf
 have hrc : rangeCallA P ⟨tm, dfs, H⟩ g ps asg body = some (f, denL E pre ++ [.func (.yield H.next) #[] #[]] ++ denL E caps, H.push (.loop ⟨.ready, none, tm, ps, asg, body⟩)) := by
  unfold rangeCallA
  rw [if_pos a1]
  dsimp only
  rw [a2, c1]
  dsimp only
  unfold enterB at hen
  split at hen
  · rename_i fn' hfn'
    rw [hfn']
    dsimp only
    rw [if_pos hen]
  · cases hen
 rw [theCode_range, hrc]
 dsimp only
 rw [theCall_body (hF.inl f hb.1 _ _) (hF.tab.func _ _ hf) hc]
 have hsb : SBok (C.withK (cfg.K ++ [⟨ps, asg, body⟩])) ⟨E.ρ, E.w, E.ω ++ [H.next]⟩ (H.push (.loop ⟨.ready, none, tm, ps, asg, body⟩)) H.next (.rc cfg.K.length 0 none st.slots) :=
  ⟨⟨ps, asg, body⟩, tm, by show (cfg.K ++ [_])[cfg.K.length]? = _; simp, AHeap.push_get_new _ _, h.tm.mono ⟨⟨[], by simp⟩, ⟨[], by simp⟩, ⟨_, rfl⟩⟩ h.lw⟩
 have h1 := (h.withK (K := cfg.K ++ [⟨ps, asg, body⟩]) (fun j r hj => by rw [hC.K] at hj; rw [List.getElem?_append_left (get_lt hj)]; exact hj)).push hsb
 have hle1 : SE.le E ⟨E.ρ, E.w, E.ω ++ [H.next]⟩ := ⟨⟨[], by simp⟩, ⟨[], by simp⟩, ⟨_, rfl⟩⟩
 have hkp1 : Kp E st.va H ⟨E.ρ, E.w, E.ω ++ [H.next]⟩ st.va (H.push (.loop ⟨.ready, none, tm, ps, asg, body⟩)) := ⟨Nat.le_succ _, fun b hb _ => AHeap.push_get_old _ _ (Nat.ne_of_lt hb), fun b hb hp => by
  rcases hp with hp | hp
  · rcases List.mem_append.1 hp with hp | hp
    · exact .inl hp
    · rw [List.mem_singleton] at hp; omega
  · exact .inr hp, fun b hb => (List.mem_append.1 hb).imp id fun e => by rw [List.mem_singleton] at e; rw [e]; exact Nat.le_refl _⟩
 have hωn : (E.ω ++ [H.next]).getD st.locs.length 0 = H.next := by
  rw [← h.lo, List.getD_eq_getElem?_getD, List.getElem?_append_right (Nat.le_refl _), Nat.sub_self]; rfl
 have hdn : DnL ⟨E.ρ, E.w, E.ω ++ [H.next]⟩ (pre ++ .yl st.locs.length :: caps) (denL E pre ++ [.func (.yield H.next) #[] #[]] ++ denL E caps) := by
  have hok : okL E.ρ.length (E.ω ++ [H.next]).length (pre ++ .yl st.locs.length :: caps) = true := by
   refine okL_append (okL_mono (Nat.le_refl _) (by simp) c0) ?_
   rw [okL, SV.ok, okL_mono (Nat.le_refl _) (by simp) c2, List.length_append, h.lo]; simp [Nat.blt]
  have := DnL_of_ok (E := ⟨E.ρ, E.w, E.ω ++ [H.next]⟩) hok
  rw [denL_append, denL, SV.den, denL_le hle1 (by rw [h.lw]; exact Nat.le_refl _) (Nat.le_refl _) c2, denL_le hle1 (by rw [h.lw]; exact Nat.le_refl _) (Nat.le_refl _) c0] at this
  have e : (SE.mk E.ρ E.w (E.ω ++ [H.next])).ω.getD st.locs.length 0 = H.next := hωn
  rw [e] at this
  rw [List.append_assoc]; exact this
 have hCC : CC (C.withK (cfg.K ++ [⟨ps, asg, body⟩])) { cfg with K := cfg.K ++ [⟨ps, asg, body⟩] } := ⟨hC.T, rfl⟩
 have hent := enter_slots fn.ntmps h1 hdn
 refine hrec2 (cfg.K ++ [⟨ps, asg, body⟩]) (C.withK (cfg.K ++ [⟨ps, asg, body⟩])) (cfg.unr f) c _ ⟨E.ρ, E.w, E.ω ++ [H.next]⟩ _ _ [] [] o (fun z => G (rangeEnd H.next ⟨tm, dfs, H⟩ (leaveR P (theCode P ext false) fn.results.toList z))) _ hCC hent trivial ?_ hD1
 intro x ax st' E' tm' H' df' dfs' hR hle' hkp' hx hd' hD
 refine xend1_ok (R := fun z => G (rangeEnd H.next ⟨tm, dfs, H⟩ z)) hCC (hF.withK _) (hrec2 _) hR hx hd' ?_ ?_ hD
 · intro v st2 E2 H2 b1 b2 b3 b4 hD
   split at hD
   case h_2 => simp [dent] at hD
   rename_i j s pd cs hsb2
   cases hs1 : Nat.beq s 1 with
   | true => rw [hs1] at hD; simp [dent] at hD
   | false =>
   rw [hs1, cond_false] at hD
   obtain ⟨hlt, hD2⟩ := bif_dent hD
   obtain ⟨a, e1, e2, r, vs, e3, e4, e5⟩ := b1.objAt (getB_of hsb2 (by simp))
   have hle2 := hle'.trans b2
   have ha : a = H.next := by
    obtain ⟨_, _, ⟨l, hl⟩⟩ := hle2
    have e1' : ((E.ω ++ [H.next]) ++ l)[st.locs.length]? = some a := by
     have : E2.ω = (E.ω ++ [H.next]) ++ l := hl
     rw [← this]; exact e1
    rw [List.getElem?_append_left (by simp [h.lo]), List.getElem?_append_right (by rw [h.lo]; exact Nat.le_refl _), h.lo, Nat.sub_self] at e1'
    simpa using e1'.symm
   subst ha
   obtain ⟨ax2, hx1, hx2⟩ := exitX_ok (E := E2) (pd := pd)
   have hnb : stOf s ≠ .busy := by
    intro hb
    match s, hs1, hb with
    | 0, _, hb => cases hb
    | 1, hs1, _ => cases hs1
    | _ + 2, _, hb => cases hb
   have hre : rangeEnd H.next ⟨tm, dfs, H⟩ (some (.ret (v.den E2), H2)) = some (ax2, ⟨tm, dfs, H2.set H.next (.loop ⟨.exhausted, pdOf pd, vs, r.ps, r.asg, r.body⟩)⟩) := by
    unfold rangeEnd
    dsimp only
    rw [e4]
    dsimp only
    rw [if_neg hnb, hx1]
   rw [hre]
   have h2 := b1.setObj (o := .loop ⟨.exhausted, pdOf pd, vs, r.ps, r.asg, r.body⟩) (sb := .dead) e1 (by rw [e4]; rfl) trivial
   have hkp2 := kp_set b1 e1 (.loop ⟨.exhausted, pdOf pd, vs, r.ps, r.asg, r.body⟩)
   have h3 := h2.dropK (n := cfg.K.length) hlt (fun j r hj hh => by rw [hC.K]; rw [List.getElem?_append_left hj] at hh; exact hh)
   exact hk (exitX pd) ax2 _ E2 tm _ df dfs (h3.slots (h.tm.mono (hle1.trans hle2) h.lw)) (hle1.trans hle2) (((hkp1.trans hkp').trans b3).trans hkp2) hx2 (hd.mono (hle1.trans hle2) h.lw) hD2
 · intro v w st2 E2 H2 b1 b2 b3 b4 hD
   simp [dent] at hD
theorem xstep1_ok (hF : CfgOK P cfg ext F) {rec : Rec} (hrec : RecOK P cfg ext F L rec) {rec2 : Cfg → Rec} (hrec2 : ∀ K, RecOK P { cfg with K := K } ext F L (rec2 { cfg with K := K })) : RecOK P cfg ext F L (xstep1 cfg rec rec2) := by
 intro C u c st E tm H df dfs o G k hC h hd hk hD
 have rgn : ∀ (l : List Oper), dent cfg.T F L (xops cfg rec l l st df (k .normal) fun v st df => k (.panic v) st df) E.ρ = some o → G (evalList P (theCall P ext) false l l ⟨tm, dfs, H⟩) := fun l hD =>
  xops_ok hC hF hrec _ st E tm H df dfs _ _ G (fun e => by cases e) h hd (fun st' E' tm' H' df' dfs' a1 a2 a2' a3 a4 => hk .normal .normal st' E' tm' H' df' dfs' a1 a2 a2' .normal a3 a4) (fun v w st' E' tm' H' df' dfs' a1 a2 a2' a3 a4 a5 => hk (.panic v) (.panic w) st' E' tm' H' df' dfs' a1 a2 a2' (.panic a3) a4 a5) hD
 cases c with
 | skip => rw [theCode_skip]; exact hk .normal .normal st E tm H df dfs h (SE.le.refl E) (Kp.refl E st.va H) .normal hd hD
 | region id ops draw =>
  cases draw with
  | false =>
   have := theCode_list (P := P) (ext := ext) (rnd := false) (id := id) (l := ops.toList) (s := ⟨tm, dfs, H⟩)
   rw [Array.toArray_toList] at this
   rw [this]
   exact rgn _ hD
  | true =>
   simp only [xstep1] at hD
   cases hp : planOK' ops.toList (planOf ops.toList) && ((planOf ops.toList).filterMap fun j => ops.toList[j]?).all (fun o => !isDefer o.op) with
   | false =>
    rw [hp, cond_false] at hD
    cases hp2 : planStatic ops.toList (planOf ops.toList) with
    | false => rw [hp2] at hD; simp [dent] at hD
    | true =>
     rw [hp2, cond_true] at hD
     have := theCode_draw (P := P) (ext := ext) (rnd := false) (id := id) (ops := ops) (s := ⟨tm, dfs, H⟩)
     rw [this]
     obtain ⟨xx, s', p1, p2⟩ := xplan_ok hC hF hrec _ [] [] st E tm H (fun st => k .normal st df) (fun v st => k (.panic v) st df) G h (fun t ht => by simp at ht) (fun st' E' tm' H' a1 a2 a2' a3 => hk .normal .normal st' E' tm' H' df dfs a1 a2 a2' .normal (hd.mono a2 h.lw) a3)
      (fun v w st' E' H' a1 a2 a2' a3 a4 => hk (.panic v) (.panic w) st' E' [] H' df dfs a1 a2 a2' (.panic a3) (hd.mono a2 h.lw) a4) hD
     exact draw_use hp2 p1 p2
   | true =>
    rw [hp, cond_true] at hD
    rw [Bool.and_eq_true] at hp
    obtain ⟨hp, hnd⟩ := hp
    rw [List.all_eq_true] at hnd
    have := theCode_plan (P := P) (ext := ext) (rnd := false) (id := id) (l := ops.toList) (s := ⟨tm, dfs, H⟩) (planOf ops.toList) hp
    rw [Array.toArray_toList] at this
    rw [this]
    exact xops_ok hC hF hrec _ st E tm H df dfs _ _ (fun z => G (dropP z)) (fun _ op ho => by simpa using hnd op ho) h hd (fun st' E' tm' H' df' dfs' a1 a2 a2' a3 a4 => hk .normal .normal st' E' tm' H' df' dfs' a1 a2 a2' .normal a3 a4) (fun v w st' E' tm' H' df' dfs' a1 a2 a2' a3 a4 a5 => hk (.panic v) (.panic w) ⟨[], st'.locs, st'.va⟩ E' [] H' df' dfs' (a1.slots (ss := []) (vs := []) ⟨rfl, fun i s v h1 h2 => by simp at h1⟩) a2 a2' (.panic a3) a4 a5) hD
 | seq a b =>
  rw [theCode_seq]
  refine hrec C u a st E tm H df dfs o (fun z => G (thenA z fun s1 => theCode P ext false b s1)) _ hC h hd ?_ hD
  intro x ax st' E' tm' H' df' dfs' hR hle hkk hx hd' hD'
  cases hx with
  | normal =>
   rw [thenA_normal]
   exact hrec C u b st' E' tm' H' df' dfs' o G k hC hR hd' (fun x2 ax2 st2 E2 tm2 H2 df2 dfs2 a1 a2 a2' a3 a4 a5 => hk x2 ax2 st2 E2 tm2 H2 df2 dfs2 a1 (hle.trans a2) (hkk.trans a2') a3 a4 a5) hD'
  | exit => rw [thenA_exit]; exact hk _ _ _ _ _ _ _ _ hR hle hkk .exit hd' hD'
  | ret => rw [thenA_ret]; exact hk _ _ _ _ _ _ _ _ hR hle hkk .ret hd' hD'
  | panic hdn => rw [thenA_panic]; exact hk _ _ _ _ _ _ _ _ hR hle hkk (.panic hdn) hd' hD'
 | cond q a b =>
  simp only [xstep1] at hD
  split at hD
  case h_2 => simp [dent] at hD
  rename_i v hv
  obtain ⟨a1, a2, a3⟩ := sv_ok h hv
  obtain ⟨bb, st', h1, h2, h3, hva⟩ := sBr_ok h hD
  rw [← hva] at hk
  rw [theCode_cond a1 (show aev tm q = .bool bb from a2.trans h1)]
  cases bb with
  | true => exact hrec C u a st' E tm H df dfs o G k hC h2 hd hk h3
  | false => exact hrec C u b st' E tm H df dfs o G k hC h2 hd hk h3
 | block id a =>
  rw [theCode_block]
  refine hrec C u a st E tm H df dfs o (fun z => G (inBlockA id z)) _ hC h hd ?_ hD
  intro x ax st' E' tm' H' df' dfs' hR hle hkk hx hd' hD'
  cases hx with
  | normal => exact hk _ _ _ _ _ _ _ _ hR hle hkk .normal hd' hD'
  | ret => exact hk _ _ _ _ _ _ _ _ hR hle hkk .ret hd' hD'
  | panic hdn => exact hk _ _ _ _ _ _ _ _ hR hle hkk (.panic hdn) hd' hD'
  | @exit i =>
   dsimp only at hD'
   rw [inBlockA_exit]
   cases hb : Nat.beq i id with
   | true =>
    rw [hb, cond_true] at hD'
    rw [if_pos (Nat.eq_of_beq_eq_true hb)]
    exact hk _ _ _ _ _ _ _ _ hR hle hkk .normal hd' hD'
   | false =>
    rw [hb, cond_false] at hD'
    rw [if_neg (fun e => by rw [e] at hb; simp at hb)]
    exact hk _ _ _ _ _ _ _ _ hR hle hkk .exit hd' hD'
 | loop a =>
  simp only [xstep1] at hD
  cases u with
  | succ u =>
   dsimp only at hD
   rw [theCode_loop]
   refine hrec C (u + 1) a st E tm H df dfs o (fun z => G (thenA z fun s1 => theCode P ext false (.loop a) s1)) _ hC h hd ?_ hD
   intro x ax st' E' tm' H' df' dfs' hR hle hkk hx hd' hD'
   cases hx with
   | normal =>
    rw [thenA_normal]
    exact hrec C u (.loop a) st' E' tm' H' df' dfs' o G k hC hR hd' (fun x2 ax2 st2 E2 tm2 H2 df2 dfs2 a1 a2 a2' a3 a4 a5 => hk x2 ax2 st2 E2 tm2 H2 df2 dfs2 a1 (hle.trans a2) (hkk.trans a2') a3 a4 a5) hD'
   | exit => rw [thenA_exit]; exact hk _ _ _ _ _ _ _ _ hR hle hkk .exit hd' hD'
   | ret => rw [thenA_ret]; exact hk _ _ _ _ _ _ _ _ hR hle hkk .ret hd' hD'
   | panic hdn => rw [thenA_panic]; exact hk _ _ _ _ _ _ _ _ hR hle hkk (.panic hdn) hd' hD'
  | zero =>
   dsimp only at hD
   split at hD
   case h_2 => simp [dent] at hD
   rename_i vals hv
   rw [dent] at hD
   have h0 := toHead_ok h (SE.le.refl E) h.lw h.la h.lo.symm hv
   exact loop_ok (E0 := E) h.lw hrec hC h.la h.lo.symm hd hk L _ _ tm H h0 (toHead_pr h (SE.le.refl E) h.lw h.la h.lo.symm hv) hD
 | exit id => rw [theCode_exit]; exact hk (.exit id) (.exit id) st E tm H df dfs h (SE.le.refl E) (Kp.refl E st.va H) .exit hd hD
 | ret => rw [theCode_ret]; exact hk .ret .ret st E tm H df dfs h (SE.le.refl E) (Kp.refl E st.va H) .ret hd hD
 | label l => rw [theCode_label]; exact hk .normal .normal st E tm H df dfs h (SE.le.refl E) (Kp.refl E st.va H) .normal hd hD
 | rangeFunc g ps asg body =>
  simp only [xstep1] at hD
  exact xrange_ok hF hrec2 hC h hd hk hD
 | _ => simp [xstep1, dent] at hD
theorem xcode_ok : ∀ (n : Nat) {cfg : Cfg}, CfgOK P cfg ext F → RecOK P cfg ext F L (xcode n cfg)
 | 0, cfg, hF => by
  intro C u c st E tm H df dfs o G k hC h hd hk hD
  simp [xcode, dent] at hD
 | n + 1, cfg, hF => by
  intro C u c st E tm H df dfs o G k hC h hd hk hD
  exact xstep1_ok hF (xcode_ok n hF) (fun K => xcode_ok n (hF.withK K)) C u c st E tm H df dfs o G k hC h hd hk hD
end
end X
end Go.Proofs.YtmjmpaceopipbaaGreat
namespace Go.Proofs.YtmjmpaceopipbaaGreat
namespace X
open Go B
def toAlt (n m : Nat) (a : Alt) (v : SV) (st : SS) : Option (List SV) :=
 let p : SS := ⟨[a.res], a.locs, a.va⟩
 let st2 : SS := { st with slots := [v] }
 let b := bindSt p st2 ((newX 0 n).map some ++ List.replicate a.n none, (List.range m).map some ++ List.replicate (a.locs.length - m) none)
 let vals := b.1.drop n
 bif Nat.beq vals.length a.n && chk st2 (newX 0 n ++ vals) (List.range m ++ b.2.drop m) p then some vals else none
def xend (n m : Nat) (pan : Bool) (v : SV) (st : SS) : Nat → List Alt → FT
 | _, [] => .stop 70
 | i, a :: l => bif (a.pan == pan) then match toAlt n m a v st with
     | some vals => .fin i vals
     | none => xend n m pan v st (i + 1) l
  else xend n m pan v st (i + 1) l
def xfun (cfg : Cfg) (s : Sig) : FT := match cfg.T.func s.f with
 | some fn => match fn.body with
  | some c => bif Nat.ble s.args.length fn.ntmps then xcode 400 cfg (cfg.unr s.f) c ⟨s.args ++ List.replicate (fn.ntmps - s.args.length) .jk, s.locs, s.va⟩ [] fun x st df => xend1 cfg (xcode 399 cfg) fn.results.toList x st df (fun v st => xend s.va.length s.locs.length false v st 0 s.outs) (fun v st => xend s.va.length s.locs.length true v st 0 s.outs) else .stop 73
  | none => .stop 74
 | none => .stop 74
def finO : Option Out → Option (Nat × List D)
 | some (.fin k v) => some (k, v)
 | _ => none
section
variable {P : Program} {cfg : Cfg} {ext : CallT} {F : Nat → List D → Option (Nat × List D)} {L : Nat}
theorem xend_ok {T : Tabs} {C : Cx} {E0 E : SE} {st : SS} {v : SV} {w : Value} {H : AHeap} {tm : List Value} (h : SRel C E st tm H) (hle : SE.le E0 E) (hl : E0.w.length = E0.ρ.length) (hv : Dn E v w) {n m : Nat} (hn : n = E0.ρ.length) (hm : m = E0.ω.length) {pan : Bool} {k : Nat} {out : List D} :
    ∀ (l : List Alt) (i : Nat), dent T F L (xend n m pan v st i l) E.ρ = some (.fin k out) → ∃ (a : Alt) (ws : List Value) (os : List Nat), i ≤ k ∧ l[k - i]? = some a ∧ a.pan = pan ∧ out.length = a.n ∧ SRel C ⟨E0.ρ ++ out, E0.w ++ ws, E0.ω ++ os⟩ ⟨[a.res], a.locs, a.va⟩ [w] H ∧ ∀ b, b ∈ os → b ∈ E.ω
 | [], i, hD => by simp [xend, dent] at hD
 | a :: l, i, hD => by
  have next : dent T F L (xend n m pan v st (i + 1) l) E.ρ = some (.fin k out) → ∃ (a' : Alt) (ws : List Value) (os : List Nat), i ≤ k ∧ (a :: l)[k - i]? = some a' ∧ a'.pan = pan ∧ out.length = a'.n ∧ SRel C ⟨E0.ρ ++ out, E0.w ++ ws, E0.ω ++ os⟩ ⟨[a'.res], a'.locs, a'.va⟩ [w] H ∧ ∀ b, b ∈ os → b ∈ E.ω := by
   intro hD
   obtain ⟨a', ws, os, h1, h2, h3⟩ := xend_ok h hle hl hv hn hm l (i + 1) hD
   refine ⟨a', ws, os, by omega, ?_, h3⟩
   have : k - i = (k - (i + 1)) + 1 := by omega
   rw [this, List.getElem?_cons_succ]; exact h2
  unfold xend at hD
  cases hp : (a.pan == pan) with
  | false => rw [hp, cond_false] at hD; exact next hD
  | true =>
   rw [hp, cond_true] at hD
   split at hD
   · rename_i vals hvals
     rw [dent, Option.some.injEq, Out.fin.injEq] at hD
     obtain ⟨rfl, rfl⟩ := hD
     unfold toAlt at hvals
     dsimp only at hvals
     obtain ⟨hb, hvals⟩ := bif_some' hvals
     simp only [Option.some.injEq] at hvals
     rw [hvals] at hb
     rw [Bool.and_eq_true] at hb
     have hc3 := hb.2
     unfold chk at hc3
     simp only [Bool.and_eq_true] at hc3
     have hc4 := hc3.1.1.1.2
     rw [List.all_eq_true] at hc4
     have hoss : ∀ b, b ∈ ((bindSt ⟨[a.res], a.locs, a.va⟩ { st with slots := [v] } ((newX 0 n).map some ++ List.replicate a.n none, (List.range m).map some ++ List.replicate (a.locs.length - m) none)).2.drop m).map (fun b => E.ω.getD b 0) → b ∈ E.ω := by
      intro b hbb
      obtain ⟨x, hx, rfl⟩ := List.mem_map.1 hbb
      have hlt : x < E.ω.length := by rw [h.lo]; simpa using hc4 x (List.mem_append_right _ hx)
      rw [List.getD_eq_getElem?_getD, List.getElem?_eq_getElem hlt]
      exact List.getElem_mem hlt
     have hS := (h.slots (ss := [v]) (vs := [w]) ⟨rfl, fun j s x h1 h2 => by
      cases j with
      | zero => simp at h1 h2; subst h1; subst h2; exact hv
      | succ j => simp at h1⟩).ren hb.2
     obtain ⟨h1, h2, h3⟩ := newX_dD E0 E hle hl
     unfold SE.ren at hS
     rw [List.map_append, List.map_append, List.map_append, hn, hm, h1, h2, h3, ← dD_map] at hS
     exact ⟨a, _, _, Nat.le_refl _, by rw [Nat.sub_self]; rfl, by simpa using hp, by rw [List.length_map]; exact Nat.eq_of_beq_eq_true hb.1, hS, fun b hb' => hoss b (by rw [hn, hm]; exact hb')⟩
   · exact next hD
theorem xfun_ok (hF : CfgOK P cfg ext F) (hK0 : cfg.K = []) {s : Sig} (hx : ∀ args H, ext s.f args H = none) : SpecOK cfg.T (theCall P ext) s fun ρ => finO (dent cfg.T F L (xfun cfg s) ρ) := by
 intro C E args H k out hC hKK hH hP h hD
 have hCC : CC C cfg := ⟨hC, hKK.trans hK0.symm⟩
 have hD' : dent cfg.T F L (xfun cfg s) E.ρ = some (.fin k out) := by
  unfold finO at hD
  dsimp only at hD
  split at hD
  · rename_i k' v' hh
    simp only [Option.some.injEq, Prod.mk.injEq] at hD
    obtain ⟨rfl, rfl⟩ := hD
    exact hh
  · cases hD
 clear hD
 unfold xfun at hD'
 split at hD'
 case h_2 => simp [dent] at hD'
 rename_i fn hfn
 split at hD'
 case h_2 => simp [dent] at hD'
 rename_i c hc
 obtain ⟨hb, hD⟩ := bif_dent hD'
 clear hD'
 have hle : s.args.length ≤ fn.ntmps := Nat.le_of_ble_eq_true hb
 rw [theCall_body (hx args H) (hF.tab.func _ _ hfn) hc]
 have hst := enter_slots (st := ⟨s.args, s.locs, s.va⟩) (args := s.args) (vals := args) fn.ntmps h h.tm
 refine xcode_ok 400 hF C (cfg.unr s.f) c _ E _ H [] [] (.fin k out) (fun z => ∃ (a : Alt) (ws : List Value) (os : List Nat) (v : Value) (H' : AHeap), s.outs[k]? = some a ∧ out.length = a.n ∧ leaveR P (theCode P ext false) fn.results.toList z = some (endOf a.pan v, H') ∧
     SRel C ⟨E.ρ ++ out, E.w ++ ws, E.ω ++ os⟩ ⟨[a.res], a.locs, a.va⟩ [v] H' ∧ ∀ b, b ∈ os → H.next ≤ b) _ hCC hst trivial ?_ hD
 intro x ax st' E' tm' H' df' dfs' hR hle' hkp hx hd' hD
 have hnew : ∀ {E2 : SE} {H0 : AHeap} (os : List Nat) {ρ : List D} {w : List Value} {st2 : SS} {tm2 : List Value} {H2 : AHeap} {va2 : List VA}, Kp E s.va H E2 va2 H0 → SRel C ⟨ρ, w, E.ω ++ os⟩ st2 tm2 H2 → (∀ b, b ∈ os → b ∈ E2.ω) → ∀ b, b ∈ os → H.next ≤ b := by
  intro E2 H0 os ρ w st2 tm2 H2 va2 hkp h5 h6 b hb
  refine (hkp.om b (h6 b hb)).resolve_left fun h7 => ?_
  have := h5.nd
  rw [List.nodup_append] at this
  exact this.2.2 b h7 b hb rfl
 refine xend1_ok (R := fun z => ∃ (a : Alt) (ws : List Value) (os : List Nat) (v : Value) (H' : AHeap), s.outs[k]? = some a ∧ out.length = a.n ∧ z = some (endOf a.pan v, H') ∧
     SRel C ⟨E.ρ ++ out, E.w ++ ws, E.ω ++ os⟩ ⟨[a.res], a.locs, a.va⟩ [v] H' ∧ ∀ b, b ∈ os → H.next ≤ b) hCC hF (xcode_ok 399 hF) hR hx hd' ?_ ?_ hD
 · intro v st2 E2 H2 b1 b2 b3 b4 hD
   obtain ⟨a, ws, os, _, h2, h3, h4, h5, h6⟩ := xend_ok b1 (hle'.trans b2) h.lw (v := v) (w := v.den E2) (.inr ⟨b4, rfl⟩) h.la h.lo.symm s.outs 0 hD
   exact ⟨a, ws, os, _, H2, by simpa using h2, h4, by unfold endOf; rw [h3]; rfl, h5, hnew os (hkp.trans b3) h5 h6⟩
 · intro v w st2 E2 H2 b1 b2 b3 b4 hD
   obtain ⟨a, ws, os, _, h2, h3, h4, h5, h6⟩ := xend_ok b1 (hle'.trans b2) h.lw b4 h.la h.lo.symm s.outs 0 hD
   exact ⟨a, ws, os, _, H2, by simpa using h2, h4, by unfold endOf; rw [h3]; rfl, h5, hnew os (hkp.trans b3) h5 h6⟩
end
structure Prg where
 T : Tabs
 eng : List (Nat × Sig)
 hnd : List (Nat × Sig)
 inl : FuncId → Bool
 unr : FuncId → Nat
 eqT : TypeId → Bool
def sigsOf (l : List (Nat × Sig)) (f : FuncId) : List (Nat × Sig) := l.filter fun p => Nat.beq p.2.f f
def Prg.cfg (p : Prg) : Cfg := ⟨p.T, fun f => sigsOf p.eng f ++ sigsOf p.hnd f, p.inl, p.unr, p.eqT, []⟩
def getSig : List (Nat × Sig) → Nat → Option Sig
 | [], _ => none
 | p :: l, j => bif Nat.beq p.1 j then some p.2 else getSig l j
def M (p : Prg) (hand : Nat → List D → Option (Nat × List D)) : Nat → Nat → List D → Option (Nat × List D)
 | 0, j, ρ => match getSig p.eng j with
  | some _ => none
  | none => hand j ρ
 | n + 1, j, ρ => match getSig p.eng j with
  | some s => finO (dent p.T (M p hand n) n (xfun p.cfg s) ρ)
  | none => hand j ρ
structure PrgOK (P : Program) (p : Prg) (ext : CallT) (hand : Nat → List D → Option (Nat × List D)) : Prop where
 tab : TabOK P p.T
 ent : ∀ f fn, p.T.func f = some fn → enterB P f = true
 inl : ∀ g, p.inl g = true → ∀ args H, ext g args H = none
 eqT : ∀ t, p.eqT t = true → EqT P t
 rnd : ∀ K args H, ext (P.funcs.size + K) args H = none
 eng : ∀ j s, (j, s) ∈ p.eng → getSig p.eng j = some s ∧ ∀ args H, ext s.f args H = none
 hnd : ∀ j s, (j, s) ∈ p.hnd → getSig p.eng j = none ∧ SpecOK p.T (theCall P ext) s (hand j)
theorem M_ok {P : Program} {ext : CallT} {p : Prg} {hand : Nat → List D → Option (Nat × List D)} (h : PrgOK P p ext hand) : ∀ n j s, (j, s) ∈ p.eng ++ p.hnd → SpecOK p.T (theCall P ext) s (M p hand n j)
 | 0, j, s, hs => by
  rcases List.mem_append.1 hs with hs | hs
  · intro C E args H k out _ _ _ _ _ hD
    simp only [M, (h.eng j s hs).1] at hD
    cases hD
  · have : M p hand 0 j = hand j := by funext ρ; simp only [M, (h.hnd j s hs).1]
    rw [this]; exact (h.hnd j s hs).2
 | n + 1, j, s, hs => by
  rcases List.mem_append.1 hs with hs | hs
  · have : M p hand (n + 1) j = fun ρ => finO (dent p.T (M p hand n) n (xfun p.cfg s) ρ) := by funext ρ; simp only [M, (h.eng j s hs).1]
    rw [this]
    refine xfun_ok (cfg := p.cfg) ⟨h.tab, h.ent, fun f j' s' hm => ?_, h.inl, h.eqT, h.rnd⟩ rfl (h.eng j s hs).2
    rcases List.mem_append.1 hm with hm | hm
    · obtain ⟨h1, h2⟩ := List.mem_filter.1 hm
      exact ⟨Nat.eq_of_beq_eq_true h2, M_ok h n j' s' (List.mem_append_left _ h1)⟩
    · obtain ⟨h1, h2⟩ := List.mem_filter.1 hm
      exact ⟨Nat.eq_of_beq_eq_true h2, M_ok h n j' s' (List.mem_append_right _ h1)⟩
  · have : M p hand (n + 1) j = hand j := by funext ρ; simp only [M, (h.hnd j s hs).1]
    rw [this]; exact (h.hnd j s hs).2
end X
end Go.Proofs.YtmjmpaceopipbaaGreat
namespace Go.Proofs.YtmjmpaceopipbaaGreat
namespace X
open Go B
abbrev FunT := Nat → List D → Option (Nat × List D)
noncomputable def iterL (f : List D → Option Out) (v : List D) : Option Out := lim fun n => iter f n v
theorem iter_rising (f : List D → Option Out) : ∀ n m v r, n ≤ m → iter f n v = some r → iter f m v = some r
 | 0, _, _, _, _, h => by simp [iter] at h
 | n + 1, 0, _, _, hm, _ => by omega
 | n + 1, m + 1, v, r, hm, h => by
  unfold iter at h ⊢
  split at h
  · exact iter_rising f n m _ r (by omega) h
  · exact h
  · cases h
theorem iterL_some {f : List D → Option Out} {v : List D} {r : Out} : iterL f v = some r ↔ ∃ n, iter f n v = some r := lim_some fun n m r h g => iter_rising f n m v r h g
theorem iterL_eq (f : List D → Option Out) (v : List D) : iterL f v = match f v with
    | some (.again v') => iterL f v'
    | some (.done o) => some o
    | _ => none := by
 refine opt_ext fun r => ?_
 rw [iterL_some]
 constructor
 · rintro ⟨n, hn⟩
   cases n with
   | zero => simp [iter] at hn
   | succ n =>
    unfold iter at hn
    split at hn
    · rename_i v' hv; rw [hv]; exact iterL_some.2 ⟨n, hn⟩
    · rename_i o ho; rw [ho]; exact hn
    · cases hn
 · intro h
   split at h
   · rename_i v' hv
     obtain ⟨n, hn⟩ := iterL_some.1 h
     exact ⟨n + 1, by unfold iter; rw [hv]; exact hn⟩
   · rename_i o ho
     exact ⟨1, by unfold iter; rw [ho]; exact h⟩
   · cases h
noncomputable def dentL (T : Tabs) (F : FunT) : FT → List D → Option Out
 | .fin k vs, δ => some (.fin k (vs.map (dv δ)))
 | .again vs, δ => some (.again (vs.map (dv δ)))
 | .out k, δ => (dentL T F k δ).map .done
 | .bin op t a b k, δ => (binD T op t (dv δ a) (dv δ b)).bind fun d => dentL T F k (δ ++ [d])
 | .nilq b a k, δ => (nilqD b (dv δ a)).bind fun d => dentL T F k (δ ++ [d])
 | .un op a k, δ => (unD op (dv δ a)).bind fun d => dentL T F k (δ ++ [d])
 | .conv s t a k, δ => (convD T s t (dv δ a)).bind fun d => dentL T F k (δ ++ [d])
 | .len str a k, δ => (lenD str (dv δ a)).bind fun d => dentL T F k (δ ++ [d])
 | .sidx t a i k, δ => (sidxD T t (dv δ a) (dv δ i)).bind fun d => dentL T F k (δ ++ [d])
 | .ssl _ a lo hi k, δ => (sslD (dv δ a) (lo.map (dv δ)) (hi.map (dv δ))).bind fun d => dentL T F k (δ ++ [d])
 | .lsl e a lo hi k, δ => (lslD e (dv δ a) (lo.map (dv δ)) (hi.map (dv δ))).bind fun d => dentL T F k (δ ++ [d])
 | .bnd e a i k, δ => bif bndD e (dv δ a) (dv δ i) then dentL T F k δ else none
 | .ld e a ix o fl k, δ => (ldD e (δ.getD a (.ag [])) (ixD δ ix) o fl).bind fun ds => dentL T F k (δ ++ ds)
 | .mk e ag els k, δ => dentL T F k (δ ++ [.sl e (els.map fun cs => wrapD ag (cs.map (dv δ))) []])
 | .app t a b k, δ => (appD T t (dv δ a) (dv δ b)).bind fun d => dentL T F k (δ ++ [d])
 | .upd e a ix o ag vs k, δ => (updD e (δ.getD a (.ag [])) (ixD δ ix) o ag (vs.map (dv δ))).bind fun d => dentL T F k (δ ++ [d])
 | .eqs t neg l m k, δ => (eqsD T t (l.map (dv δ)) (m.map (dv δ))).bind fun b => dentL T F k (δ ++ [.v (.bool (neg != b))])
 | .min a b k, δ => (minD (dv δ a) (dv δ b)).bind fun d => dentL T F k (δ ++ [d])
 | .mnew k, δ => dentL T F k (δ ++ [.me []])
 | .mget kt z x ag keys k, δ => (mgetD T kt z (δ.getD x (.ag [])) (keyV ag (keys.map (dv δ)))).bind fun ds => dentL T F k (δ ++ ds)
 | .mput kt x ag keys v k, δ => (mputD T kt (δ.getD x (.ag [])) (keyV ag (keys.map (dv δ))) (dv δ v)).bind fun d => dentL T F k (δ ++ [d])
 | .call j vs k1 k2 k3, δ => (F j (vs.map (dv δ))).bind fun r => match r.1 with
  | 0 => dentL T F k1 (δ ++ r.2)
  | 1 => dentL T F k2 (δ ++ r.2)
  | 2 => dentL T F k3 (δ ++ r.2)
  | _ => none
 | .br a k1 k2, δ => brD (dv δ a) (dentL T F k1 δ) (dentL T F k2 δ)
 | .loop vs body, δ => iterL (fun v => dentL T F body (δ ++ v)) (vs.map (dv δ))
 | .probe _, _ => none
 | .stop _, _ => none
def FunT.le (F F' : FunT) : Prop := ∀ j ρ r, F j ρ = some r → F' j ρ = some r
theorem iter_map {f g : List D → Option Out} (h : ∀ v r, f v = some r → g v = some r) : ∀ n v r, iter f n v = some r → iter g n v = some r
 | 0, _, _, hr => by simp [iter] at hr
 | n + 1, v, r, hr => by
  unfold iter at hr ⊢
  split at hr
  · rename_i v' hv; rw [h _ _ hv]; exact iter_map h n _ _ hr
  · rename_i o ho; rw [h _ _ ho]; exact hr
  · cases hr
theorem brD_map {α : Type} {x : D} {a b a' b' : Option α} {r : α} (ha : a = some r → a' = some r) (hb : b = some r → b' = some r) (h : brD x a b = some r) : brD x a' b' = some r := by
 rcases brD_ok h with ⟨rfl, h1⟩ | ⟨rfl, h1⟩
 · exact ha h1
 · exact hb h1
section
variable {T : Tabs}
theorem dent_le {F F' : FunT} (hF : FunT.le F F') {L L' : Nat} (hL : L ≤ L') : ∀ (t : FT) (δ : List D) (o : Out), dent T F L t δ = some o → dent T F' L' t δ = some o := by
 intro t
 induction t with
 | out k ih =>
  intro δ o h
  rw [dent] at h ⊢
  obtain ⟨o', h1, rfl⟩ := Option.map_eq_some_iff.1 h
  rw [ih _ _ h1]; rfl
 | bnd e a i k ih =>
  intro δ o h
  rw [dent] at h ⊢
  obtain ⟨h1, h2⟩ := bif_some' h
  rw [h1, cond_true]; exact ih _ _ h2
 | mk e ag els k ih => intro δ o h; rw [dent] at h ⊢; exact ih _ _ h
 | mnew k ih => intro δ o h; rw [dent] at h ⊢; exact ih _ _ h
 | call j vs k1 k2 k3 ih1 ih2 ih3 =>
  intro δ o h
  rw [dent, Option.bind_eq_some_iff] at h
  obtain ⟨r, h1, h2⟩ := h
  rw [dent, hF _ _ _ h1]
  show (match r.1 with | 0 => _ | 1 => _ | 2 => _ | _ => _) = _
  split at h2
  · rename_i hr; rw [hr]; exact ih1 _ _ h2
  · rename_i hr; rw [hr]; exact ih2 _ _ h2
  · rename_i hr; rw [hr]; exact ih3 _ _ h2
  · cases h2
 | br a k1 k2 ih1 ih2 => intro δ o h; rw [dent] at h ⊢; exact brD_map (ih1 _ _) (ih2 _ _) h
 | loop vs body ih =>
  intro δ o h
  rw [dent] at h ⊢
  exact iter_rising _ _ _ _ _ hL (iter_map (fun v r hv => ih _ _ hv) _ _ _ h)
 | fin => intro δ o h; exact h
 | again => intro δ o h; exact h
 | probe => intro δ o h; exact h
 | stop => intro δ o h; exact h
 | _ =>
  rename_i ih
  intro δ o h
  rw [dent, Option.bind_eq_some_iff] at h
  obtain ⟨d, h1, h2⟩ := h
  rw [dent, h1]
  exact ih _ _ h2
theorem dent_lim {F F' : FunT} (hF : FunT.le F F') {L : Nat} : ∀ (t : FT) (δ : List D) (o : Out), dent T F L t δ = some o → dentL T F' t δ = some o := by
 intro t
 induction t with
 | out k ih =>
  intro δ o h
  rw [dent] at h
  rw [dentL]
  obtain ⟨o', h1, rfl⟩ := Option.map_eq_some_iff.1 h
  rw [ih _ _ h1]; rfl
 | bnd e a i k ih =>
  intro δ o h
  rw [dent] at h
  rw [dentL]
  obtain ⟨h1, h2⟩ := bif_some' h
  rw [h1, cond_true]; exact ih _ _ h2
 | mk e ag els k ih => intro δ o h; rw [dent] at h; rw [dentL]; exact ih _ _ h
 | mnew k ih => intro δ o h; rw [dent] at h; rw [dentL]; exact ih _ _ h
 | call j vs k1 k2 k3 ih1 ih2 ih3 =>
  intro δ o h
  rw [dent, Option.bind_eq_some_iff] at h
  obtain ⟨r, h1, h2⟩ := h
  rw [dentL, hF _ _ _ h1]
  show (match r.1 with | 0 => _ | 1 => _ | 2 => _ | _ => _) = _
  split at h2
  · rename_i hr; rw [hr]; exact ih1 _ _ h2
  · rename_i hr; rw [hr]; exact ih2 _ _ h2
  · rename_i hr; rw [hr]; exact ih3 _ _ h2
  · cases h2
 | br a k1 k2 ih1 ih2 => intro δ o h; rw [dent] at h; rw [dentL]; exact brD_map (ih1 _ _) (ih2 _ _) h
 | loop vs body ih =>
  intro δ o h
  rw [dent] at h
  rw [dentL]
  exact iterL_some.2 ⟨L, iter_map (fun v r hv => ih _ _ hv) _ _ _ h⟩
 | fin => intro δ o h; rw [dent] at h; rw [dentL]; exact h
 | again => intro δ o h; rw [dent] at h; rw [dentL]; exact h
 | probe => intro δ o h; rw [dent] at h; cases h
 | stop => intro δ o h; rw [dent] at h; cases h
 | _ =>
  rename_i ih
  intro δ o h
  rw [dent, Option.bind_eq_some_iff] at h
  obtain ⟨d, h1, h2⟩ := h
  rw [dentL, h1]
  exact ih _ _ h2
def RiseF (M : Nat → FunT) : Prop := ∀ n m, n ≤ m → FunT.le (M n) (M m)
noncomputable def limF (M : Nat → FunT) : FunT := fun j ρ => lim fun n => M n j ρ
theorem limF_some {M : Nat → FunT} (h : RiseF M) {j : Nat} {ρ : List D} {r : Nat × List D} : limF M j ρ = some r ↔ ∃ n, M n j ρ = some r := lim_some fun n m r hn hr => h n m hn j ρ r hr
theorem iter_lim {f : List D → Option Out} {g : Nat → List D → Option Out} (hm : ∀ n m v r, n ≤ m → g n v = some r → g m v = some r) (hg : ∀ v r, f v = some r → ∃ n, g n v = some r) : ∀ N v r, iter f N v = some r → ∃ n, ∀ m, n ≤ m → iter (g m) N v = some r
 | 0, _, _, h => by simp [iter] at h
 | N + 1, v, r, h => by
  unfold iter at h
  split at h
  · rename_i v' hv
    obtain ⟨n1, h1⟩ := hg _ _ hv
    obtain ⟨n2, h2⟩ := iter_lim hm hg N _ _ h
    refine ⟨max n1 n2, fun m hmm => ?_⟩
    unfold iter
    rw [hm n1 m _ _ (by omega) h1]
    exact h2 m (by omega)
  · rename_i o ho
    obtain ⟨n1, h1⟩ := hg _ _ ho
    refine ⟨n1, fun m hmm => ?_⟩
    unfold iter
    rw [hm n1 m _ _ hmm h1]; exact h
  · cases h
theorem dentL_some {M : Nat → FunT} (hM : RiseF M) : ∀ (t : FT) (δ : List D) (o : Out), dentL T (limF M) t δ = some o → ∃ n, dent T (M n) n t δ = some o := by
 have up : ∀ {t : FT} {δ : List D} {o : Out} {n m : Nat}, n ≤ m → dent T (M n) n t δ = some o → dent T (M m) m t δ = some o := fun h1 h2 => dent_le (hM _ _ h1) h1 _ _ _ h2
 intro t
 induction t with
 | out k ih =>
  intro δ o h
  rw [dentL] at h
  obtain ⟨o', h1, rfl⟩ := Option.map_eq_some_iff.1 h
  obtain ⟨n, hn⟩ := ih _ _ h1
  exact ⟨n, by rw [dent, hn]; rfl⟩
 | bnd e a i k ih =>
  intro δ o h
  rw [dentL] at h
  obtain ⟨h1, h2⟩ := bif_some' h
  obtain ⟨n, hn⟩ := ih _ _ h2
  exact ⟨n, by rw [dent, h1, cond_true]; exact hn⟩
 | mk e ag els k ih => intro δ o h; rw [dentL] at h; obtain ⟨n, hn⟩ := ih _ _ h; exact ⟨n, by rw [dent]; exact hn⟩
 | mnew k ih => intro δ o h; rw [dentL] at h; obtain ⟨n, hn⟩ := ih _ _ h; exact ⟨n, by rw [dent]; exact hn⟩
 | call j vs k1 k2 k3 ih1 ih2 ih3 =>
  intro δ o h
  rw [dentL, Option.bind_eq_some_iff] at h
  obtain ⟨r, h1, h2⟩ := h
  obtain ⟨n1, hn1⟩ := (limF_some hM).1 h1
  have fin : ∀ {k : FT}, (∃ n, dent T (M n) n k (δ ++ r.2) = some o) → ∃ m, M m j (vs.map (dv δ)) = some r ∧ dent T (M m) m k (δ ++ r.2) = some o := by
   rintro k ⟨n2, hn2⟩
   exact ⟨max n1 n2, hM _ _ (by omega) _ _ _ hn1, up (by omega) hn2⟩
  split at h2
  · rename_i hr; obtain ⟨m, g1, g2⟩ := fin (ih1 _ _ h2); exact ⟨m, by rw [dent, g1]; show (match r.1 with | 0 => _ | 1 => _ | 2 => _ | _ => _) = _; rw [hr]; exact g2⟩
  · rename_i hr; obtain ⟨m, g1, g2⟩ := fin (ih2 _ _ h2); exact ⟨m, by rw [dent, g1]; show (match r.1 with | 0 => _ | 1 => _ | 2 => _ | _ => _) = _; rw [hr]; exact g2⟩
  · rename_i hr; obtain ⟨m, g1, g2⟩ := fin (ih3 _ _ h2); exact ⟨m, by rw [dent, g1]; show (match r.1 with | 0 => _ | 1 => _ | 2 => _ | _ => _) = _; rw [hr]; exact g2⟩
  · cases h2
 | br a k1 k2 ih1 ih2 =>
  intro δ o h
  rw [dentL] at h
  rcases brD_ok h with ⟨h1, h2⟩ | ⟨h1, h2⟩
  · obtain ⟨n, hn⟩ := ih1 _ _ h2; exact ⟨n, by rw [dent, h1]; exact hn⟩
  · obtain ⟨n, hn⟩ := ih2 _ _ h2; exact ⟨n, by rw [dent, h1]; exact hn⟩
 | loop vs body ih =>
  intro δ o h
  rw [dentL] at h
  obtain ⟨N, hN⟩ := iterL_some.1 h
  obtain ⟨n, hn⟩ := iter_lim (g := fun n v => dent T (M n) n body (δ ++ v)) (fun n m v r h1 h2 => up h1 h2) (fun v r hv => ih _ _ hv) N _ _ hN
  refine ⟨max n N, ?_⟩
  rw [dent]
  exact iter_rising _ _ _ _ _ (by omega) (hn (max n N) (by omega))
 | fin => intro δ o h; exact ⟨0, by rw [dentL] at h; rw [dent]; exact h⟩
 | again => intro δ o h; exact ⟨0, by rw [dentL] at h; rw [dent]; exact h⟩
 | probe => intro δ o h; rw [dentL] at h; cases h
 | stop => intro δ o h; rw [dentL] at h; cases h
 | _ =>
  rename_i ih
  intro δ o h
  rw [dentL, Option.bind_eq_some_iff] at h
  obtain ⟨d, h1, h2⟩ := h
  obtain ⟨n, hn⟩ := ih _ _ h2
  exact ⟨n, by rw [dent, h1]; exact hn⟩
end
theorem finO_some {x : Option Out} {r : Nat × List D} : finO x = some r ↔ x = some (.fin r.1 r.2) := by
 unfold finO
 constructor
 · intro h
   split at h
   · simp only [Option.some.injEq] at h; subst h; rfl
   · cases h
 · intro h; rw [h]
theorem M_rise (p : Prg) (hand : FunT) : RiseF (M p hand) := by
 have step : ∀ n, FunT.le (M p hand n) (M p hand (n + 1)) := by
  intro n
  induction n with
  | zero =>
   intro j ρ r h
   unfold M at h ⊢
   split at h
   · cases h
   · exact h
  | succ n ih =>
   intro j ρ r h
   unfold M at h ⊢
   split at h
   · exact finO_some.2 (dent_le ih (Nat.le_succ n) _ _ _ (finO_some.1 h))
   · exact h
 intro n m hm
 induction hm with
 | refl => exact fun _ _ _ h => h
 | step _ ih => exact fun j ρ r h => step _ _ _ _ (ih j ρ r h)
noncomputable def ML (p : Prg) (hand : FunT) : FunT := limF (M p hand)
theorem ML_eq {p : Prg} {hand : FunT} {j : Nat} {s : Sig} (hs : getSig p.eng j = some s) (ρ : List D) : ML p hand j ρ = finO (dentL p.T (ML p hand) (xfun p.cfg s) ρ) := by
 refine opt_ext fun r => ?_
 rw [finO_some]
 constructor
 · intro h
   obtain ⟨n, hn⟩ := (limF_some (M_rise p hand)).1 h
   cases n with
   | zero => simp [M, hs] at hn
   | succ n =>
    unfold M at hn
    rw [hs] at hn
    exact dent_lim (fun j ρ r h => (limF_some (M_rise p hand)).2 ⟨n, h⟩) _ _ _ (finO_some.1 hn)
 · intro h
   obtain ⟨n, hn⟩ := dentL_some (M_rise p hand) _ _ _ h
   refine (limF_some (M_rise p hand)).2 ⟨n + 1, ?_⟩
   unfold M
   rw [hs]
   exact finO_some.2 hn
theorem ML_hand {p : Prg} {hand : FunT} {j : Nat} (hs : getSig p.eng j = none) (ρ : List D) : ML p hand j ρ = hand j ρ := by
 refine opt_ext fun r => ?_
 have : ∀ n, M p hand n j ρ = hand j ρ := by intro n; cases n <;> simp only [M, hs]
 constructor
 · intro h
   obtain ⟨n, hn⟩ := (limF_some (M_rise p hand)).1 h
   rw [← this n]; exact hn
 · intro h
   exact (limF_some (M_rise p hand)).2 ⟨0, by rw [this]; exact h⟩
theorem ML_ok {P : Program} {ext : CallT} {p : Prg} {hand : FunT} (h : PrgOK P p ext hand) {j : Nat} {s : Sig} (hs : (j, s) ∈ p.eng ++ p.hnd) : SpecOK p.T (theCall P ext) s (ML p hand j) := by
 intro C E args H k out h1 h0 h2 h3 h4 h5
 obtain ⟨n, hn⟩ := (limF_some (M_rise p hand)).1 h5
 exact M_ok h n j s hs C E args H k out h1 h0 h2 h3 h4 hn
end X
end Go.Proofs.YtmjmpaceopipbaaGreat
