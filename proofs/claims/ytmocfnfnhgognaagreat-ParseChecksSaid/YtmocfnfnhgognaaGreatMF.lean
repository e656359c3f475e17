/-
  The program's tables; the functions' signatures; the set's own trial, computed.
-/
import Derived.Test.YtmocfnfnhgognaaGreatM3
import Derived.Test.YtmocfnfnhgognaaGreatChecked
import Derived.KernelRfl
import Derived.Test.YtmocfnfnhgognaaGreatM5
import Derived.Test.YtmocfnfnhgognaaGreatMX2
namespace Go.Proofs.YtmocfnfnhgognaaGreat
namespace B
section
open Go Go.Proofs
theorem ZGw:Tables.info? Tryz.prog.toTables 3=some Tryz.t3:=ZhF Tryz.types_size (by decide) Tryz.type3
theorem ZCq:Program.cellsOf Tryz.prog 3=1:=ZfZ ZGw rfl
theorem ZGv:Tables.info? Tryz.prog.toTables 5=some Tryz.t5:=ZhF Tryz.types_size (by decide) Tryz.type5
theorem ZCp:Program.cellsOf Tryz.prog 5=1:=ZfZ ZGv rfl
theorem ZGu:Tables.info? Tryz.prog.toTables 9=some Tryz.t9:=ZhF Tryz.types_size (by decide) Tryz.type9
theorem ZCo:Program.cellsOf Tryz.prog 9=1:=ZfZ ZGu rfl
theorem ZEn:Tables.info? Tryz.prog.toTables 22=some Tryz.t22:=ZhF Tryz.types_size (by decide) Tryz.type22
theorem ZzZ:Program.cellsOf Tryz.prog 22=1:=ZfZ ZEn rfl
theorem ZEm:Tables.info? Tryz.prog.toTables 23=some Tryz.t23:=ZhF Tryz.types_size (by decide) Tryz.type23
theorem ZzY:Program.cellsOf Tryz.prog 23=1:=ZfZ ZEm rfl
theorem ZEl:Tables.info? Tryz.prog.toTables 25=some Tryz.t25:=ZhF Tryz.types_size (by decide) Tryz.type25
theorem ZuI:Program.cellsOf Tryz.prog 25=5:=ZfZ ZEl rfl
end
section
open Go Go.Proofs
def lkF (P:Program) (f:Nat):Option Func:=match P.funcs[f]? with
 | some fn=>bif Func.enters fn then some fn else none
 | none=>none
theorem ZpR {P:Program} {f:Nat} {fn:Func} (h:lkF P f=some fn):P.funcs[f]?=some fn∧Func.enters fn=true:=by
 unfold lkF at h
 split at h
 case h_2=>cases h
 rename_i g hg
 cases he:Func.enters g with
 | false=>rw [he] at h;cases h
 | true =>
  rw [he,cond_true,Option.some.injEq] at h
  subst h
  exact ⟨hg,he⟩
def Zpo (P:Program):Tabs:=⟨P.underlying,P.info?,lkF P⟩
theorem Zsr (P:Program):TabOK P (Zpo P):=⟨fun _ _ h=>h,fun _ _ h=>h,fun _ _ h=>(ZpR h).1⟩
theorem Zss (P:Program):∀ f fn,(Zpo P).func f=some fn→ZcP P f=true:=by
 intro f fn h
 obtain ⟨h1,h2⟩:=ZpR h
 unfold ZcP
 rw [h1]
 exact h2
theorem ZqD {P:Program} {n f:Nat} (h:P.funcs.size=n) (hf:n≤f):(Zpo P).func f=none:=by
 show lkF P f=none
 unfold lkF
 rw [Array.getElem?_eq_none (by omega)]
noncomputable def theTabs:Tabs:=Zpo Tryz.prog
theorem ZkK:TabOK Tryz.prog theTabs:=Zsr _
theorem ZkL:∀ f fn,theTabs.func f=some fn→ZcP Tryz.prog f=true:=Zss _
end
end B
end Go.Proofs.YtmocfnfnhgognaaGreat
namespace Go.Proofs.YtmocfnfnhgognaaGreat
namespace G
open Go B Go.Proofs
def Zzs {α:Type} (k:Nat):List (Nat×α)→Option α
 | []=>none
 | (i,x)::l=>bif Nat.beq i k then some x else Zzs k l
def ZyC:List (Nat×List (Nat×PI)):=[
 (3,[(4,.reads [0,2,1,3,4,5,6,7,8,9,10,11,12,13] [0,1,0,7,15,31,63,63,255,511,1023,2047,4095,8191])]),
 (8,[(6,.quiet [0,1,2,3,4,5,6,7,8,9,10,11])]),
 (11,[(6,.reads [0,1,2,3,4,5,6,7,8,9,10,11,12,13,14,15,16] [0,1,3,7,15,31,63,127,255,511,255,255,3327,7423,16383,32767,65535])]),
 (14,[(11,.reads [0,1,2,3,4,6,8,5,7,9,10,11,12,13] [0,1,3,7,7,23,7,119,7,503,1015,2047,4095,8191])]),
 (16,[(6,.reads [0,1,2,3,4,5,6,7,8,9,10,11,12,13,14,15,16,17,18] [0,1,3,7,15,31,63,127,255,511,255,2047,4095,8191,16383,32767,65535,131071,262143]),(36,.reads [0,1,2,3,4,5,6,7,8,9,10,11,12,13,14,15,16,17,18,19,20,21,22,23,24,25,26] [0,1,3,7,15,31,63,127,255,511,1023,2047,4095,8191,4095,32767,65535,131071,262143,524287,1048575,524287,2621439,6815743,16777215,33554431,67108863])]),
 (35,[(1,.reads [0,1,2,3,4,5,6,7,8,9,10,11,12,13,14,15,16,17,18,19] [0,1,3,7,15,31,63,127,255,255,1023,2047,4095,4095,12287,28671,65535,131071,262143,524287])]),
 (38,[(7,.reads [0,1,2,3,4,5,6,7,8,9,10,11,12] [0,1,3,7,15,15,15,111,239,495,1023,2047,4095])]),
 (44,[(15,.reads [0,1,2,3,4,5,6,7,8,9,10,11,12,13,14,15,16,17,18] [0,1,3,7,15,31,15,127,255,511,1023,2047,4095,8191,16383,32767,65535,131071,262143])]),
 (52,[(3,.reads [0,1,2,3,4,5] [0,0,0,1,11,31])]),
 (53,[(2,.quiet [0,1,2,3,4,5,6,7,8,9,10,11]),(4,.reads [0,1,2,3,4,5,6,7] [0,1,0,4,12,31,63,127]),(5,.reads [0,1,2,3,4,5,6,7] [0,1,0,4,12,31,63,127])]),
 (63,[(2,.reads [0,1,2,3,4,5,6,7,8,9,10,11,12,13,14] [0,1,3,7,15,31,63,127,255,255,767,1791,4095,8191,16383])]),
 (68,[(5,.reads [0,1,2,3,4,5,6,7] [0,0,2,0,8,1,39,127])]),
 (72,[(10,.reads [0,1,2,3,4,5,6,7,8,9,10] [0,1,0,4,0,0,0,64,240,511,1023])]),
 (73,[(8,.reads [0,1,2,3,4,5,6,7] [0,0,0,4,14,31,63,127])]),
 (79,[(2,.quiet [0,1,2,3,4,5,6,7,8,9])]),
 (80,[(1,.quiet [0,1,2,3,4,5,6,7,8,9]),(2,.quiet [0,1,2,3,4,5,6,7,8,9,10,11])]),
 (82,[(1,.quiet [0,1,2,3,4,5,6,7,8,9,10,11]),(2,.quiet [0,1,2,3,4,5,6,7,8,9,10,11,12])]),
 (88,[(2,.reads [0,1,2,3,4,5,6,7,8] [0,1,0,4,0,16,48,127,255])]),
 (92,[(7,.reads [0,1,2,3,4,5,6,7,8,9,10,11] [0,0,0,4,12,28,60,124,254,510,1023,2047])]),
 (94,[(2,.reads [0,1,2,3,4] [0,0,2,7,15])]),
 (99,[(0,.quiet [0,1,2,3,4,5,6,7,8,9]),(6,.quiet [0,1,2,3,4,5,6,7,8,9,10,11])]),
 (100,[(1,.quiet [0,1,2,3,4,5,6,7,8,9]),(4,.reads [0,2,4,5,6,7,8,9,10,11,12,13,15,1,3,14,16,17] [0,1,0,7,0,16,48,112,0,256,768,1792,0,7936,16383,0,32767,131071])]),
 (104,[(2,.quiet [0,1,2,3,4,5,6,7,8,9,10,11,12,13,14,15,16,17,18,19])]),
 (105,[(5,.reads [0,1,2,4,5,7,3,6,8] [0,1,3,7,0,16,63,0,255])]),
 (110,[(1,.quiet [0,1,2,3,4,5,6,7,8,9])]),
 (112,[(6,.quiet [0,1,2,3,4,5,6,7,8,9,10,11,12,13,14,15,16]),(9,.reads [0,1,2,3,4,5,6,7] [0,0,2,6,14,30,1,127]),(21,.reads [0,1,2,3,4,5,6,7] [0,0,2,6,14,30,1,127])]),
 (113,[(5,.reads [0,1,2,3,4,5,6,7] [0,0,2,6,14,30,1,127]),(17,.reads [0,1,2,3,4,5,6,7,8] [0,0,2,6,14,0,62,1,255])]),
 (114,[(3,.reads [0,1,2,3,4,5,6,7] [0,0,2,6,14,30,1,127]),(8,.quiet [0,1,2,3,4,5,6,7,8,9,10,11,12,13,14,15,16])]),
 (117,[(15,.reads [0,3,1,2,4,5,6,7] [0,1,3,0,11,31,63,127])]),
 (118,[(2,.reads [0,1,2,3,4,5,6,7] [0,1,0,4,0,16,63,127])]),
 (122,[(1,.reads [0,1,2,3,5,6,7,8,9,4,10,11] [0,1,3,7,15,0,32,96,224,480,1023,2047])]),
 (126,[(6,.reads [0,1,2,3,4,5,6,7] [0,1,0,4,12,31,63,127])]),
 (136,[(3,.reads [0,1,2,3,4,5,6,7] [0,1,0,4,12,31,63,127]),(4,.reads [0,1,2,3,4,5,6,7,8,9] [0,1,0,0,8,28,60,127,255,511]),(6,.reads [0,1,2,3,4,5,6,7,8,9] [0,1,0,0,8,28,60,127,255,511]),(8,.reads [0,1,2,3,4,5,6,7,8,9] [0,1,0,0,8,28,60,127,255,511]),(9,.reads [0,1,2,3,4,5,6,7] [0,1,0,4,12,31,63,127])]),
 (138,[(8,.reads [0,1,2,3,4,5,6,7] [0,1,0,4,12,31,63,127])]),
 (145,[(5,.reads [0,1,2,3,4,5,6,7] [0,1,0,4,12,31,63,127]),(6,.reads [0,1,2,3,4,5,6,7] [0,1,0,4,12,31,63,127])]),
 (147,[(2,.reads [0,1,2,3,4,5] [0,1,0,4,15,31])]),
 (149,[(2,.reads [0,1,2,3,4,5,6,7,8] [0,1,0,0,8,24,60,127,255])])]
def Zlp (f:FuncId) (id:Nat):Option PI:=match Zzs f ZyC with
 | some l=>Zzs id l
 | none=>none
noncomputable def Ztn (f:Nat):Bool:=match theTabs.func f with
 | some fn=>(match fn.body with
  | some c=>ZbZ (Zlp f) c
  | none=>true)
 | none=>true
theorem Zot:(List.range 168).all Ztn=true:=by kernel_rfl
theorem ZxY:∀ f,168≤f→theTabs.func f=none:=by
 intro f hf
 have hs:Tryz.prog.funcs.size=168:=by kernel_rfl
 exact ZqD hs hf
theorem Zob:∀ f fn c,theTabs.func f=some fn→fn.body=some c→ZbZ (Zlp f) c=true:=by
 intro f fn c hf hc
 rcases Nat.lt_or_ge f 168 with h | h
 · have:=List.all_eq_true.1 Zot f (by rw [List.mem_range];exact h)
   unfold Ztn at this
   rw [hf] at this
   dsimp only at this
   rw [hc] at this
   exact this
 · rw [ZxY f h] at hf;cases hf
end G
end Go.Proofs.YtmocfnfnhgognaaGreat
namespace Go.Proofs.YtmocfnfnhgognaaGreat
namespace X
open Go B Go.Proofs
def Zfj (i:Nat):SV:=.agg [.x i,.x (i+1),.x (i+2),.x (i+3),.x (i+4)]
def nodeVA:List VA:=[.sc,.sc,.sc,.sc,.sh false]
def ZBJ:List VA:=[.sc,.sc,.sc,.sc,.sh true]
def scs (n:Nat):List VA:=List.replicate n .sc
def Zjh (f:Nat):Sig:=⟨f,[Zfj 0],[],nodeVA,[⟨1,false,.x 5,[],nodeVA++[.sc]⟩]⟩
def Zxn (f:Nat):Sig:=⟨f,[Zfj 0,.x 5],[],nodeVA++[.sc],[⟨1,false,.x 6,[],nodeVA++[.sc,.sc]⟩]⟩
def ZBx (f:Nat):Sig:=⟨f,[Zfj 0,Zfj 5],[],nodeVA++nodeVA,[⟨1,false,.x 10,[],nodeVA++nodeVA++[.sc]⟩]⟩
def ZFu (f:Nat):Sig:=⟨f,[Zfj 0,Zfj 5,.x 10],[],nodeVA++nodeVA++[.sc],[⟨1,false,.x 11,[],nodeVA++nodeVA++[.sc,.sc]⟩]⟩
def ZDH (f:Nat):Sig:=⟨f,[Zfj 0],[],nodeVA,[⟨5,false,Zfj 5,[],nodeVA++ZBJ⟩]⟩
def sSc (f n:Nat):Sig:=⟨f,Zn1 0 n,[],scs n,[⟨1,false,.x n,[],scs (n+1)⟩]⟩
def ZGp (f n:Nat):Sig:=⟨f,Zn1 0 n,[],scs n,[⟨2,false,.tup [.x n,.x (n+1)],[],scs (n+2)⟩]⟩
def ZGP (f n:Nat):Sig:=⟨f,Zn1 0 n,[],scs n,[⟨3,false,.tup [.x n,.x (n+1),.x (n+2)],[],scs (n+3)⟩]⟩
def ZGQ (f:Nat):Sig:=⟨f,[.x 0,.x 1],[],[.sh false,.sc],[⟨1,false,.x 2,[],[.sh false,.sc,.sc]⟩]⟩
def Zxo (f:Nat):Sig:=⟨f,[.x 0,.x 1],[],[.sc,.sh false],[⟨1,false,.x 2,[],[.sc,.sh false,.sc]⟩]⟩
def Zji (f:Nat) (c:SV):Sig:=⟨f,[.x 0,c],[],[.sh false],[⟨1,false,.x 1,[],[.sh false,.sc]⟩]⟩
def sIs (f k:Nat):Sig:=⟨f,[Zfj 0,.c (.int .i64 k)],[],nodeVA,[⟨1,false,.x 5,[],nodeVA++[.sc]⟩]⟩
def ZAD (l:List SB):Sig:=⟨55,[Zfj 0,.loc 0 0,.loc 1 0,.loc 2 0],l,nodeVA,[⟨1,false,.x 5,l,nodeVA++[.sc]⟩]⟩
def ZBz (l:List SB):Sig:=⟨24,[.x 0,.fn 55 [.loc 0 0,.loc 1 0,.loc 2 0]],l,[.sh false],[⟨1,false,.x 1,l,[.sh false,.sc]⟩]⟩
def bK (k:Nat):SB:=.box [.c (.int .u8 k)] 5
def bF (f:Nat) (l:List SV):SB:=.box [.fn f l] 37
def ZEt:List SB:=[bK 3,bF 20 [],bF 21 []]
def ZFx:List SB:=[bF 55 [.loc 4 0,.loc 5 0,.loc 6 0]]++ZEt
def Zzx:List SB:=[bK 2,bF 20 [],bF 23 [.loc 3 0]]++ZFx
def Zzy:List SB:=[bK 5,bF 25 [],bF 26 [.loc 3 0]]++ZFx
def ZBU:List SB:=[bK 6,bF 25 [],bF 27 []]
def ZEi:List SB:=[bK 4,bF 20 [],bF 28 [.loc 3 0,.loc 4 0],bF 55 [.loc 5 0,.loc 6 0,.loc 7 0],bF 55 [.loc 8 0,.loc 9 0,.loc 10 0],bK 5,bF 25 [],bF 26 [.loc 11 0],bK 6,bF 25 [],bF 27 [],
 bF 55 [.loc 12 0,.loc 13 0,.loc 14 0],bK 3,bF 20 [],bF 21 []]
def ZBT:List SB:=[bK 25,bF 20 [],bF 32 []]
def ZzP:List (Nat×Sig) :=
 ((List.range 21).map fun k=>(4801+k,sIs 16 (k+1)))
 ++ ([(38,11),(39,12),(40,13),(41,14),(63,20),(72,29),(74,31),(77,34),(78,35),(79,36),(80,37),(81,38),(82,39),(119,59),(120,60),(123,63),(21,6),(89,44),(90,45),(95,50),(96,51),(47,15),(25,7)].map fun p=>(p.1,Zjh p.2))
 ++ [(37,Zxn 10)]
 ++ ([(98,56,1),(87,42,1),(94,49,1),(129,74,1),(130,75,1),(125,64,1),(127,66,1),(126,65,2),(131,76,1)].map fun p=>(p.1,sSc p.2.1 p.2.2))
 ++ [(76,ZGp 33 1),(85,Zxo 40),(152,Zxo 98),
  (11601,ZAD ZEt),(11602,ZAD Zzx),(11603,ZAD Zzy),(11604,ZAD ZBU),(11605,ZAD ZEi),(11606,ZAD ZBT),(6701,ZBz ZEt),(6706,ZBz ZBT),
  (6739,Zji 24 (.fn 12 [])),(6740,Zji 24 (.fn 13 [])),(6741,Zji 24 (.fn 14 [])),(6720,Zji 24 (.fn 60 [])),(6723,Zji 24 (.fn 63 [])),
  (9101,Zji 46 (.c (.int .i64 1))),(9102,Zji 46 (.c (.int .i64 2))),(9103,Zji 46 (.c (.int .i64 3))),(9105,Zji 46 (.c (.int .i64 5))),(9110,Zji 46 (.c (.int .i64 10))),(9113,Zji 46 (.c (.int .i64 13)))]
def Zh4 (fs:List Nat):Sig:=⟨22,[Zfj 0,.sl 0 fs.length],[.arr (fs.map fun f=>.fn f []) 37],nodeVA,[⟨1,false,.x 5,[.arr (fs.map fun f=>.fn f []) 37],nodeVA++[.sc]⟩]⟩
def Zwa:List (Nat×Sig):=[(6501,Zh4 [13]),(6502,Zh4 [12]),(6503,Zh4 [12,12]),(6504,Zh4 [12,12,12]),
 (6505,Zh4 [59,12]),(6506,Zh4 [12,29]),(6507,Zh4 [31]),(6508,Zh4 [29])]
def inlTest:List Nat:=[19,21,22,23,24,25,26,27,28,30,32,55,57,58,61,62,77,41,43,46,47,48,78,96,97]
def unrTest:List Nat:=[22,57]
def ZxD:List (Nat×Sig):=[(20,Zxn 4),(6,ZDH 5),(9,ZBx 8),(3026,Zjh 3)]
def ZpX:List (Nat×Sig):=[(3030,sSc 9 0)]
def str (l:List UInt8):ByteArray:=⟨l.toArray⟩
def Zlb:List (Nat×Sig):=ZzP++Zwa++ZxD
noncomputable def prg:Prg:=⟨theTabs,Zlb,ZpX,fun f=>inlTest.contains f,fun f=>bif unrTest.contains f then 5 else 0,fun _=>false⟩
theorem Zah {hand:Zd3} {j:Nat} {t:FT} (h:(Zam prg.eng j).map (Zbr prg.cfg)=some t) (ρ:List D):ML prg hand j ρ=Zdd (Zad theTabs (ML prg hand) t ρ):=by
 cases hs:Zam prg.eng j with
 | none=>rw [hs] at h;cases h
 | some s =>
  rw [hs] at h
  simp only [Option.map_some,Option.some.injEq] at h
  rw [ZEZ hs,h];rfl
end X
end Go.Proofs.YtmocfnfnhgognaaGreat
namespace Go.Proofs.YtmocfnfnhgognaaGreat
namespace G
open Go B Go.Proofs
def nbX:Za9:=Zzf 132
theorem ZGy:GOK Tryz.prog theTabs nbX 168:=⟨ZkK,ZkL,ZvM Tryz.func132 (by kernel_rfl) (by kernel_rfl) (by kernel_rfl) (by kernel_rfl),by kernel_rfl⟩
noncomputable def ZFv (f:FuncId) (args:List Value):Option AEnd:=ZDW Tryz.prog theTabs nbX 168 Zlp 3000 f args
theorem Zyx {f:FuncId} {args:List Value} {v:Value} (h:ZpV (ZFv f args) v=true):∃ H',Zaw Tryz.prog ZzN f args ⟨0,fun _=>none⟩=some (.ret v,H'):=Zyy ZGy Zob (Zt6 h)
theorem Zqw:ZpV (ZFv 9 []) (.bool true)=true:=by kernel_rfl
def tblX:Tbl:=fun f args=>bif Nat.beq f 9 then (match args with
    | []=>some (.bool true)
    | _=>none)
 else none
theorem ZxX:TblOK Tryz.prog tblX:=by
 refine ⟨fun f args v h=>?_⟩
 unfold tblX at h
 cases h1:Nat.beq f 9 with
 | false=>rw [h1,cond_false] at h;cases h
 | true =>
  rw [h1,cond_true] at h
  obtain rfl:=Nat.eq_of_beq_eq_true h1
  split at h
  case h_2=>cases h
  simp only [Option.some.injEq] at h
  subst h
  exact ⟨⟨_,Tryz.func9⟩,rfl,rfl,Zyx Zqw⟩
theorem Zj4 {f:FuncId} (h:Nat.beq f 9=false) (args:List Value) (H:AHeap):extT tblX f args H=none:=by
 unfold extT tblX
 rw [h];rfl
theorem Zrl (H:AHeap):extT tblX 9 [] H=some (.ret (.bool true),H):=rfl
end G
end Go.Proofs.YtmocfnfnhgognaaGreat
