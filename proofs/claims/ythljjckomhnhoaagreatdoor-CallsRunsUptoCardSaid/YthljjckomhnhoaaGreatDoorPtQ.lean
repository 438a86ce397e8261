/-
  An argument of the type api.Prog, read: it is the picture of a program.
-/
import Derived.Test.YthljjckomhnhoaaGreatDoorPtG
import Derived.Test.YthljjckomhnhoaaGreatDoorPtP
import Derived.Test.YthljjckomhnhoaaGreatDoorRows
import Derived.Shelf.SortM.Plain
import Derived.Shelf.SortM.SortNone
import Derived.Ground.SlgmProg
import Derived.Test.YthljjckomhnhoaaGreatDoorChecked
import Derived.Test.YthljjckomhnhoaaGreatDoorPtI
import Derived.Test.YthljjckomhnhoaaGreatDoorPtH
import Derived.Test.YthljjckomhnhoaaGreatDoorTie
import Derived.Test.YthljjckomhnhoaaGreatDoorCards
import Derived.ProofKit
import Derived.LaidMore
import Derived.Lay
import Derived.SevenTiedAt
import Derived.Stop.Joined
import Derived.Deep.DeepHandedRow
import Derived.Test.YthljjckomhnhoaaGreatDoorPtL
set_option linter.unusedSectionVars false
set_option linter.unusedSimpArgs false
set_option linter.unusedVariables false
set_option linter.defProp false
set_option maxHeartbeats 4000000
set_option maxRecDepth 100000
namespace Go.Proofs.Sx
open Go.Rv Go.Proofs
noncomputable section
abbrev PP : Program := Tryz.prog
variable {H : Type} {enc : TypeId × Value -> H}
abbrev bk (H : Type) : DataW H -> Nat := YthljjckomhnhoaaGreatDoor.Rows.uptoBulk
theorem bulkOk {H : Type} : Bulk (bk H) (YthljjckomhnhoaaGreatDoor.Rows.uptoBulkAll) where
 str l := by simp [YthljjckomhnhoaaGreatDoor.Rows.uptoBulk]
 slice e s := by simp only [YthljjckomhnhoaaGreatDoor.Rows.uptoBulk]; omega
 agg e := by simp only [YthljjckomhnhoaaGreatDoor.Rows.uptoBulk]; omega
 cons d r := by simp only [YthljjckomhnhoaaGreatDoor.Rows.uptoBulkAll]
 pos d := by
  cases d with
  | lit l => cases l <;> simp [YthljjckomhnhoaaGreatDoor.Rows.uptoBulk]
  | nil => simp [YthljjckomhnhoaaGreatDoor.Rows.uptoBulk]
  | ptr d => simp [YthljjckomhnhoaaGreatDoor.Rows.uptoBulk]
  | slice elems spare => simp [YthljjckomhnhoaaGreatDoor.Rows.uptoBulk]
  | agg parts => simp [YthljjckomhnhoaaGreatDoor.Rows.uptoBulk]
  | iface t d => simp [YthljjckomhnhoaaGreatDoor.Rows.uptoBulk]
  | map entries => simp [YthljjckomhnhoaaGreatDoor.Rows.uptoBulk]
  | held h => simp [YthljjckomhnhoaaGreatDoor.Rows.uptoBulk]
abbrev OP (t : TypeId) {α : Type} (pic : α -> List AV) (ok : α -> Prop) : Prop := ∀ (H : Type) (enc : TypeId × Value -> H), Opens enc PP (bk H) 1048576 t pic ok
abbrev wf64 (n : Int) : Prop := (Lit.int .i64 n).wf = true
theorem oInt : OP 3 (fun n : Int => [.int .i64 n]) wf64 := fun H enc => opens_int Tryz.underlying3
theorem oInts : OP 27 (GS.pic (fun n : Int => .int .i64 n) 1) (GS.ok 1048576 wf64) :=
 fun H enc => opens_slice bulkOk Tryz.underlying27 (oInt H enc) (by kernel_rfl) (by omega) _ (fun _ => rfl) (fun _ => rfl)
theorem oStr : OP 9 (fun l : List UInt8 => [.str l]) (fun l => l.length <= 1048576) := fun H enc => opens_string bulkOk Tryz.underlying9
theorem oStrs : OP 23 (GS.pic (fun l : List UInt8 => .str l) 1) (GS.ok 1048576 fun l => l.length <= 1048576) :=
 fun H enc => opens_slice bulkOk Tryz.underlying23 (oStr H enc) (by kernel_rfl) (by omega) _ (fun _ => rfl) (fun _ => rfl)
theorem oI64 : OP 2 (fun n : Int => [.int .i64 n]) wf64 := fun H enc => opens_int Tryz.underlying2
theorem oU8 : OP 5 (fun n : Int => [.int .u8 n]) (fun n => (Lit.int .u8 n).wf = true) := fun H enc => opens_int Tryz.underlying5
theorem oBool : OP 4 (fun b : Bool => [.bool b]) (fun _ => True) := fun H enc => opens_bool Tryz.underlying4
abbrev MemD := List UInt8 × Int × Int × Unit
def memPic (p : MemD) : List AV := [.str p.1] ++ ([.int .i64 p.2.1] ++ ([.int .i64 p.2.2.1] ++ []))
def memOk (p : MemD) : Prop := p.1.length <= 1048576 /\ wf64 p.2.1 /\ wf64 p.2.2.1 /\ True
theorem oMem : OP 81 memPic memOk := fun H enc => by
 have F := opens_struct (enc := enc) bulkOk Tryz.underlying81 (opensF_cons (oStr H enc) (opensF_cons (oInt H enc) (opensF_cons (oI64 H enc) opensF_nil))) (by kernel_rfl)
 exact F
theorem oMems : OP 22 (GS.pic (fun p => .agg (memPic p)) 3) (GS.ok 1048576 memOk) :=
 fun H enc => opens_slice bulkOk Tryz.underlying22 (oMem H enc) (by kernel_rfl) (by omega) _ (fun _ => rfl) (fun _ => rfl)
abbrev InsD := Int × Int × Int × Int × Int × GS Int × Unit
def insPic (p : InsD) : List AV := [.int .u8 p.1] ++ ([.int .i64 p.2.1] ++ ([.int .i64 p.2.2.1] ++ ([.int .i64 p.2.2.2.1] ++ ([.int .i64 p.2.2.2.2.1] ++ (GS.pic (fun n : Int => .int .i64 n) 1 p.2.2.2.2.2.1 ++ [])))))
def insOk (p : InsD) : Prop := (Lit.int .u8 p.1).wf = true /\ wf64 p.2.1 /\ wf64 p.2.2.1 /\ wf64 p.2.2.2.1 /\ wf64 p.2.2.2.2.1 /\ GS.ok 1048576 wf64 p.2.2.2.2.2.1 /\ True
theorem oIns : OP 41 insPic insOk := fun H enc => by
 have F := opens_struct (enc := enc) bulkOk Tryz.underlying41 (opensF_cons (oU8 H enc) (opensF_cons (oInt H enc) (opensF_cons (oInt H enc) (opensF_cons (oInt H enc) (opensF_cons (oI64 H enc) (opensF_cons (oInts H enc) opensF_nil)))))) (by kernel_rfl)
 exact F
theorem insPic_len (p : InsD) : (insPic p).length = 6 := by unfold insPic; cases p.2.2.2.2.2.1 <;> rfl
theorem oCode : OP 37 (GS.pic (fun p => .agg (insPic p)) 6) (GS.ok 1048576 insOk) :=
 fun H enc => opens_slice bulkOk Tryz.underlying37 (oIns H enc) (by kernel_rfl) (by omega) _ (fun _ => rfl) insPic_len
abbrev FunD := List UInt8 × Bool × Int × Int × GS InsD × Unit
def funPic (p : FunD) : List AV := [.str p.1] ++ ([.bool p.2.1] ++ ([.int .i64 p.2.2.1] ++ ([.int .i64 p.2.2.2.1] ++ (GS.pic (fun q => .agg (insPic q)) 6 p.2.2.2.2.1 ++ []))))
def funOk (p : FunD) : Prop := p.1.length <= 1048576 /\ True /\ wf64 p.2.2.1 /\ wf64 p.2.2.2.1 /\ GS.ok 1048576 insOk p.2.2.2.2.1 /\ True
theorem oFun : OP 39 funPic funOk := fun H enc => by
 have F := opens_struct (enc := enc) bulkOk Tryz.underlying39 (opensF_cons (oStr H enc) (opensF_cons (oBool H enc) (opensF_cons (oInt H enc) (opensF_cons (oInt H enc) (opensF_cons (oCode H enc) opensF_nil))))) (by kernel_rfl)
 exact F
theorem funPic_len (p : FunD) : (funPic p).length = 5 := by unfold funPic; cases p.2.2.2.2.1 <;> rfl
theorem oFuns : OP 24 (GS.pic (fun p => .agg (funPic p)) 5) (GS.ok 1048576 funOk) :=
 fun H enc => opens_slice bulkOk Tryz.underlying24 (oFun H enc) (by kernel_rfl) (by omega) _ (fun _ => rfl) funPic_len
abbrev ProgD := GS MemD × GS (List UInt8) × GS FunD × Unit
def progPic (p : ProgD) : List AV := GS.pic (fun q => .agg (memPic q)) 3 p.1 ++ (GS.pic (fun l : List UInt8 => .str l) 1 p.2.1 ++ (GS.pic (fun q => .agg (funPic q)) 5 p.2.2.1 ++ []))
def progOk (p : ProgD) : Prop := GS.ok 1048576 memOk p.1 /\ GS.ok 1048576 (fun l => l.length <= 1048576) p.2.1 /\ GS.ok 1048576 funOk p.2.2.1 /\ True
theorem oProgD : OP 26 progPic progOk := fun H enc => by
 have F := opens_struct (enc := enc) bulkOk Tryz.underlying26 (opensF_cons (oMems H enc) (opensF_cons (oStrs H enc) (opensF_cons (oFuns H enc) opensF_nil))) (by kernel_rfl)
 exact F
def GS.list {α : Type} : GS α -> List α
 | .nil => []
 | .mk l _ => l
def GS.room {α : Type} : GS α -> Room
 | .nil => .nil
 | .mk _ c => .exact c
theorem GS.pic_eq {α : Type} (el : α -> AV) (z : Nat) (g : GS α) : GS.pic el z g = [.lst ((GS.list g).map el) z (GS.room g)] := by cases g <;> rfl
theorem GS.ok_all {α : Type} {B : Nat} {ok : α -> Prop} {g : GS α} (h : GS.ok B ok g) : (GS.list g).length <= B /\ ∀ a ∈ GS.list g, ok a := by
 cases g with
 | nil => exact ⟨by simp [GS.list], fun a ha => by simp [GS.list] at ha⟩
 | mk l c => exact h
def memOf (p : MemD) : SMem := ⟨p.1, p.2.1, p.2.2.1⟩
def insOf (p : InsD) : SIns := ⟨p.1, p.2.1, p.2.2.1, p.2.2.2.1, p.2.2.2.2.1, GS.list p.2.2.2.2.2.1, 1, GS.room p.2.2.2.2.2.1⟩
def funOf (p : FunD) : SFun := ⟨p.1, p.2.1, p.2.2.1, p.2.2.2.1, (GS.list p.2.2.2.2.1).map insOf, 6, GS.room p.2.2.2.2.1⟩
def progOf (p : ProgD) : SProg := ⟨(GS.list p.1).map memOf, 3, GS.room p.1, GS.list p.2.1, 1, GS.room p.2.1, (GS.list p.2.2.1).map funOf, 5, GS.room p.2.2.1⟩
theorem insPic_eq (p : InsD) : insPic p = (insOf p).cells := by
 unfold insPic
 rw [GS.pic_eq]
 rfl
theorem funPic_eq (p : FunD) : funPic p = (funOf p).cells := by
 unfold funPic
 rw [GS.pic_eq]
 simp only [SFun.cells, funOf, codeL, List.map_map, Function.comp_def, insPic_eq]
 rfl
theorem progPic_eq (p : ProgD) : progPic p = (progOf p).cells := by
 unfold progPic
 rw [GS.pic_eq, GS.pic_eq, GS.pic_eq]
 simp only [SProg.cells, progOf, memsL, strL, funsL, List.map_map, Function.comp_def, funPic_eq]
 rfl
theorem insOf_wf {p : InsD} (h : insOk p) : (insOf p).wf := by
 obtain ⟨h1, _, _, _, _, h6, _⟩ := h
 have h1' := h1
 have e1 : IntKind.u8.min = 0 := rfl
 have e2 : IntKind.u8.max = 255 := rfl
 simp only [Lit.wf, decide_eq_true_eq, qAa, e1, e2] at h1'
 refine ⟨?_, ?_, ?_⟩
 ·show 0 <= p.1; omega
 ·show p.1 < 256; omega
 ·have := (GS.ok_all h6).1
  show (GS.list p.2.2.2.2.2.1).length < 100000000
  omega
theorem funOf_wf {p : FunD} (h : funOk p) : (funOf p).wf := by
 obtain ⟨h1, _, _, _, h5, _⟩ := h
 obtain ⟨h6, h7⟩ := GS.ok_all h5
 refine ⟨?_, ?_, ?_⟩
 ·simp only [funOf, qBn]; omega
 ·show p.1.length < _; omega
 ·intro i hi
  obtain ⟨q, hq, rfl⟩ := qBl.1 hi
  exact insOf_wf (h7 q hq)
theorem progOf_wf {p : ProgD} (h : progOk p) : (progOf p).wf := by
 obtain ⟨h1, h2, h3, _⟩ := h
 obtain ⟨a1, a2⟩ := GS.ok_all h1
 obtain ⟨b1, b2⟩ := GS.ok_all h2
 obtain ⟨c1, c2⟩ := GS.ok_all h3
 refine ⟨?_, ?_, ?_, ?_, ?_, ?_⟩
 ·simp only [progOf, qBn]; omega
 ·show (GS.list p.2.1).length < _; omega
 ·simp only [progOf, qBn]; omega
 ·intro m hm
  obtain ⟨q, hq, rfl⟩ := qBl.1 hm
  have := (a2 q hq).1
  show q.1.length < _; omega
 ·intro l hl
  have := b2 l hl
  omega
 ·intro f hf
  obtain ⟨q, hq, rfl⟩ := qBl.1 hf
  exact funOf_wf (c2 q hq)
theorem GS.nil_list {α : Type} {g : GS α} (h : GS.room g = .nil) : GS.list g = [] := by
 cases g with
 | nil => rfl
 | mk l c => cases h
theorem progOf_nils (p : ProgD) : (progOf p).nils where
 mems h := by
  show (GS.list p.1).map memOf = []
  rw [GS.nil_list h]; rfl
 locks h := GS.nil_list h
 funs h := by
  show (GS.list p.2.2.1).map funOf = []
  rw [GS.nil_list h]; rfl
 code F hF h := by
  obtain ⟨q, _, rfl⟩ := qBl.1 hF
  show (GS.list q.2.2.2.2.1).map insOf = []
  rw [GS.nil_list h]; rfl
 args F hF i hi h := by
  obtain ⟨q, _, rfl⟩ := qBl.1 hF
  obtain ⟨r, _, rfl⟩ := qBl.1 hi
  exact GS.nil_list h
theorem oProg : OP 26 SProg.cells (fun p => p.wf /\ p.nils) := fun H enc w n cs x h1 h2 h3 => by
 obtain ⟨a, ha, hv⟩ := oProgD H enc w n cs x h1 h2 h3
 exact ⟨progOf a, ⟨progOf_wf ha, progOf_nils a⟩, by rw [← progPic_eq]; exact hv⟩
end
end Go.Proofs.Sx
namespace Go.Proofs
open Go.Shelf
def Tryz.sortT_ren : Go.Shelf.Ren := ⟨fun | 6 => 56 | 8 => 85 | 9 => 84 | 19 => 120 | 20 => 121 | 21 => 111 | 22 => 112 | 23 => 113 | 24 => 114 | 25 => 115 | 26 => 116 | 27 => 117 | 28 => 118 | 29 => 119 | 36 => 138 | 31 => 139 | 32 => 140 | 37 => 141 | 38 => 142 | 39 => 143 | 41 => 171 | n => n, fun | 27 => 23 | 29 => 9 | 3 => 3 | 32 => 122 | 26 => 23 | 0 => 0 | 44 => 145 | 46 => 76 | 4 => 4 | 36 => 163 | 35 => 162 | 41 => 126 | 5 => 5 | 9 => 9 | 53 => 191 | 57 => 195 | 63 => 209 | 64 => 210 | n => n, fun | n => n⟩
theorem Tryz.sortT : Go.Proofs.SlLaysM.n6 Tryz.prog Tryz.sortT_ren := {
  mixed := by kernel_rfl
  f6 := ⟨Tryz.f56.name, by decide, Tryz.func56.trans (congrArg some (by kernel_rfl))⟩
  f8 := Tryz.func85.trans (congrArg some (by kernel_rfl))
  f9 := ⟨Tryz.f84.name, by decide, Tryz.func84.trans (congrArg some (by kernel_rfl))⟩
  f19 := Tryz.func120.trans (congrArg some (by kernel_rfl))
  f20 := Tryz.func121.trans (congrArg some (by kernel_rfl))
  f21 := ⟨Tryz.f111.name, by decide, Tryz.func111.trans (congrArg some (by kernel_rfl))⟩
  f22 := ⟨Tryz.f112.name, by decide, Tryz.func112.trans (congrArg some (by kernel_rfl))⟩
  f23 := ⟨Tryz.f113.name, by decide, Tryz.func113.trans (congrArg some (by kernel_rfl))⟩
  f24 := ⟨Tryz.f114.name, by decide, Tryz.func114.trans (congrArg some (by kernel_rfl))⟩
  f25 := ⟨Tryz.f115.name, by decide, Tryz.func115.trans (congrArg some (by kernel_rfl))⟩
  f26 := ⟨Tryz.f116.name, by decide, Tryz.func116.trans (congrArg some (by kernel_rfl))⟩
  f27 := ⟨Tryz.f117.name, by decide, Tryz.func117.trans (congrArg some (by kernel_rfl))⟩
  f28 := ⟨Tryz.f118.name, by decide, Tryz.func118.trans (congrArg some (by kernel_rfl))⟩
  f29 := ⟨Tryz.f119.name, by decide, Tryz.func119.trans (congrArg some (by kernel_rfl))⟩
  f31 := Tryz.func139.trans (congrArg some (by kernel_rfl))
  f32 := Tryz.func140.trans (congrArg some (by kernel_rfl))
  f36 := ⟨Tryz.f138.name, by decide, Tryz.func138.trans (congrArg some (by kernel_rfl))⟩
  f37 := ⟨Tryz.f141.name, by decide, Tryz.func141.trans (congrArg some (by kernel_rfl))⟩
  f38 := ⟨Tryz.f142.name, by decide, Tryz.func142.trans (congrArg some (by kernel_rfl))⟩
  f39 := ⟨Tryz.f143.name, by decide, Tryz.func143.trans (congrArg some (by kernel_rfl))⟩
  f41 := ⟨Tryz.f171.name, by decide, Tryz.func171.trans (congrArg some (by kernel_rfl))⟩
  t0 := Tryz.underlying0
  a0 := Tryz.isAgg0
  z0 := Tryz.sizeOf0
  v0 := Tryz.zeroValue0
  t3 := Tryz.underlying3
  a3 := Tryz.isAgg3
  z3 := Tryz.sizeOf3
  v3 := Tryz.zeroValue3
  t4 := Tryz.underlying4
  a4 := Tryz.isAgg4
  z4 := Tryz.sizeOf4
  v4 := Tryz.zeroValue4
  t5 := Tryz.underlying5
  a5 := Tryz.isAgg5
  z5 := Tryz.sizeOf5
  v5 := Tryz.zeroValue5
  t9 := Tryz.underlying9
  a9 := Tryz.isAgg9
  z9 := Tryz.sizeOf9
  v9 := Tryz.zeroValue9
  t26 := Tryz.underlying23
  a26 := Tryz.isAgg23
  z26 := Tryz.sizeOf23
  v26 := Tryz.zeroValue23
  t27 := Tryz.underlying23
  a27 := Tryz.isAgg23
  z27 := Tryz.sizeOf23
  v27 := Tryz.zeroValue23
  t29 := Tryz.underlying9
  a29 := Tryz.isAgg9
  z29 := Tryz.sizeOf9
  v29 := Tryz.zeroValue9
  t32 := Tryz.underlying122
  a32 := Tryz.isAgg122
  z32 := Tryz.sizeOf122
  v32 := Tryz.zeroValue122
  t35 := Tryz.underlying162
  a35 := Tryz.isAgg162
  z35 := Tryz.sizeOf162
  v35 := Tryz.zeroValue162
  t36 := Tryz.underlying163
  a36 := Tryz.isAgg163
  z36 := Tryz.sizeOf163
  v36 := Tryz.zeroValue163
  t41 := Tryz.underlying126
  a41 := Tryz.isAgg126
  z41 := Tryz.sizeOf126
  v41 := Tryz.zeroValue126
  t44 := Tryz.underlying145
  a44 := Tryz.isAgg145
  z44 := Tryz.sizeOf145
  v44 := Tryz.zeroValue145
  t46 := Tryz.underlying76
  a46 := Tryz.isAgg76
  z46 := Tryz.sizeOf76
  v46 := Tryz.zeroValue76
  t53 := Tryz.underlying191
  a53 := Tryz.isAgg191
  z53 := Tryz.sizeOf191
  v53 := Tryz.zeroValue191
  t57 := Tryz.underlying195
  a57 := Tryz.isAgg195
  z57 := Tryz.sizeOf195
  v57 := Tryz.zeroValue195
  t63 := Tryz.underlying209
  a63 := Tryz.isAgg209
  z63 := Tryz.sizeOf209
  v63 := Tryz.zeroValue209
  t64 := Tryz.underlying210
  a64 := Tryz.isAgg210
  z64 := Tryz.sizeOf210
  v64 := Tryz.zeroValue210 }
end Go.Proofs
namespace Go.Rv
open Go.Sort Go.RowKit Go.Proofs
def StrSortSays (P : Program) (f : Nat) : Prop :=
 (∀ (blk off cap : Nat) (ss : List (List UInt8)) (w : World), Holds encStr w blk off ss.toArray -> blk < w.heap.size -> ss.length < 4611686018427387904 ->
  Calls P f #[.slice (some ⟨blk, off, none⟩) ss.length cap] w fun e w' => e = .returned (.tuple #[]) /\ ∃ n os, w' = grow (putRow encStr (Sort.ahead w n) blk off (ss.mergeSort fun x y => decide (x <= y)).toArray) os) /\
 ∀ (p : Option Addr) (cap : Nat) (w : World), Calls P f #[.slice p 0 cap] w fun e w' => e = .returned (.tuple #[]) /\ w' = w
section
variable {P : Program} {s : Sim} {h : Heap} {w : World}
theorem sortStr_ok {f : Nat} (hS : StrSortSays P f) {args : List AV} {res : CRes} {h' : Heap} (hp : sortStr args h = some (res, h')) {vs : List Value} (R : Rel s h w) (H : VRs s h w args vs) : CallOk P f vs s h w res h' := by
  unfold sortStr at hp
  split at hp <;> first | cases hp | skip
  · rename_i z r
    obtain ⟨v0, hvs0⟩ := List.length_eq_one_iff.1 (show vs.length = 1 by rw [← H.1]; rfl)
    subst hvs0
    obtain ⟨v1, hv1, hvr⟩ := H.2 0 _ rfl
    have hv1 : v0 = v1 := by simpa using hv1
    subst hv1
    have key : ∀ p cap, v0 = .slice p 0 cap -> CallOk P f [v0] s h w (.ret (.tup [])) h := by
      rintro p cap rfl
      refine Calls.mono (hS.2 p cap w) fun e w' he => ?_
      obtain ⟨rfl, rfl⟩ := he
      exact ⟨s, Ext.refl _ _ _, R, .tup [] #[] rfl fun i c hi => by simp at hi⟩
    cases hvr with
    | lstNil => exact key _ _ rfl
    | lstEmpty => exact key _ _ rfl
    | lst => exact key _ _ rfl
  · rename_i o len g cap
    obtain ⟨cs, hcs, hp⟩ := qAc.1 hp
    split at hp <;> first | cases hp | skip
    rename_i hlen
    obtain ⟨hlen, hmax⟩ := hlen
    obtain ⟨ss, hss, hp⟩ := qAl.1 hp
    simp only [qAg] at hp
    obtain ⟨rfl, rfl⟩ := hp
    have hcsm := strsOf_eq hss
    subst hcsm
    simp only [qBn] at hlen
    have hsl : (sortedS ss).length = ss.length := (sortedS_perm ss).length_eq
    obtain ⟨v0, hvs0⟩ := List.length_eq_one_iff.1 (show vs.length = 1 by rw [← H.1]; rfl)
    subst hvs0
    obtain ⟨v1, hv1, hvr⟩ := H.2 0 _ rfl
    have hv1 : v0 = v1 := by simpa using hv1
    subst hv1
    have hgo := genOf_obj hcs
    cases hvr with
    | mslOld _ _ _ _ _ _ g' a n c k1 k2 => have := hgo.1; rw [this] at k1; injection k1; omega
    | msl _ _ _ _ _ _ b c el n off' hoff hg hb hle hcap hnone hsh hn =>
      by_cases h0 : ss.length = 0
      · have hs0 : ss = [] := List.length_eq_zero_iff.1 h0
        subst hs0
        simp only [List.length_nil] at hlen
        subst hlen
        have hset : h.set o (.cells ((sortedS []).map AV.str) g) = h := by
          have hx := hgo.2.1
          simp only [List.map_nil] at hx
          apply qBk
          intro i
          by_cases hi : o = i
          · subst hi
            rw [qAz (qAu.1 hx).1, hx]
            simp [sortedS]
          · rw [qAw hi]
        rw [hset]
        refine Calls.mono (hS.2 _ _ w) fun e w' he => ?_
        obtain ⟨rfl, rfl⟩ := he
        exact ⟨s, Ext.refl _ _ _, R, .tup [] #[] rfl fun i c hi => by simp at hi⟩
      · have hoff0 : off' = 0 := by rcases hoff with h1 | h1 <;> omega
        subst hoff0
        obtain ⟨x, hx, hr⟩ := R.obj o b hb
        have hobj := hgo.2.1
        rw [hobj] at hx
        injection hx with hx; subst hx
        obtain ⟨bc, el', hheap, hsz, hcell⟩ := hr
        simp only [qBn] at hsz
        have hbl : b < w.heap.size := R.lt hb
        have hcs' : ∀ j, j < ss.length -> bc[j]? = some (encStr ss[j]!) := by
          intro j hj
          obtain ⟨v, hv, hvr⟩ := hcell j (.str ss[j]) (by simp [hj])
          cases hvr
          rw [hv, getElem!_pos ss j hj]
        have hH : Holds encStr w b 0 ss.toArray := by
          intro j hj
          simp only [List.size_toArray] at hj
          constructor
          · unfold World.cell?
            simp only [hheap, Option.isSome_none, qAb, if_false, qBg]
            rw [hcs' j hj]; simp
          · unfold World.frozen?
            simp only [hheap]
            simp
        have hlt62 : ss.length < 4611686018427387904 := by omega
        have hcall := hS.1 b 0 c ss w hH hbl hlt62
        rw [hlen] at hcall
        refine Calls.mono hcall fun e w' he => ?_
        obtain ⟨rfl, nn, os, rfl⟩ := he
        have hput : (grow (putRow encStr (Sort.ahead w nn) b 0 (ss.mergeSort fun x y => decide (x <= y)).toArray) os).heap[b]? = some (.cells (putCells encStr 0 (sortedS ss).toArray bc) el' (0, 0)) := by
          rw [heap_grow_old _ _ (by simpa [putRow, mapBlock, Sort.ahead] using hbl)]
          simp only [putRow, mapBlock, Sort.ahead, ← sortedS_eq, Array.getElem?_modify, if_true, hheap, qAo, onCells]
        have hfar : ∀ k, k < w.heap.size -> k ≠ b -> (grow (putRow encStr (Sort.ahead w nn) b 0 (ss.mergeSort fun x y => decide (x <= y)).toArray) os).heap[k]? = w.heap[k]? := by
          intro k hk hne
          rw [heap_grow_old _ _ (by simpa [putRow, mapBlock, Sort.ahead] using hk)]
          simp only [putRow, mapBlock, Sort.ahead, Array.getElem?_modify, if_neg (Ne.symm hne)]
        have W : Wrote w (grow (putRow encStr (Sort.ahead w nn) b 0 (ss.mergeSort fun x y => decide (x <= y)).toArray) os) b :=
          { size := by simp [putRow, mapBlock, Sort.ahead]
            far := hfar
            shape := fun k x hx => by
              by_cases e : k = b
              · subst e
                unfold World.shape? at *
                rw [hput]
                rw [hheap] at hx
                simpa [putCells] using hx
              · rw [shape_of (hfar k (shape_lt hx) e)]; exact hx
            os := rfl
            tape := rfl
            output := rfl }
        have hs : s.add o b = s := by
          unfold Sim.add
          cases s with
          | mk μ I G =>
            congr 1
            funext k
            by_cases e : k = o
            · subst e; simp [show μ k = some b from hb]
            · simp [e]
        have key := write_cells R (b' := b) (g' := g) (cs' := (sortedS ss).map AV.str) hb hobj (qAr _) (fun _ => by simp [hsl]) (.inl rfl) W hput (by simp [putCells, hsl]; omega) (fun i x hi => by
          rw [qBc] at hi
          obtain ⟨t, ht, rfl⟩ := qAl.1 hi
          have hil : i < (sortedS ss).length := (qAu.1 ht).1
          have hib : i < bc.size := by omega
          refine ⟨encStr t, ?_, .str t⟩
          simp only [putCells, Array.getElem?_mapIdx]
          rw [Array.getElem?_eq_getElem hib]
          have hg : (sortedS ss)[i] = t := by
            have := (qAu.1 ht).2; exact this
          simp [hil, hg])
        rw [hs] at key
        exact ⟨s, key.1, key.2, .tup [] #[] rfl fun i c hi => by simp at hi⟩
end
end Go.Rv
namespace Go.Proofs.Sx
open Go.Rv Go.Proofs
theorem strSays : StrSortSays Tryz.prog 56 :=
 ⟨fun blk off cap ss w hH hb hs => AnyM.slices_Sort_string Tryz.sortT blk off cap ss w hH hb hs, fun p cap w => AnyM.slices_Sort_string_none Tryz.sortT p cap w⟩
theorem sortedKeys_heap {clo : Nat} {args : List AV} {h : Heap} {v : AV} {h' : Heap} (hc : sortedKeys clo args h = some (.ret v, h')) : h' = h := by
 unfold sortedKeys at hc
 split at hc <;> first | cases hc | skip
 split at hc <;> first | cases hc | skip
 obtain ⟨cs, _, hc⟩ := qAc.1 hc
 split at hc <;> first | cases hc | skip
 obtain ⟨es, _, hc⟩ := qAc.1 hc
 obtain ⟨ks, _, hc⟩ := qAc.1 hc
 split at hc <;> cases hc
 rfl
theorem sx_prim : PrimOk Tryz.prog cfg := fun f p hp => by
 have hp : prm f = some p := hp
 unfold prm at hp
 split at hp
 ·injection hp with hp; subst hp
  refine ⟨⟨_, _, Tryz.func66, rfl, by kernel_rfl⟩, fun _ args h v h' hc => ?_, fun args h res h' hc s w vs R G H => (sortedKeys_ok Tryz.sortedSays (by kernel_rfl) hc R H).2⟩
  exact sortedKeys_heap hc
 ·injection hp with hp; subst hp
  refine ⟨⟨_, _, Tryz.func56, rfl, by kernel_rfl⟩, fun hpure => ?_, fun args h res h' hc s w vs R G H => sortStr_ok strSays hc R H⟩
  exact absurd hpure (by decide)
 ·cases hp
end Go.Proofs.Sx
namespace Go.Proofs.Sx
open Go.Rv Go.Proofs Go.Proofs.YthljjckomhnhoaaGreatDoor Go.ChangeShapes Go.WideShapes Go.ChangeAt Go.RowKit
noncomputable section
def lawLaid : List (String × DataW Unit) := Rows.callsRunsUptoRow.laid
theorem lawOwn : ownKnob Tryz.prog.godebug = none := by kernel_rfl
theorem sx_close : ∀ g v, told.glob g = some v -> ∀ h, freezeV h 0 40 v = some v := fun g v hg h => by
 have hg : glb g = some v := hg
 unfold glb at hg
 split at hg
 ·injection hg with hg; subst hg; exact congrFun (show (fun h => freezeV h 0 40 (.ref wordCells)) = (fun h => some (.ref wordCells)) by kernel_rfl) h
 ·injection hg with hg; subst hg; exact congrFun (show (fun h => freezeV h 0 40 (.ref opCells)) = (fun h => some (.ref opCells)) by kernel_rfl) h
 ·cases hg
theorem sx_glob {w : World} (hL : laidMetH Tryz.prog lawLaid w) : ∀ g v, told.glob g = some v -> v ≠ .junk /\ VR (old w) [] w v (.pointer (some ⟨g, 0, none⟩)) := fun g v hg => by
 have hg : glb g = some v := hg
 rw [MakeChecks.laidMetH_plain _ _ _ (by kernel_rfl)] at hL
 obtain ⟨ps, ⟨_, _, _, _, _, _, _, _, _, _, ⟨g1, t1, cs1, fuel1, p1, q1, hg1, ht1, hv1, hd1, ⟨g2, t2, cs2, fuel2, p2, q2, hg2, ht2, hv2, hd2, _, _⟩, _⟩, _⟩, _, _⟩ := hL
 unfold glb at hg
 split at hg
 ·injection hg with hg; subst hg
  obtain rfl := Option.some.inj ((show Tryz.prog.globalNamed (lawLaid.getD 1 default).1 = some 0 by kernel_rfl).symm.trans hg1)
  have := ht1
  exact glob_rel hg1 hv1 hd1 (by obtain rfl := Option.some.inj (ht1.symm.trans (show (Tryz.prog.globals[0]?).map (·.type) = some 132 by kernel_rfl)); kernel_rfl)
 ·injection hg with hg; subst hg
  obtain rfl := Option.some.inj ((show Tryz.prog.globalNamed (lawLaid.getD 2 default).1 = some 1 by kernel_rfl).symm.trans hg2)
  exact glob_rel hg2 hv2 hd2 (by obtain rfl := Option.some.inj (ht2.symm.trans (show (Tryz.prog.globals[1]?).map (·.type) = some 179 by kernel_rfl)); kernel_rfl)
 ·cases hg
def lawWorld (os : Os) : World := World.laidAll Tryz.prog os lawLaid
theorem law_met (os : Os) (args : Array Value) : laidMet Tryz.prog lawLaid ((lawWorld os).forCall (fun _ _ => 0) ⟨#[], args, []⟩).memory := laidMet_laidAll args (by kernel_rfl) (by kernel_rfl)
def noProg : Value := .agg #[.slice none 0 0, .slice none 0 0, .slice none 0 0]
theorem stays {H : Type} {enc : TypeId × Value -> H} {W W' : World} {v : Value} {d : DataW H} {ps : List MemPlace} {sp : Nat -> Bool} (h : DataW.Trod enc Tryz.prog W 0 (fun _ => true) true 26 v d ps) (hb : Below W.heap.size W W') (hlt : ∀ x ∈ ps, x.block < W.heap.size) (hsp : ∀ x ∈ ps, sp x.block = true) :
  DataW.Trod enc Tryz.prog W' 0 sp true 26 v d ps := WideElems.Trod_stays (by kernel_rfl) (by kernel_rfl) (by show 26 < Tryz.prog.types.size; decide +kernel) h (fun x hx => hb.same (hlt x hx)) hsp
end
end Go.Proofs.Sx
namespace Go.Rv
def mapE (l : List (Int × Int)) : List (AV × AV) := l.map fun p => (.int .i64 p.1, .int .i64 p.2)
def pget (k : Int) : List (Int × Int) -> Option Int
 | [] => none
 | (a, c) :: r => if k = a then some c else pget k r
def pput (k c : Int) : List (Int × Int) -> List (Int × Int)
 | [] => [(k, c)]
 | (a, d) :: r => if k = a then (a, c) :: r else (a, d) :: pput k c r
theorem findA_mapE (k : Int) : ∀ l, findA (.int .i64 k) (mapE l) = some ((pget k l).map (AV.int .i64))
 | [] => rfl
 | (a, c) :: r => by
  have ih := findA_mapE k r
  simp only [mapE] at ih
  simp only [mapE, qAm, findA, sameK, sameKey, beq_self_eq_true, if_true, qAd, qAe, ih, pget]
  by_cases h : k = a
  ·subst h; simp
  ·simp [h]
theorem putA_mapE (k c : Int) : ∀ l, putA (.int .i64 k) (.int .i64 c) (mapE l) = some (mapE (pput k c l))
 | [] => rfl
 | (a, d) :: r => by
  have ih := putA_mapE k c r
  simp only [mapE] at ih
  simp only [mapE, qAm, putA, sameK, sameKey, beq_self_eq_true, if_true, qAd, qAe, ih, pput]
  by_cases h : k = a
  ·subst h; simp
  ·simp [h]
theorem pput_keys (k c : Int) : ∀ l, (pput k c l).map (·.1) = if k ∈ l.map (·.1) then l.map (·.1) else l.map (·.1) ++ [k]
 | [] => by simp [pput]
 | (a, d) :: r => by
  have ih := pput_keys k c r
  simp only [pput]
  by_cases h : k = a
  ·subst h; simp
  ·simp only [h, if_false, qAm, ih, qAj, false_or]
   split <;> simp
theorem pget_none {k : Int} : ∀ {l}, pget k l = none ↔ k ∉ l.map (·.1)
 | [] => by simp [pget]
 | (a, d) :: r => by
  have ih := pget_none (k := k) (l := r)
  simp only [pget]
  by_cases h : k = a
  ·subst h; simp
  ·simp only [h, if_false, ih, qAm, qAj, false_or]
theorem pget_mem {k c : Int} : ∀ {l}, pget k l = some c -> (k, c) ∈ l
 | [], h => by simp [pget] at h
 | (a, d) :: r, h => by
  simp only [pget] at h
  split at h
  ·rename_i he
   simp only [qAf] at h
   subst he h; simp
  ·exact qAk _ (pget_mem h)
theorem pput_mem {k c : Int} : ∀ {l} {p : Int × Int}, p ∈ pput k c l -> p = (k, c) ∨ p ∈ l
 | [], p, h => by simpa [pput] using h
 | (a, d) :: r, p, h => by
  simp only [pput] at h
  split at h
  ·rename_i he
   subst he
   rcases qAj.1 h with rfl | h
   ·exact .inl rfl
   ·exact .inr (qAk _ h)
  ·rcases qAj.1 h with rfl | h
   ·exact .inr (qAi ..)
   ·rcases pput_mem h with h | h
    ·exact .inl h
    ·exact .inr (qAk _ h)
theorem keysI_mapE : ∀ {l : List (Int × Int)}, (∀ k ∈ l.map (·.1), (Lit.int .i64 k).wf = true) -> keysI (mapE l) = some (l.map (·.1))
 | [], _ => rfl
 | (a, d) :: r, h => by
  have ih := keysI_mapE (l := r) (fun k hk => h k (by simp at hk ⊢; exact .inr hk))
  have ha := h a (by simp)
  simp only [mapE] at ih
  simp only [mapE, qAm, keysI, beq_self_eq_true, Bool.true_and, ha, if_true, ih, qAo]
theorem mapAt_left {h : Heap} (X : Heap) {o : Nat} (ho : o < h.length) : Heap.mapAt (h ++ X) o = Heap.mapAt h o := by
 unfold Heap.mapAt; rw [qAx ho]
theorem mapAt_set {h : Heap} {o : Nat} (es : List (AV × AV)) (ho : o < h.length) : Heap.mapAt (h.set o (.map es)) o = some es := by
 simp [Heap.mapAt, qAz ho]
theorem mapAt_lt {h : Heap} {o : Nat} {es : List (AV × AV)} (H : h.mapAt o = some es) : o < h.length := by
 unfold Heap.mapAt at H
 split at H
 ·rename_i hx
  exact (qAu.1 hx).1
 ·cases H
theorem keysOut_eq (l : List Int) : keysOut l = .lst (l.map (AV.int .i64)) 1 (if l = [] then .nil else .open) := by
 cases l <;> rfl
theorem ents_map (h : Heap) (o : Nat) : Heap.ents h (.map o) = h.mapAt o := rfl
theorem pget_pput (k c : Int) : ∀ l, pget k (pput k c l) = some c
 | [] => by simp [pput, pget]
 | (a, d) :: r => by
  simp only [pput]
  split
  ·rename_i h; subst h; simp [pget]
  ·rename_i h; simp [pget, h, pget_pput k c r]
theorem pget_some {k : Int} {l : List (Int × Int)} (h : k ∈ l.map (·.1)) : ∃ c, pget k l = some c /\ (k, c) ∈ l := by
 cases hg : pget k l with
 | none => exact absurd h (pget_none.1 hg)
 | some c => exact ⟨c, rfl, pget_mem hg⟩
end Go.Rv
namespace Go.Proofs.Sx
open Go.Rv Go.Proofs
attribute [local congr] bind_left got_left
noncomputable section
def outL (l : List Int) : AV := .lst (intL l) 1 (if l = [] then .nil else .open)
theorem call_sortedI (args : List AV) (h : Heap) : call cfg 66 args h = sortedKeys 98 args h := call_prim _ _ args _ rfl
theorem pu38 : cfg.pure 38 = true := rfl
instance t38 {d : Option Nat} : TightD cfg 38 d := ⟨fun _ _ => rfl⟩
def B38 (p : List Bool) := cA p Tryz.f38.body
def R38 (p : List Bool) (i : Nat) := Code.region i (cA p Tryz.f38.body) false
theorem F38 : (∀ p i, XR cfg 38 (R38 p i) (B38 p) (cA p Tryz.f38.body).toList i false) /\ RE cfg 38 [0, 2] /\ cfg.pure 38 = true := ⟨fun _ _ => xr rfl rfl, rE fun _ => rfl, rfl⟩
def k38 : Code := (.seq (R38 [ff] 0) (.seq (R38 [tt, ff] 1) .ret))
theorem call38 (x0 : AV) (h : Heap) : call cfg 38 [x0] h = (exec cfg 38 k38 [(0, x0)] h).bind (callEnd cfg 38 h [.tmp 2]) := call_at2 (fnat Tryz.func38 (b := k38) (by kernel_rfl) (by kernel_rfl)) rfl rfl
instance t67 {d : Option Nat} : TightD cfg 67 d := ⟨fun _ _ => rfl⟩
def B67 (p : List Bool) := cA p Tryz.f67.body
def R67 (p : List Bool) (i : Nat) := Code.region i (cA p Tryz.f67.body) false
theorem F67 : (∀ p i, XR cfg 67 (R67 p i) (B67 p) (cA p Tryz.f67.body).toList i false) /\ cfg.imm 67 1 = false /\ RE cfg 67 [0, 1, 2] /\ cfg.pure 67 = false := ⟨fun _ _ => xr rfl rfl, by kernel_rfl, rE fun _ => rfl, rfl⟩
def k67 : Code := (.seq (R67 [ff] 0) (.seq (R67 [tt, ff] 1) .ret))
theorem call67 (x0 : AV) (h : Heap) : call cfg 67 [x0] h = (exec cfg 67 k67 [(0, x0)] h).bind (callEnd cfg 67 h [.tmp 2]) := call_at2 (fnat Tryz.func67 (b := k67) (by kernel_rfl) (by kernel_rfl)) rfl rfl
theorem rising_eq (H : Heap) (m : Nat) (l : List (Int × Int)) (hm : H.mapAt m = some (mapE l)) (hw : ∀ k ∈ l.map (·.1), (Lit.int .i64 k).wf = true) (hl : l.length <= 1000000) :
  call cfg 38 [.map m] H = some (.ret (outL (isort (l.map (·.1)))), H) := by
 have hk : call cfg 67 [.map m] H = some (.ret (.clo 98 [.ptr H.length 0 0]), H ++ [.cells [.map m] 0]) := by
  rw [call67]
  simp only [F67, k67, Tryz.f67, sxAll, cA, Env.keep, resultsA, packA, mapO, ↓qAe, Nat.reduceBEq, Nat.reduceAdd, ↓reduceIte, ty87, known_map, cells_map]
  exact leave_impure rfl
 have hs : call cfg 66 [.clo 98 [.ptr H.length 0 0]] (H ++ [.cells [.map m] 0]) = some (.ret (outL (isort (l.map (·.1)))), H ++ [.cells [.map m] 0]) := by
  rw [call_sortedI]
  have hm' : Heap.mapAt (H ++ [.cells [.map m] 0]) m = some (mapE l) := by rw [mapAt_left _ (mapAt_lt hm), hm]
  have hlen : (mapE l).length <= 1000000 := by simpa [mapE] using hl
  simp only [sortedKeys, if_true, obj_app0, obj_zero, qAe, hm', keysI_mapE hw, hlen, keysOut_eq]
  rfl
 have hfz : freezeV (H ++ [.cells [.map m] 0]) H.length 40 (outL (isort (l.map (·.1)))) = some (outL (isort (l.map (·.1)))) := freeze_lint _ _ 38 _ _ _
 have hkn : known (outL (isort (l.map (·.1)))) = some (outL (isort (l.map (·.1)))) := rfl
 rw [call38]
 simp only [F38, k38, Tryz.f38, sxAll, cA, Env.keep, qt_eq, resultsA, packA, mapO, ↓qAe, Nat.reduceBEq, ↓reduceIte, known_map, hk, hs, hkn]
 exact leave_pure rfl (by simp) hfz
def addKey (ks : List Int) (n : Int) : List Int := if n ∈ ks then ks else ks ++ [n]
def calleeKeys (l : List SIns) : List Int -> List Int := fun ks => l.foldl (fun ks i => if i.op == 10 then addKey ks i.n else ks) ks
def calleesOf (f : SFun) : List Int := isort (calleeKeys f.code [])
theorem pu17 : cfg.pure 17 = true := rfl
instance t17 {d : Option Nat} : TightD cfg 17 d := ⟨fun _ _ => rfl⟩
def B17 (p : List Bool) := cA p Tryz.f17.body
def R17 (p : List Bool) (i : Nat) := Code.region i (cA p Tryz.f17.body) false
theorem F17 : (∀ p i, XR cfg 17 (R17 p i) (B17 p) (cA p Tryz.f17.body).toList i false) /\ cfg.imm 17 1 = true /\ RE cfg 17 [0, 1, 2, 3, 5, 8, 9, 10, 11, 16] /\ cfg.pure 17 = true := ⟨fun _ _ => xr rfl rfl, by kernel_rfl, rE fun _ => rfl, rfl⟩
def l17_0 : Code := (.seq (R17 [tt, tt, ff, tt, ff, ff, ff] 3) (.seq (.cond (.tmp 11) .skip (.exit 0)) (.seq (.block 1 (.seq (R17 [tt, tt, ff, tt, ff, ff, tt, tt, ff, ff, ff] 4) (.seq (R17 [tt, tt, ff, tt, ff, ff, tt, tt, ff, ff, tt, ff] 5) (.cond (.tmp 16) (R17 [tt, tt, ff, tt, ff, ff, tt, tt, ff, ff, tt, tt, ff] 6) .skip)))) (R17 [tt, tt, ff, tt, ff, ff, tt, tt, tt] 7))))
def k17 : Code := (.seq (R17 [ff] 0) (.seq (R17 [tt, ff] 1) (.seq (.seq (R17 [tt, tt, ff, ff] 2) (.block 0 (.loop l17_0))) (.seq (R17 [tt, tt, tt, ff] 8) .ret))))
theorem call17 (x0 : AV) (h : Heap) : call cfg 17 [x0] h = (exec cfg 17 k17 [(0, x0)] h).bind (callEnd cfg 17 h [.tmp 2]) := call_at2 (fnat Tryz.func17 (b := k17) (by kernel_rfl) (by kernel_rfl)) rfl rfl
theorem callees_loop (l : List SIns) (hn : l.length < 100000000) (m : Nat) (h0 : Heap) (z : Nat) (r : Room) : ∀ (ys : List SIns) (i : Nat), l.drop i = ys -> i <= l.length -> ∀ (es : List (Int × Int)) H, H.mapAt m = some (mapE es) -> m <= H.length -> H.take m = h0 -> ∀ a b c e f g,
  Got (exec cfg 17 (.loop l17_0) [(0, a), (1, b), (2, c), (3, .map m), (5, e), (8, .lst (codeL l) z r), (9, .int .i64 l.length), (10, .int .i64 i), (11, f), (16, g)] H)
   (fun q => q.1 = .exit 0 /\ q.2.1.get 3 = .map m /\ q.2.2.take m = h0 /\ ∃ es', q.2.2.mapAt m = some (mapE es') /\ es'.map (·.1) = calleeKeys ys (es.map (·.1))) := by
 intro ys
 induction ys with
 | nil =>
  intro i hd hi es H hm hle htk a b c e f g
  rw [got_loop]
  simp only [l17_0, F17, Tryz.f17, sxAll, cA, arithA, Env.keep, ↓qAe, Nat.reduceBEq, ↓reduceIte, at_end hd]
  exact ⟨trivial, trivial, htk, es, hm, rfl⟩
 | cons y s ih =>
  intro i hd hi es H hm hle htk a b c e f g
  obtain ⟨hlt, hget, hd'⟩ := at_drop hd
  have hx := codeL_get hget
  have hlt' : i < l.length := by simpa using hlt
  have hw := wrap_succ (i := i) (by omega)
  have hmlt := mapAt_lt hm
  rw [got_loop]
  cases ho : y.op == 10 with
  | true =>
   have hm1 : Heap.mapAt (H ++ [.cells y.cells 0]) m = some (mapE es) := by rw [mapAt_left _ hmlt, hm]
   obtain ⟨c1, hc1⟩ : ∃ c1, IntKind.i64.wrap (((pget y.n es).getD 0) + 1) = c1 := ⟨_, rfl⟩
   have hlook : lookupA cfg (H ++ [.cells y.cells 0]) 87 (.map m) (.int .i64 y.n) false = some (.int .i64 ((pget y.n es).getD 0)) := by
    simp only [lookupA, ty87, ty3, keyTd, Bool.not_true, qAb, if_false, ents_map, hm1, findA_mapE, qAd, qAe, Rv.part, TD.isAgg, List.head?_cons]
    cases pget y.n es <;> rfl
   have hupd : updateA cfg (H ++ [.cells y.cells 0]) 87 (.map m) (.int .i64 y.n) (.int .i64 c1) = some ((H ++ [AObj.cells y.cells 0]).set m (.map (mapE (pput y.n c1 es)))) := by
    simp only [updateA, ty87, ty3, keyTd, Bool.not_true, qAb, if_false, hm1, putA_mapE, qAd, qAe]
   have hkeys : calleeKeys (y :: s) (es.map (·.1)) = calleeKeys s ((pput y.n c1 es).map (·.1)) := by
    simp only [calleeKeys, List.foldl_cons, ho, if_true, pput_keys, addKey]
   have := ih (i + 1) hd' (by omega) (pput y.n c1 es) ((H ++ [AObj.cells y.cells 0]).set m (.map (mapE (pput y.n c1 es)))) (mapAt_set _ (by simp; omega)) (by simp; omega) (by
    rw [List.take_set_of_le (qAr m), take_app _ hle, htk])
   rw [hkeys]
   simp only [SIns.cells] at hlook hupd
   simp only [l17_0] at this ⊢
   simp only [SIns.cells, F17, Tryz.f17, sxAll, cA, arithA, Env.keep, qt_eq, storeA, indexAddrA, fieldAddrA, loadA, Rv.part, cellsAt, TD.isAgg, setCells, ↓qAe, Nat.reduceBEq, Nat.reduceAdd, Nat.reduceLeDiff, ↓reduceIte, hlt, ty37, ty41, ty5, ty2, hx, hw, ho, known_map, hlook, hc1, hupd] at this ⊢
   exact this _ _ _ _ _ _
  | false =>
   have hkeys : calleeKeys (y :: s) (es.map (·.1)) = calleeKeys s (es.map (·.1)) := by
    simp only [calleeKeys, List.foldl_cons, ho, qAb, if_false]
   have := ih (i + 1) hd' (by omega) es (H ++ [.cells y.cells 0]) (by rw [mapAt_left _ hmlt, hm]) (by simp; omega) (by rw [take_app _ hle, htk])
   rw [hkeys]
   simp only [l17_0] at this ⊢
   simp only [SIns.cells, F17, Tryz.f17, sxAll, cA, arithA, Env.keep, qt_eq, storeA, indexAddrA, fieldAddrA, loadA, Rv.part, cellsAt, TD.isAgg, setCells, ↓qAe, Nat.reduceBEq, Nat.reduceAdd, Nat.reduceLeDiff, ↓reduceIte, hlt, ty37, ty41, ty5, hx, hw, ho] at this ⊢
   exact this _ _ _ _ _ _
theorem calleeKeys_wf {P : Int -> Prop} : ∀ (l : List SIns) (ks : List Int), (∀ i ∈ l, i.op = 10 -> P i.n) -> (∀ k ∈ ks, P k) -> ∀ k ∈ calleeKeys l ks, P k
 | [], ks, _, h2, k, hk => h2 k hk
 | i :: r, ks, h1, h2, k, hk => by
  have e : calleeKeys (i :: r) ks = calleeKeys r (if i.op == 10 then addKey ks i.n else ks) := rfl
  rw [e] at hk
  refine calleeKeys_wf r _ (fun j hj => h1 j (qAk _ hj)) (fun x hx => ?_) k hk
  split at hx
  ·rename_i ho
   unfold addKey at hx
   split at hx
   ·exact h2 x hx
   ·rcases qAp.1 hx with hx | hx
    ·exact h2 x hx
    ·rw [qAn.1 hx]
     exact h1 i (qAi ..) (by simpa using ho)
  ·exact h2 x hx
theorem calleeKeys_len : ∀ (l : List SIns) (ks : List Int), (calleeKeys l ks).length <= ks.length + l.length
 | [], ks => qAr _
 | i :: r, ks => by
  have e : calleeKeys (i :: r) ks = calleeKeys r (if i.op == 10 then addKey ks i.n else ks) := rfl
  rw [e]
  have := calleeKeys_len r (if i.op == 10 then addKey ks i.n else ks)
  have h2 : (if i.op == 10 then addKey ks i.n else ks).length <= ks.length + 1 := by
   split
   ·unfold addKey; split <;> simp
   ·omega
  simp only [qAv]; omega
theorem callees_eq (f : SFun) (h : Heap) (hf : f.code.length <= 1000000) (hw : ∀ i ∈ f.code, i.op = 10 -> (Lit.int .i64 i.n).wf = true) : call cfg 17 [.agg f.cells] h = some (.ret (outL (calleesOf f)), h) := by
 obtain ⟨⟨o, e', H'⟩, hx, ho, h3, htk, es', hm, hkeys⟩ := callees_loop f.code (by omega) h.length h f.cz f.room f.code 0 (by simp) (by omega) [] (h ++ [.map []]) (by simp [Heap.mapAt, mapE]) (by simp) (by simp) (.agg f.cells) (.ref f.cells) (.lst [] 0 .nil) .junk .junk .junk
 simp only [qBo, List.map_nil] at hx ho h3 htk hm hkeys
 subst ho
 have hlen := calleeKeys_len f.code []
 simp only [List.length_nil, qBg] at hlen
 have hr := rising_eq H' h.length es' hm (by rw [hkeys]; exact calleeKeys_wf f.code [] hw (fun k hk => by simp at hk)) (by
  have := congrArg List.length hkeys
  simp at this; omega)
 rw [hkeys] at hr
 rw [call17]
 have hkn : known (outL (isort (calleeKeys f.code []))) = some (outL (isort (calleeKeys f.code []))) := rfl
 simp only [SFun.cells] at hx
 simp only [SFun.cells, F17, k17, Tryz.f17, sxAll, cA, Env.keep, qt_eq, resultsA, packA, fieldAddrA, loadA, Rv.part, cellsAt, TD.isAgg, lenA, mapO, ↓qAe, Nat.reduceBEq, Nat.reduceAdd, ↓reduceIte, ty39, ty37, ty87, codeL_len, hx, h3, known_map, pu38, hr, hkn]
 exact leave_pure rfl htk (freeze_lint _ _ 38 _ _ _)
end
end Go.Proofs.Sx
namespace Go.Proofs.Sx
open Go.Rv Go.Proofs Go.Maps Go.RowKit
attribute [local congr] bind_left got_left
noncomputable section
def csOf (CS : List (List Int)) (k : Int) : List Int := CS.getD k.toNat []
inductive Rch (CS : List (List Int)) : Int -> Int -> Prop
 | one {k j : Int} : j ∈ csOf CS k -> Rch CS k j
 | step {k j x : Int} : j ∈ csOf CS k -> Rch CS j x -> Rch CS k x
theorem Rch.trans {CS : List (List Int)} {a b c : Int} (h : Rch CS a b) (k : Rch CS b c) : Rch CS a c := by
 induction h with
 | one h => exact .step h k
 | step h _ ih => exact .step h (ih k)
def kys (es : List (Int × Int)) : List Int := es.map (·.1)
structure Went (CS : List (List Int)) (N : Nat) (k : Int) (es0 es : List (Int × Int)) (B : Nat) (done : List Int) : Prop where
 pre : ∀ x ∈ kys es0, x ∈ kys es
 len : (kys es0).length <= (kys es).length
 nd : (kys es).Nodup
 rng : ∀ x ∈ kys es, 0 <= x /\ x < N
 cnt : ∀ p ∈ es, 1 <= p.2 /\ p.2 <= B
 all : ∀ j ∈ done, j ∈ kys es
 new : ∀ x ∈ kys es, x ∈ kys es0 ∨ (Rch CS k x /\ ∀ j ∈ csOf CS x, j ∈ kys es)
theorem nodup_lenN : ∀ (N : Nat) (l : List Nat), l.Nodup -> (∀ x ∈ l, x < N) -> l.length <= N
 | 0, l, _, h => by
  cases l with
  | nil => simp
  | cons a r => exact absurd (h a (by simp)) (by omega)
 | N + 1, l, hn, h => by
  have h1 := nodup_lenN N (l.erase N) (hn.erase N) (fun x hx => by
   have := (hn.mem_erase_iff).1 hx
   have := h x this.2
   omega)
  have h2 : l.length <= (l.erase N).length + 1 := by
   rw [List.length_erase]; split <;> omega
  omega
theorem nodup_len {l : List Int} {N : Nat} (h : l.Nodup) (hr : ∀ x ∈ l, 0 <= x /\ x < N) : l.length <= N := by
 have h1 : (l.map Int.toNat).Nodup := by
  rw [List.nodup_iff_pairwise_ne] at *
  rw [List.pairwise_map]
  refine h.imp_of_mem ?_
  intro a b ha hb hab hc
  have := hr a ha; have := hr b hb
  exact hab (by omega)
 have := nodup_lenN N _ h1 (fun x hx => by
  obtain ⟨y, hy, rfl⟩ := qBl.1 hx
  have := hr y hy
  omega)
 simpa using this
variable (CS : List (List Int)) (N : Nat) (hN : CS.length = N) (h : Heap) (v : AV) (cr : List AV)
def memR (h : Heap) (v : AV) (cr : List AV) (es : List (Int × Int)) : Heap :=
 h ++ [.map (mapE es), .cells [.map h.length] 0, .cells [.clo 39 [.ref (v :: cr), .ptr (h.length + 1) 0 0, .ptr (h.length + 2) 0 0]] 0]
instance t39 {d : Option Nat} : TightD cfg 39 d := ⟨fun _ _ => rfl⟩
def B39 (p : List Bool) := cA p Tryz.f39.body
def R39 (p : List Bool) (i : Nat) := Code.region i (cA p Tryz.f39.body) false
theorem F39 : (∀ p i, XR cfg 39 (R39 p i) (B39 p) (cA p Tryz.f39.body).toList i false) /\ RE cfg 39 [0, 1, 2, 3, 6, 11, 12, 13, 14, 24] /\ cfg.pure 39 = false := ⟨fun _ _ => xr rfl rfl, rE fun _ => rfl, rfl⟩
def l39_0 : Code := (.seq (R39 [tt, ff, ff, ff] 1) (.seq (.cond (.tmp 14) .skip (.exit 0)) (.seq (.block 1 (.seq (R39 [tt, ff, ff, tt, tt, ff, ff, ff] 2) (.seq (R39 [tt, ff, ff, tt, tt, ff, ff, tt, ff] 3) (.seq (R39 [tt, ff, ff, tt, tt, ff, ff, tt, tt, ff] 4) (.cond (.tmp 24) (R39 [tt, ff, ff, tt, tt, ff, ff, tt, tt, tt, ff] 5) .skip))))) (R39 [tt, ff, ff, tt, tt, tt] 6))))
def k39 : Code := (.seq (R39 [ff] 0) (.block 0 (.loop l39_0)))
theorem call39 (x0 x1 x2 x3 : AV) (h : Heap) : call cfg 39 [x0, x1, x2, x3] h = (exec cfg 39 k39 [(0, x0), (1, x1), (2, x2), (3, x3)] h).bind (callEnd cfg 39 h []) := call_at2 (fnat Tryz.func39 (b := k39) (by kernel_rfl) (by kernel_rfl)) rfl rfl
theorem pu19 : cfg.pure 19 = true := rfl
instance t19 {d : Option Nat} : TightD cfg 19 d := ⟨fun _ _ => rfl⟩
def B19 (p : List Bool) := cA p Tryz.f19.body
def R19 (p : List Bool) (i : Nat) := Code.region i (cA p Tryz.f19.body) false
theorem F19 : (∀ p i, XR cfg 19 (R19 p i) (B19 p) (cA p Tryz.f19.body).toList i false) /\ cfg.imm 19 2 = true /\ RE cfg 19 [0, 1, 2, 4, 5, 6] /\ cfg.pure 19 = true := ⟨fun _ _ => xr rfl rfl, by kernel_rfl, rE fun _ => rfl, rfl⟩
def k19 : Code := (.seq (R19 [ff] 0) (.seq (R19 [tt, ff] 1) (.seq (R19 [tt, tt, ff] 2) (.seq (R19 [tt, tt, tt, ff] 3) (.seq (R19 [tt, tt, tt, tt, ff] 4) (.seq (R19 [tt, tt, tt, tt, tt, ff] 5) .ret))))))
theorem call19 (x0 x1 : AV) (h : Heap) : call cfg 19 [x0, x1] h = (exec cfg 19 k19 [(0, x0), (1, x1)] h).bind (callEnd cfg 19 h [.tmp 4]) := call_at2 (fnat Tryz.func19 (b := k19) (by kernel_rfl) (by kernel_rfl)) rfl rfl
theorem memR_map (es : List (Int × Int)) : (memR h v cr es).mapAt h.length = some (mapE es) := by simp [memR, Heap.mapAt]
theorem memR_set (es es' : List (Int × Int)) : (memR h v cr es).set h.length (.map (mapE es')) = memR h v cr es' := by simp [memR]
theorem memR_t2 (es : List (Int × Int)) : (memR h v cr es).obj (h.length + 1) 0 = some [.map h.length] := by simp [memR, Heap.obj]
theorem memR_t3 (es : List (Int × Int)) : (memR h v cr es).obj (h.length + 2) 0 = some [.clo 39 [.ref (v :: cr), .ptr (h.length + 1) 0 0, .ptr (h.length + 2) 0 0]] := by simp [memR, Heap.obj]
theorem memR_take (es : List (Int × Int)) : (memR h v cr es).take h.length = h := by simp [memR]
theorem memR_lookup (es : List (Int × Int)) (k : Int) : lookupA cfg (memR h v cr es) 87 (.map h.length) (.int .i64 k) false = some (.int .i64 ((pget k es).getD 0)) := by
 simp only [lookupA, ty87, ty3, keyTd, Bool.not_true, qAb, if_false, ents_map, memR_map, findA_mapE, qAd, qAe, Rv.part, TD.isAgg, List.head?_cons]
 cases pget k es <;> rfl
theorem memR_update (es : List (Int × Int)) (k c : Int) : updateA cfg (memR h v cr es) 87 (.map h.length) (.int .i64 k) (.int .i64 c) = some (memR h v cr (pput k c es)) := by
 simp only [updateA, ty87, ty3, keyTd, Bool.not_true, qAb, if_false, memR_map, putA_mapE, qAd, qAe, memR_set]
theorem wf_small {k : Int} (h1 : 0 <= k) (h2 : k < 4611686018427387904) : (Lit.int .i64 k).wf = true := by
 have e1 : IntKind.i64.min = -9223372036854775808 := by kernel_rfl
 have e2 : IntKind.i64.max = 9223372036854775807 := by kernel_rfl
 simp only [Lit.wf, qAa, decide_eq_true_eq, e1, e2]
 omega
theorem idx_ints (H : Heap) (xs : List Int) (z : Nat) (r : Room) (i : Nat) (x : Int) (hx : xs[i]? = some x) : indexAddrA cfg H 27 (.lst (intL xs) z r) (.int .i64 i) = some (.ref [.int .i64 x]) := by
 have h1 : (intL xs)[i]? = some (.int .i64 x) := by simp [intL, hx]
 simp [indexAddrA, ty27, ty3, h1, AV.cells]
theorem load_ints (H : Heap) (x : Int) : loadA cfg H 3 (.ref [.int .i64 x]) = some (.int .i64 x) := by
 simp [load_ref, ty3, Rv.part, TD.isAgg]
theorem kys_pput (k c : Int) (es : List (Int × Int)) : kys (pput k c es) = if k ∈ kys es then kys es else kys es ++ [k] := pput_keys k c es
include hN in
theorem come_runs (hR : ∀ H', H'.take h.length = h -> Rd cfg H' 30 27 v (CS.map outL)) (hrng : ∀ k j, j ∈ csOf CS k -> 0 <= j /\ j < (N : Int)) (hlen : ∀ l ∈ CS, l.length <= 1000) :
  ∀ (d : Nat) (es : List (Int × Int)) (kn X : Nat), (kys es).Nodup -> (∀ x ∈ kys es, 0 <= x /\ x < (N : Int)) -> N - (kys es).length <= d -> kn < N -> (∀ p ∈ es, 1 <= p.2 /\ p.2 <= (X : Int)) -> X + 1000 * (d + 2) <= 1000000000000 ->
   ∃ es', call cfg 39 [.int .i64 kn, .ref (v :: cr), .ptr (h.length + 1) 0 0, .ptr (h.length + 2) 0 0] (memR h v cr es) = some (.ret (.tup []), memR h v cr es') /\
    Went CS N kn es es' (X + 1000 * ((kys es').length - (kys es).length + 1)) (csOf CS kn) := by
 intro d
 induction d using Nat.strongRecOn with
 | ind d IH =>
  intro es kn X hnd hr hd hkn hcnt hX
  obtain ⟨l, hl⟩ : ∃ l, CS[kn]? = some l := ⟨_, qAs (by omega)⟩
  have hcs : csOf CS kn = l := by simp [csOf, hl]
  have hll : l.length <= 1000 := hlen l (qBj hl)
  have L : ∀ (ys : List Int) (i : Nat), l.drop i = ys -> i <= l.length -> ∀ es1, Went CS N kn es es1 (X + i + 1000 * ((kys es1).length - (kys es).length)) (l.take i) -> ∀ a f g,
    Got (exec cfg 39 (.loop l39_0) [(0, .int .i64 kn), (1, .ref (v :: cr)), (2, .ptr (h.length + 1) 0 0), (3, .ptr (h.length + 2) 0 0), (6, a), (11, outL l), (12, .int .i64 l.length), (13, .int .i64 i), (14, f), (24, g)] (memR h v cr es1))
     (fun q => q.1 = .exit 0 /\ ∃ es', q.2.2 = memR h v cr es' /\ Went CS N kn es es' (X + l.length + 1000 * ((kys es').length - (kys es).length)) l) := by
   intro ys
   induction ys with
   | nil =>
    intro i hdr hi es1 W a f g
    have hle := List.drop_eq_nil_iff.1 hdr
    have : i = l.length := by omega
    subst this
    rw [List.take_length] at W
    rw [got_loop]
    simp only [l39_0, outL, F39, Tryz.f39, sxAll, cA, arithA, Env.keep, ↓qAe, Nat.reduceBEq, ↓reduceIte, at_end hdr]
    exact ⟨trivial, es1, rfl, W⟩
   | cons j s ih =>
    intro i hdr hi es1 W a f g
    obtain ⟨hlt, hget, hdr'⟩ := at_drop hdr
    have hlt' : i < l.length := by simpa using hlt
    have hw := wrap_succ (i := i) (by omega)
    have hj : j ∈ csOf CS kn := by rw [hcs]; exact qBj hget
    obtain ⟨hj0, hjN⟩ := hrng kn j hj
    have hix := fun H z r => idx_ints H l z r i j hget
    have htk : l.take (i + 1) = l.take i ++ [j] := by rw [List.take_add_one, hget]; rfl
    rw [got_loop]
    by_cases hm : j ∈ kys es1
    ·obtain ⟨c, hc, hcm⟩ := pget_some hm
     have hcb := W.cnt _ hcm
     simp only at hcb
     have hN1 := nodup_len W.nd W.rng
     have hwc : IntKind.i64.wrap ((pget j es1).getD 0 + 1) = c + 1 := by rw [hc]; simp only [Option.getD_some]; exact wrap_id (by omega) (by omega)
     have hk2 : kys (pput j (c + 1) es1) = kys es1 := by rw [kys_pput, if_pos hm]
     have hne : ((c + 1 : Int) == 1) = false := by simp; omega
     have W2 : Went CS N kn es (pput j (c + 1) es1) (X + (i + 1) + 1000 * ((kys (pput j (c + 1) es1)).length - (kys es).length)) (l.take (i + 1)) := by
      constructor
      ·rw [hk2]; exact W.pre
      ·rw [hk2]; exact W.len
      ·rw [hk2]; exact W.nd
      ·rw [hk2]; exact W.rng
      ·intro p hp
       rw [hk2]
       rcases pput_mem hp with rfl | hp
       ·simp only; omega
       ·have := W.cnt p hp; omega
      ·rw [hk2, htk]
       intro x hx
       rcases qAp.1 hx with hx | hx
       ·exact W.all x hx
       ·rw [qAn.1 hx]; exact hm
      ·rw [hk2]; exact W.new
     have := ih (i + 1) hdr' (by omega) _ W2
     simp only [l39_0] at this ⊢
     simp only [outL, F39, Tryz.f39, sxAll, cA, arithA, Env.keep, qt_eq, Rv.part, TD.isAgg, ↓qAe, Nat.reduceBEq, ↓reduceIte, hlt, hix, load_ints, hw, ty87, load_ptr, memR_t2, known_map, memR_lookup, memR_update, hwc, pget_pput, hne] at this ⊢
     exact this _ _ _
    ·have hc : pget j es1 = none := pget_none.2 hm
     have hwc : IntKind.i64.wrap ((pget j es1).getD 0 + 1) = 1 := by rw [hc]; rfl
     have hk2 : kys (pput j 1 es1) = kys es1 ++ [j] := by rw [kys_pput, if_neg hm]
     have hnd2 : (kys (pput j 1 es1)).Nodup := by
      rw [hk2, List.nodup_append]
      refine ⟨W.nd, by simp, fun a ha b hb => ?_⟩
      rw [qAn.1 hb]; intro e; exact hm (e ▸ ha)
     have hr2 : ∀ x ∈ kys (pput j 1 es1), 0 <= x /\ x < (N : Int) := by
      rw [hk2]; intro x hx
      rcases qAp.1 hx with hx | hx
      ·exact W.rng x hx
      ·rw [qAn.1 hx]; exact ⟨hj0, hjN⟩
     have hl2 : (kys (pput j 1 es1)).length = (kys es1).length + 1 := by rw [hk2]; simp
     have hN2 := nodup_len hnd2 hr2
     have hWl := W.len
     have hcnt2 : ∀ p ∈ pput j 1 es1, 1 <= p.2 /\ p.2 <= ((X + i + 1 + 1000 * ((kys es1).length - (kys es).length) : Nat) : Int) := by
      intro p hp
      rcases pput_mem hp with rfl | hp
      ·simp only; omega
      ·have := W.cnt p hp; omega
     obtain ⟨es3, hcall, W3⟩ := IH (N - (kys (pput j 1 es1)).length) (by omega) (pput j 1 es1) j.toNat (X + i + 1 + 1000 * ((kys es1).length - (kys es).length)) hnd2 hr2 (qAr _) (by omega) hcnt2 (by omega)
     rw [show ((j.toNat : Nat) : Int) = j from by omega] at hcall W3
     have hl3 := W3.len
     have W2 : Went CS N kn es es3 (X + (i + 1) + 1000 * ((kys es3).length - (kys es).length)) (l.take (i + 1)) := by
      constructor
      ·intro x hx; exact W3.pre x (by rw [hk2]; exact List.mem_append_left _ (W.pre x hx))
      ·omega
      ·exact W3.nd
      ·exact W3.rng
      ·intro p hp
       have := W3.cnt p hp
       omega
      ·rw [htk]
       intro x hx
       rcases qAp.1 hx with hx | hx
       ·exact W3.pre x (by rw [hk2]; exact List.mem_append_left _ (W.all x hx))
       ·rw [qAn.1 hx]; exact W3.pre j (by rw [hk2]; simp)
      ·intro x hx
       rcases W3.new x hx with hx | ⟨h1, h2⟩
       ·rw [hk2] at hx
        rcases qAp.1 hx with hx | hx
        ·rcases W.new x hx with h1 | ⟨h1, h2⟩
         ·exact .inl h1
         ·exact .inr ⟨h1, fun t ht => W3.pre t (by rw [hk2]; exact List.mem_append_left _ (h2 t ht))⟩
        ·rw [qAn.1 hx]
         exact .inr ⟨.one hj, W3.all⟩
       ·exact .inr ⟨.step hj h1, h2⟩
     have := ih (i + 1) hdr' (by omega) _ W2
     simp only [l39_0] at this ⊢
     simp only [outL, F39, Tryz.f39, sxAll, cA, arithA, Env.keep, qt_eq, Rv.part, TD.isAgg, mapO, ↓qAe, Nat.reduceBEq, ↓reduceIte, hlt, hix, load_ints, hw, ty87, ty88, load_ptr, memR_t2, memR_t3, known_map, memR_lookup, memR_update, hwc, pget_pput, hcall] at this ⊢
     exact this _ _ _
  have W0 : Went CS N kn es es (X + 0 + 1000 * ((kys es).length - (kys es).length)) (l.take 0) := by
   refine ⟨fun x hx => hx, qAr _, hnd, hr, fun p hp => ?_, fun j hj => by simp at hj, fun x hx => .inl hx⟩
   have := hcnt p hp; omega
  obtain ⟨⟨out, e', H'⟩, hx, ho, es', hh, W⟩ := L l 0 (by simp) (by omega) es W0 .junk .junk .junk
  simp only [qBo] at hx ho hh
  subst ho hh
  have hl' := W.len
  refine ⟨es', ?_, ?_⟩
  ·have R := hR (memR h v cr es) (memR_take h v cr es)
   obtain ⟨a, g1, g2, g3⟩ := R.get kn (outL l) (by simp [hl])
   have hk := R.kn
   have hlen2 : lenA (memR h v cr es) (.slice 3) (outL l) = some l.length := by rw [outL, lenA_lst, intL_len]
   have hko : known (outL l) = some (outL l) := rfl
   rw [call39]
   simp only [F39, k39, Tryz.f39, sxAll, cA, Env.keep, qt_eq, resultsA, packA, fieldAddrA, Rv.part, TD.isAgg, ↓qAe, Nat.reduceBEq, ↓reduceIte, ty32, ty30, ty27, load_ref, hk, g1, g2, g3, hko, hlen2, hx]
   exact leave_impure rfl
  ·rw [hcs]
   refine ⟨W.pre, W.len, W.nd, W.rng, fun p hp => ?_, W.all, W.new⟩
   have := W.cnt p hp
   omega
open Classical in
def reachOf (CS : List (List Int)) (N : Nat) (k : Int) : List Int := ((List.range N).map Int.ofNat).filter fun x => decide (Rch CS k x)
theorem reachOf_mem (CS : List (List Int)) (N : Nat) (k x : Int) (hr : ∀ k j, j ∈ csOf CS k -> 0 <= j /\ j < (N : Int)) : x ∈ reachOf CS N k ↔ Rch CS k x := by
 have rng : ∀ {k x}, Rch CS k x -> 0 <= x /\ x < (N : Int) := by
  intro k x h
  induction h with
  | one h => exact hr _ _ h
  | step _ _ ih => exact ih
 simp only [reachOf, List.mem_filter, qBl, List.mem_range, decide_eq_true_eq]
 constructor
 ·exact fun h => h.2
 ·intro h
  have := rng h
  exact ⟨⟨x.toNat, by omega, by show ((x.toNat : Nat) : Int) = x; omega⟩, h⟩
theorem range_lt (N : Nat) : ((List.range N).map Int.ofNat).Pairwise (· < ·) := by
 rw [List.pairwise_map]
 exact List.pairwise_lt_range.imp fun h => by simpa using h
theorem reachOf_lt (CS : List (List Int)) (N : Nat) (k : Int) : (reachOf CS N k).Pairwise (· < ·) := (range_lt N).sublist List.filter_sublist
theorem isort_lt {l : List Int} (h : l.Nodup) : (isort l).Pairwise (· < ·) := by
 have h1 := isort_sorted l
 have h2 : (isort l).Nodup := (isort_perm l).nodup_iff.2 h
 rw [List.nodup_iff_pairwise_ne] at h2
 refine (h1.and h2).imp ?_
 rintro a b ⟨x, y⟩
 simp only [leI, decide_eq_true_eq] at x
 omega
theorem eq_of_lt_mem {a b : List Int} (ha : a.Pairwise (· < ·)) (hb : b.Pairwise (· < ·)) (h : ∀ x, x ∈ a ↔ x ∈ b) : a = b := by
 have na : a.Nodup := by rw [List.nodup_iff_pairwise_ne]; exact ha.imp fun h => by omega
 have nb : b.Nodup := by rw [List.nodup_iff_pairwise_ne]; exact hb.imp fun h => by omega
 have hp : a.Perm b := (List.perm_ext_iff_of_nodup na nb).2 h
 exact hp.eq_of_pairwise (le := (· < ·)) (fun x y _ _ h1 h2 => by omega) ha hb
theorem kys_reach {CS : List (List Int)} {N : Nat} {k : Int} {es : List (Int × Int)} {B : Nat} (W : Went CS N k [] es B (csOf CS k)) (x : Int) : x ∈ kys es ↔ Rch CS k x := by
 constructor
 ·intro hx
  rcases W.new x hx with h | h
  ·simp [kys] at h
  ·exact h.1
 ·intro h
  have key : ∀ {a x}, Rch CS a x -> (∀ j ∈ csOf CS a, j ∈ kys es) -> x ∈ kys es := by
   intro a x h
   induction h with
   | one h => exact fun H => H _ h
   | step h _ ih =>
    intro H
    refine ih fun t ht => ?_
    rcases W.new _ (H _ h) with h1 | h1
    ·simp [kys] at h1
    ·exact h1.2 t ht
  exact key h W.all
include hN in
theorem reach_eq (hR : ∀ H', H'.take h.length = h -> Rd cfg H' 30 27 v (CS.map outL)) (hrng : ∀ k j, j ∈ csOf CS k -> 0 <= j /\ j < (N : Int)) (hlen : ∀ l ∈ CS, l.length <= 1000) (hNb : N <= 1000) (hcr : cr.length = 4) (kn : Nat) (hkn : kn < N) :
  call cfg 19 [.agg (v :: cr), .int .i64 kn] h = some (.ret (outL (reachOf CS N kn)), h) := by
 obtain ⟨es', hcall, W⟩ := come_runs CS N hN h v cr hR hrng hlen N [] kn 0 (by simp [kys]) (by simp [kys]) (by simp) hkn (by simp) (by omega)
 have hwf : ∀ k ∈ es'.map (·.1), (Lit.int .i64 k).wf = true := fun k hk => by
  have := W.rng k hk
  exact wf_small (by omega) (by omega)
 have hlk := nodup_len W.nd W.rng
 have hr := rising_eq (memR h v cr es') h.length es' (memR_map h v cr es') hwf (by simp [kys] at hlk; omega)
 have hks : isort (es'.map (·.1)) = reachOf CS N kn := eq_of_lt_mem (isort_lt W.nd) (reachOf_lt CS N kn) fun x => by
  rw [(isort_perm _).mem_iff, reachOf_mem CS N kn x hrng]
  exact kys_reach W x
 rw [hks] at hr
 obtain ⟨c1, c2, c3, c4, rfl⟩ : ∃ c1 c2 c3 c4, cr = [c1, c2, c3, c4] := by
  match cr, hcr with
  | [a, b, c, d], _ => exact ⟨a, b, c, d, rfl⟩
 have hm0 : memR h v [c1, c2, c3, c4] [] = h ++ [.map [], .cells [.map h.length] 0, .cells [.clo 39 [.ref [v, c1, c2, c3, c4], .ptr (h.length + 1) 0 0, .ptr (h.length + 2) 0 0]] 0] := rfl
 rw [hm0] at hcall
 have hkn : known (outL (reachOf CS N kn)) = some (outL (reachOf CS N kn)) := rfl
 rw [call19]
 simp only [F19, k19, Tryz.f19, sxAll, cA, Env.keep, qt_eq, resultsA, packA, storeA, Rv.part, TD.isAgg, setCells, mapO, ↓qAe, Nat.reduceBEq, Nat.reduceAdd, Nat.reduceLeDiff, ↓reduceIte, ty32, ty87, ty88, load_ptr, known_map, cells_map, leaf_map, cells_clo, leaf_clo, hcall, memR_t2, hr, hkn, pu38]
 exact leave_pure rfl (memR_take h v _ es') (freeze_lint _ _ 38 _ _ _)
end
end Go.Proofs.Sx
namespace Go.Proofs.Sx
open Go.Rv Go.Proofs
attribute [local congr] bind_left got_left
noncomputable section
theorem indexI_loopR (xs : List Int) (x : Int) (v : AV) (h : Heap) (hn : xs.length < 1000000000) (R : Rd cfg h 27 3 v (intL xs)) : ∀ (ys : List Int) (i : Nat), xs.drop i = ys -> i <= xs.length -> ∀ c d t e,
  Got (exec cfg 40 (.loop l40_0) [(0, v), (1, .int .i64 x), (4, c), (5, d), (7, .int .i64 xs.length), (8, .int .i64 i), (9, t), (16, e)] h) (fun q => q.2.2 = h /\
   ((q.1 = .exit 0 /\ idxFrom x ys i = -1) ∨ (q.1 = .ret /\ q.2.1.get 4 = .int .i64 (idxFrom x ys i)))) := by
 intro ys
 induction ys with
 | nil =>
  intro i hd hi c d t e
  rw [got_loop]
  simp only [l40_0, F40, Tryz.f40, sxAll, cA, arithA, Env.keep, ↓qAe, Nat.reduceBEq, ↓reduceIte, at_end hd]
  exact ⟨trivial, .inl ⟨trivial, rfl⟩⟩
 | cons y r ih =>
  intro i hd hi c d t e
  obtain ⟨hlt, hget, hd'⟩ := at_drop hd
  obtain ⟨a, h1, h2, h3⟩ := R.get i (.int .i64 y) (by simp [intL, hget])
  have hw := wrap_succ (i := i) (by omega)
  have hk := R.kn
  rw [got_loop]
  by_cases he : x = y
  ·subst he
   simp only [l40_0, F40, Tryz.f40, sxAll, cA, arithA, Env.keep, qt_eq, ↓qAe, Nat.reduceBEq, ↓reduceIte, hlt, hk, h1, h2, h3]
   exact ⟨trivial, .inr ⟨trivial, by simp [idxFrom]⟩⟩
  ·have hne : (x == y) = false := by simp [he]
   have := ih (i + 1) hd' (by simp at hlt; omega)
   simp only [l40_0] at this ⊢
   simp only [F40, Tryz.f40, sxAll, cA, arithA, Env.keep, qt_eq, ↓qAe, Nat.reduceBEq, ↓reduceIte, hlt, hk, h1, h2, h3, hne, hw, idxFrom, if_neg he] at this ⊢
   exact this _ _ _ _
theorem containsI_eqR (xs : List Int) (x : Int) (v : AV) (h : Heap) (hn : xs.length < 1000000000) (R : Rd cfg h 27 3 v (intL xs)) : call cfg 20 [v, .int .i64 x] h = some (.ret (.bool (decide (x ∈ xs))), h) := by
 have hi : call cfg 40 [v, .int .i64 x] h = some (.ret (.int .i64 (idxFrom x xs 0)), h) := by
  obtain ⟨⟨o, e', h'⟩, hx, hh, hq⟩ := indexI_loopR xs x v h hn R xs 0 (by simp) (by omega) (.int .i64 0) .junk .junk .junk
  simp only [qBo] at hx hh hq
  subst hh
  have hk := R.kn
  have hlen := R.len
  rw [intL_len] at hlen
  rw [call40]
  rcases hq with ⟨rfl, h1⟩ | ⟨rfl, h1⟩
  ·simp only [F40, k40, Tryz.f40, sxAll, cA, Env.keep, resultsA, packA, ↓qAe, Nat.reduceBEq, ↓reduceIte, ty27, hk, hlen, hx, h1]
   exact leave_kept rfl rfl
  ·simp only [F40, k40, Tryz.f40, sxAll, cA, Env.keep, resultsA, packA, ↓qAe, Nat.reduceBEq, ↓reduceIte, ty27, hk, hlen, hx, h1]
   exact leave_kept rfl rfl
 rw [call20]
 simp only [F20, k20, Tryz.f20, sxAll, cA, arithA, Env.keep, qt_eq, resultsA, packA, mapO, ↓qAe, Nat.reduceBEq, ↓reduceIte, R.kn, hi, pu40, idxFrom_has]
 exact leave_kept rfl rfl
structure OutC (h H : Heap) (vo : AV) (out : List Int) : Prop where
 cell : H.obj h.length 0 = some [vo]
 b : Built H vo (intL out) 1
 own : ∀ o, objOf vo = some o -> h.length < o
 old : H.take h.length = h
theorem OutC.le {h H : Heap} {vo : AV} {out : List Int} (O : OutC h H vo out) : h.length < H.length := obj_some O.cell
theorem OutC.rd {h H : Heap} {vo : AV} {out : List Int} (O : OutC h H vo out) : Rd cfg H 27 3 vo (intL out) := rd_built ty27 rfl ty3 rfl rfl O.b (plain_ints _)
theorem OutC.push {h H : Heap} {vo : AV} {out : List Int} (O : OutC h H vo out) (x : Int) (hl : out.length < 1000000) :
  ∃ v' H', appendA H 1 vo [.int .i64 x] = some (v', H') /\ known v' = some v' /\ v'.cells = [v'] /\ v'.leaf = true /\ H'.obj h.length 0 = some [vo] /\ OutC h (H'.set h.length (.cells [v'] 0)) v' (out ++ [x]) := by
 obtain ⟨v', H', h1, h2, h4, h5, h6⟩ := append_built (ys := [AV.int .i64 x]) O.b (plain_ints out).size (fun y hy => (plain_ints [x]).leafs y hy) (by omega) (by simp [intL, mostLen]; omega)
 have hlt := O.le
 have hk : ∀ o, o < H.length -> objOf vo ≠ some o -> H'[o]? = H[o]? := h5
 have hcell : H'.obj h.length 0 = some [vo] := obj_keep O.cell (h5 _ hlt fun hc => by have := O.own _ hc; omega)
 have hlt' := obj_some hcell
 have hown : ∀ o, objOf v' = some o -> h.length < o := fun o ho => by
  rcases h6 with h6 | h6
  ·exact O.own o (h6 ▸ ho)
  ·rw [h6] at ho; simp only [qAf] at ho; omega
 refine ⟨v', H', h1, known_built h2, built_cells h2, built_leaf h2, hcell, ⟨by simp [Heap.obj, qAz hlt'], ?_, hown, ?_⟩⟩
 ·have : intL (out ++ [x]) = intL out ++ [AV.int .i64 x] := by simp [intL]
  rw [this]
  exact h2.other fun o ho => by rw [qAw]; have := hown o ho; omega
 ·rw [List.take_set_of_le (qAr _), ← O.old]
  apply qBk
  intro i
  by_cases hi : i < h.length
  ·rw [O.old, qBa hi, h5 i (by omega) (fun hc => by have := O.own _ hc; omega)]
   have := congrArg (·[i]?) O.old
   simp only [qBa hi] at this
   exact this
  ·rw [O.old, qAt (by simp; omega), qAt (by omega)]
instance t43 {d : Option Nat} : TightD cfg 43 d := ⟨fun _ _ => rfl⟩
def B43 (p : List Bool) := cA p Tryz.f43.body
def R43 (p : List Bool) (i : Nat) := Code.region i (cA p Tryz.f43.body) false
theorem F43 : (∀ p i, XR cfg 43 (R43 p i) (B43 p) (cA p Tryz.f43.body).toList i false) /\ RE cfg 43 [0, 1, 3] /\ cfg.pure 43 = true := ⟨fun _ _ => xr rfl rfl, rE fun _ => rfl, rfl⟩
def k43 : Code := (.seq (R43 [ff] 0) (.seq (R43 [tt, ff] 1) .ret))
theorem call43 (x0 x1 : AV) (h : Heap) : call cfg 43 [x0, x1] h = (exec cfg 43 k43 [(0, x0), (1, x1)] h).bind (callEnd cfg 43 h [.tmp 3]) := call_at2 (fnat Tryz.func43 (b := k43) (by kernel_rfl) (by kernel_rfl)) rfl rfl
theorem pu23 : cfg.pure 23 = true := rfl
instance t23 {d : Option Nat} : TightD cfg 23 d := ⟨fun _ _ => rfl⟩
def B23 (p : List Bool) := cA p Tryz.f23.body
def R23 (p : List Bool) (i : Nat) := Code.region i (cA p Tryz.f23.body) false
theorem F23 : (∀ p i, XR cfg 23 (R23 p i) (B23 p) (cA p Tryz.f23.body).toList i false) /\ cfg.imm 23 1 = true /\ GO cfg 23 (B23 [tt, tt, ff, ff, ff, tt, ff, tt, ff, ff, tt, tt, ff, ff, tt, ff]) 4 24 /\ cfg.imm 23 32 = true /\ RE cfg 23 [0, 1, 2, 3, 4, 5, 11, 13, 14, 15, 16, 29] /\ cfg.pure 23 = true := ⟨fun _ _ => xr rfl rfl, by kernel_rfl, gO (by kernel_rfl), by kernel_rfl, rE fun _ => rfl, rfl⟩
def l23_1 : Code := (.seq (R23 [tt, tt, ff, ff, ff, tt, ff, tt, ff, ff, ff] 4) (.seq (.cond (.tmp 16) .skip (.exit 2)) (.seq (.block 3 (.seq (R23 [tt, tt, ff, ff, ff, tt, ff, tt, ff, ff, tt, tt, ff, ff, ff] 5) (.seq (R23 [tt, tt, ff, ff, ff, tt, ff, tt, ff, ff, tt, tt, ff, ff, tt, ff] 6) (.cond (.tmp 29) (.seq (R23 [tt, tt, ff, ff, ff, tt, ff, tt, ff, ff, tt, tt, ff, ff, tt, tt, ff, ff] 7) (.exit 2)) .skip)))) (R23 [tt, tt, ff, ff, ff, tt, ff, tt, ff, ff, tt, tt, tt] 8))))
def l23_0 : Code := (.seq (.seq (R23 [tt, tt, ff, ff, ff, ff, ff] 2) (.cond (.tmp 11) .skip (.exit 0))) (.block 1 (.seq (R23 [tt, tt, ff, ff, ff, tt, ff, ff] 3) (.block 2 (.loop l23_1)))))
def k23 : Code := (.seq (R23 [ff] 0) (.seq (R23 [tt, ff] 1) (.seq (.block 0 (.loop l23_0)) (.seq (R23 [tt, tt, tt, ff] 9) .ret))))
theorem call23 (x0 : AV) (h : Heap) : call cfg 23 [x0] h = (exec cfg 23 k23 [(0, x0)] h).bind (callEnd cfg 23 h [.tmp 2]) := call_at2 (fnat Tryz.func23 (b := k23) (by kernel_rfl) (by kernel_rfl)) rfl rfl
theorem rowx_eq (h H : Heap) (vo : AV) (out : List Int) (O : OutC h H vo out) (hl : out.length < 1000000) (k : Int) : call cfg 43 [.int .i64 k, .ptr h.length 0 0] H = some (.ret (.bool (!decide (k ∈ out))), H) := by
 have hc := containsI_eqR out k vo H (by omega) O.rd
 have hk := O.rd.kn
 rw [call43]
 simp only [F43, k43, Tryz.f43, sxAll, cA, Env.keep, qt_eq, resultsA, packA, unA, Rv.part, TD.isAgg, mapO, ↓qAe, Nat.reduceBEq, ↓reduceIte, load_ptr, ty27, O.cell, hk, hc, pu20]
 exact leave_kept rfl rfl
def ready (CS : List (List Int)) (out : List Int) (n : Nat) : Bool := !decide ((n : Int) ∈ out) && !((csOf CS n).any fun k => !decide (k ∈ out))
def pickR (CS : List (List Int)) (out : List Int) : List Nat -> Option Nat
 | [] => none
 | n :: r => if ready CS out n then some n else pickR CS out r
def rowGo (CS : List (List Int)) (N : Nat) : Nat -> List Int -> List Int
 | 0, out => out
 | d + 1, out => match pickR CS out (List.range N) with
  | some n => rowGo CS N d (out ++ [(n : Int)])
  | none => out
section
variable (CS : List (List Int)) (N : Nat) (hN : CS.length = N) (h : Heap) (v : AV) (cr : List AV)
include hN
theorem row_inner (hR : ∀ H', H'.take h.length = h -> Rd cfg H' 30 27 v (CS.map outL)) (hNb : N <= 1000) (hlen : ∀ l ∈ CS, l.length <= 1000) (H : Heap) (vo : AV) (out : List Int) (O : OutC h H vo out) (hout : out.length < N) :
  ∀ (ys : List Nat) (i : Nat), (List.range N).drop i = ys -> i <= N -> ∀ a b t4 t5 t11 t16 t29,
   Got (exec cfg 23 (.loop l23_1) [(0, a), (1, .ref (v :: cr)), (2, b), (3, .ptr h.length 0 0), (4, t4), (5, t5), (11, t11), (13, v), (14, .int .i64 N), (15, .int .i64 i), (16, t16), (29, t29)] H)
    (fun q => q.1 = .exit 2 /\ (∃ t4 t5 t11 t15 t16 t29, q.2.1 = [(0, a), (1, .ref (v :: cr)), (2, b), (3, .ptr h.length 0 0), (4, t4), (5, t5), (11, t11), (13, v), (14, .int .i64 N), (15, t15), (16, t16), (29, t29)]) /\ match pickR CS out ys with
     | some n => ∃ v', OutC h q.2.2 v' (out ++ [(n : Int)])
     | none => q.2.2 = H) := by
 intro ys
 induction ys with
 | nil =>
  intro i hd hi a b t4 t5 t11 t16 t29
  have := List.drop_eq_nil_iff.1 hd
  have hlt : (i < N) = False := by simp at this; simp; omega
  rw [got_loop]
  simp only [l23_1, F23, Tryz.f23, sxAll, cA, arithA, Env.keep, ↓qAe, Nat.reduceBEq, ↓reduceIte, hlt]
  exact ⟨trivial, ⟨_, _, _, _, _, _, rfl⟩, by first | rfl | trivial⟩
 | cons n r ih =>
  intro i hd hi a b t4 t5 t11 t16 t29
  obtain ⟨hlt0, hget, hd'⟩ := at_drop hd
  rw [List.length_range] at hlt0
  have hlt' : i < N := by simpa using hlt0
  have hn : n = i := by
   rw [List.getElem?_range hlt'] at hget
   exact (Option.some.inj hget).symm
  subst hn
  have hw := wrap_succ (i := n) (by omega)
  obtain ⟨l, hl⟩ : ∃ l, CS[n]? = some l := ⟨_, qAs (by omega)⟩
  have hcs : csOf CS (n : Int) = l := by simp [csOf, hl]
  have R := hR H O.old
  obtain ⟨ad, g1, g2, g3⟩ := R.get n (outL l) (by simp [hl])
  have hko : known (outL l) = some (outL l) := rfl
  have hkv := R.kn
  have hkvo := O.rd.kn
  have hcell := O.cell
  have hci := containsI_eqR out n vo H (by omega) O.rd
  have hcf : call cfg 42 [outL l, .clo 43 [.ptr h.length 0 0]] H = some (.ret (.bool (l.any fun k => !decide (k ∈ out))), H) :=
   containsFI_eq l id (fun k => !decide (k ∈ out)) 43 [.ptr h.length 0 0] 1 _ H (by have := hlen l (qBj hl); omega) (fun _ _ => trivial) (fun k _ => rowx_eq h H vo out O (by omega) k)
  rw [got_loop]
  cases hm : decide ((n : Int) ∈ out) with
  | true =>
   have hpick : pickR CS out (n :: r) = pickR CS out r := by simp [pickR, ready, hm]
   rw [hpick]
   rw [hm] at hci
   have := ih (n + 1) hd' (by omega)
   simp only [l23_1] at this ⊢
   simp only [F23, Tryz.f23, sxAll, cA, arithA, Env.keep, qt_eq, unA, Rv.part, TD.isAgg, mapO, ↓qAe, Nat.reduceBEq, ↓reduceIte, hlt0, hkv, g1, g2, g3, hko, load_ptr, ty27, hcell, hkvo, hci, pu20, hw] at this ⊢
   exact this _ _ _ _ _ _ _
  | false =>
   rw [hm] at hci
   cases hany : l.any (fun k => !decide (k ∈ out)) with
   | true =>
    have hpick : pickR CS out (n :: r) = pickR CS out r := by simp only [pickR, ready, hm, hcs, hany]; rfl
    rw [hpick]
    rw [hany] at hcf
    have := ih (n + 1) hd' (by omega)
    simp only [l23_1] at this ⊢
    simp only [F23, Tryz.f23, sxAll, cA, arithA, Env.keep, qt_eq, unA, Rv.part, TD.isAgg, mapO, ↓qAe, Nat.reduceBEq, ↓reduceIte, hlt0, hkv, g1, g2, g3, hko, load_ptr, ty27, hcell, hkvo, hci, pu20, hcf, pu42, hw] at this ⊢
    exact this _ _ _ _ _ _ _
   | false =>
    have hpick : pickR CS out (n :: r) = some n := by simp only [pickR, ready, hm, hcs, hany]; rfl
    rw [hpick]
    rw [hany] at hcf
    obtain ⟨v', H', ha, p1, p2, p3, p4, p5⟩ := O.push n (by omega)
    simp only [l23_1, F23, Tryz.f23, sxAll, cA, arithA, Env.keep, qt_eq, storeA, unA, Rv.part, TD.isAgg, fillA, setCells, copies, mapO, ↓qAe, Nat.reduceBEq, Nat.reduceAdd, Nat.reduceMul, Nat.reduceLeDiff, Nat.reduceGT, bne, ↓reduceIte, hlt0, hkv, g1, g2, g3, hko, load_ptr, ty27, ty3, hcell, hkvo, hci, pu20, hcf, pu42, elems, group, ha, p1, p2, p3, p4]
    exact ⟨trivial, ⟨_, _, _, _, _, _, rfl⟩, v', p5⟩
theorem row_outer (hR : ∀ H', H'.take h.length = h -> Rd cfg H' 30 27 v (CS.map outL)) (hNb : N <= 1000) (hlen : ∀ l ∈ CS, l.length <= 1000) (Good : List Int -> Prop)
  (hp : ∀ out, Good out -> out.length < N -> ∃ n, pickR CS out (List.range N) = some n /\ Good (out ++ [(n : Int)])) : ∀ (d : Nat) (H : Heap) (vo : AV) (out : List Int), OutC h H vo out -> out.length + d = N -> Good out -> ∀ a b t4 t5 t11 t13 t14 t15 t16 t29,
   Got (exec cfg 23 (.loop l23_0) [(0, a), (1, .ref (v :: cr)), (2, b), (3, .ptr h.length 0 0), (4, t4), (5, t5), (11, t11), (13, t13), (14, t14), (15, t15), (16, t16), (29, t29)] H)
    (fun q => q.1 = .exit 0 /\ q.2.1.get 3 = .ptr h.length 0 0 /\ ∃ v', OutC h q.2.2 v' (rowGo CS N d out)) := by
 intro d
 induction d with
 | zero =>
  intro H vo out O hd hg a b t4 t5 t11 t13 t14 t15 t16 t29
  have R := hR H O.old
  have hl1 := O.rd.len
  rw [intL_len] at hl1
  have hl2 := R.len
  rw [qBn, hN] at hl2
  have hlt : (out.length < N) = False := by simp; omega
  rw [got_loop]
  simp only [l23_0, F23, Tryz.f23, sxAll, cA, arithA, Env.keep, qt_eq, fieldAddrA, Rv.part, TD.isAgg, ↓qAe, Nat.reduceBEq, ↓reduceIte, load_ptr, load_ref, ty27, ty32, ty30, O.cell, O.rd.kn, hl1, R.kn, hl2, hlt]
  exact ⟨trivial, trivial, vo, O⟩
 | succ d ih =>
  intro H vo out O hd hg a b t4 t5 t11 t13 t14 t15 t16 t29
  have R := hR H O.old
  have hl1 := O.rd.len
  rw [intL_len] at hl1
  have hl2 := R.len
  rw [qBn, hN] at hl2
  have hlt : (out.length < N) = True := by simp; omega
  obtain ⟨n, hpick, hgood⟩ := hp out hg (by omega)
  obtain ⟨⟨o, e', H'⟩, hx, ho, ⟨u4, u5, u11, u15, u16, u29, he⟩, pm⟩ := row_inner CS N hN h v cr hR hNb hlen H vo out O (by omega) (List.range N) 0 (by simp) (by omega) a b t4 t5 (.bool true) t16 t29
  simp only [qBo, hpick] at hx ho he pm
  subst ho he
  obtain ⟨v', O'⟩ := pm
  have := ih H' v' (out ++ [(n : Int)]) O' (by simp; omega) hgood
  have hrg : rowGo CS N (d + 1) out = rowGo CS N d (out ++ [(n : Int)]) := by simp only [rowGo, hpick]
  rw [hrg, got_loop]
  simp only [l23_0] at this ⊢
  simp only [F23, Tryz.f23, sxAll, cA, arithA, Env.keep, qt_eq, fieldAddrA, Rv.part, TD.isAgg, ↓qAe, Nat.reduceBEq, ↓reduceIte, load_ptr, load_ref, ty27, ty32, ty30, O.cell, O.rd.kn, hl1, R.kn, hl2, hlt, hx] at this ⊢
  exact this _ _ _ _ _ _ _ _ _ _
theorem row_eq (hR : ∀ H', H'.take h.length = h -> Rd cfg H' 30 27 v (CS.map outL)) (hNb : N <= 1000) (hlen : ∀ l ∈ CS, l.length <= 1000) (hcr : cr.length = 4) (Good : List Int -> Prop) (hg0 : Good [])
  (hp : ∀ out, Good out -> out.length < N -> ∃ n, pickR CS out (List.range N) = some n /\ Good (out ++ [(n : Int)])) :
  ∃ z r, call cfg 23 [.agg (v :: cr)] h = some (.ret (.lst (intL (rowGo CS N N [])) z r), h) /\ (z = 1 ∨ rowGo CS N N [] = []) := by
 obtain ⟨c1, c2, c3, c4, rfl⟩ : ∃ c1 c2 c3 c4, cr = [c1, c2, c3, c4] := by
  match cr, hcr with
  | [a, b, c, d], _ => exact ⟨a, b, c, d, rfl⟩
 have O0 : OutC h (h ++ [.cells [.lst [] 0 .nil] 0]) (.lst [] 0 .nil) [] := ⟨by simp [Heap.obj], .inl ⟨rfl, rfl⟩, fun o ho => (by cases ho), by simp⟩
 obtain ⟨⟨o, e', H'⟩, hx, ho, h3, v', O⟩ := row_outer CS N hN h v [c1, c2, c3, c4] hR hNb hlen Good hp N _ _ [] O0 (by simp) hg0 (.agg [v, c1, c2, c3, c4]) (.lst [] 0 .nil) .junk .junk .junk .junk .junk .junk .junk .junk
 simp only at hx ho h3 O
 subst ho
 have key : call cfg 23 [.agg [v, c1, c2, c3, c4]] h = leaveA cfg 23 h v' H' := by
  rw [call23]
  simp only [F23, k23, Tryz.f23, sxAll, cA, Env.keep, qt_eq, resultsA, packA, Rv.part, TD.isAgg, ↓qAe, Nat.reduceBEq, Nat.reduceAdd, ↓reduceIte, ty32, ty27, hx, h3, load_ptr, O.cell, O.rd.kn]
 have Ow : Own h.length h H' v' (intL (rowGo CS N N [])) := ⟨O.b, fun o ho => Nat.le_of_lt (O.own o ho), Nat.le_of_lt O.le, by rw [O.old]; simp⟩
 rw [key]
 rcases Ow.leave (plain_ints _) (C := cfg) (f := 23) rfl with ⟨h1, h2⟩ | h2
 ·rw [h2]
  have : intL (rowGo CS N N []) = [] := h1
  rw [this]; exact ⟨_, _, rfl, .inr (by simpa [intL] using h1)⟩
 ·exact ⟨_, _, h2, .inl rfl⟩
end
end
end Go.Proofs.Sx
