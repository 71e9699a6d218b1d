/-
  
-/
import Derived.Test.YtojojpjldkpmoaaGreatDoorGDoA
import Derived.Test.YtojojpjldkpmoaaGreatDoorCards
import Derived.Test.YtojojpjldkpmoaaGreatDoorTie
import Derived.WalkKit
import Derived.OpenShut
import Derived.Deep.DeepHandedRow
import Derived.Lib.LaidTab
import Derived.Stop.LaidErr
import Derived.HandedShaped
set_option linter.unusedVariables false
set_option linter.unusedSimpArgs false
set_option maxHeartbeats 16000000
namespace Go.Proofs.YtojojpjldkpmoaaGreatDoor
open Go Go.ChangeShapes Go.WideShapes Go.ChangeAt Go.RowKit
theorem pow_type : (Tryz.prog.globals[1]?).map (·.type) = some 262 := by kernel_rfl
theorem pow_tab : (Rows.laid_internal_strconv_uint64pow10 : DataW Unit) = Lib.tabData .u64 Lib.pow10Tab := by kernel_rfl
theorem cells_20 : Tryz.prog.cellsOf 262 = 20 := by kernel_rfl
theorem cells_u64 : Tryz.prog.cellsOf 204 = 1 := by kernel_rfl
theorem tab_of {rest : List (String × DataW Unit)} {W : World} (h : laidMet Tryz.prog (("internal/strconv.uint64pow10", Rows.laid_internal_strconv_uint64pow10) :: rest) W) : EnvT W := by
 rw [pow_tab] at h
 exact Lib.tabIs_of_head g_pow pow_type Tryz.underlying262 Tryz.underlying204 cells_u64 cells_20 h
theorem g_syn : Tryz.prog.globalNamed "strconv.ErrSyntax" = some 4 := by kernel_rfl
theorem g_ran : Tryz.prog.globalNamed "strconv.ErrRange" = some 5 := by kernel_rfl
theorem syn_type : (Tryz.prog.globals[4]?).map (·.type) = some 210 := by kernel_rfl
theorem ran_type : (Tryz.prog.globals[5]?).map (·.type) = some 210 := by kernel_rfl
theorem cells_es : Tryz.prog.cellsOf 300 = 1 := by kernel_rfl
theorem cells_str : Tryz.prog.cellsOf 9 = 1 := by kernel_rfl
theorem es_star : "*" ++ "errors.errorString" = "*errors.errorString" := by decide
theorem es_row (u : TypeId) (h : Tryz.prog.typeName? 3 u = some "*errors.errorString") : u = 298 :=
 typeName_ptr_named (nm := "errors.errorString") (by rw [es_star]; kernel_rfl) (by kernel_rfl) (by decide) u (by rw [es_star]; exact h)
theorem env_of {W : World} (h : laidMetH Tryz.prog Rows.netRunsRow.laid W) (hs : W.ShapedOpen Tryz.prog) : Env W := by
 have h1 : laidMet Tryz.prog Rows.netRunsRow.laid W := h
 have hp := h1.tail.tail
 obtain ⟨a0, s0, hv0, _, _, _⟩ := laid_sentinel hp.tail.tail g_ran ran_type Tryz.underlying210 es_row Tryz.underlying298 Tryz.underlying300 rfl rfl Tryz.underlying9 cells_es cells_str
 obtain ⟨a1, s1, hv1, _, _, _⟩ := laid_sentinel hp.tail.tail.tail g_syn syn_type Tryz.underlying210 es_row Tryz.underlying298 Tryz.underlying300 rfl rfl Tryz.underlying9 cells_es cells_str
 refine ⟨tab_of hp, ?_, ⟨_, _, by simpa using World.var?_cell g_syn hv1 0⟩, ⟨_, _, by simpa using World.var?_cell g_ran hv0 0⟩⟩
 exact Go.Proofs.cell_of_shapedOpen_int (zero := #[.int .i64 0]) (t := 3) hs (of_decide_eq_true (by kernel_rfl)) (by kernel_rfl) rfl (by kernel_rfl) (by kernel_rfl) Tryz.underlying3
def cellsI (k : IntKind) (l : List Int) : Array Value := (l.map (Value.int k)).toArray
def tab32 : List Int := [0, 1, 28, 2, 29, 14, 24, 3, 30, 22, 20, 15, 25, 17, 4, 8, 31, 27, 13, 23, 21, 19, 16, 7, 26, 12, 18, 6, 11, 5, 10, 9]
def tab64 : List Int := [0, 1, 56, 2, 57, 49, 28, 3, 61, 58, 42, 50, 38, 29, 17, 4, 62, 47, 59, 36, 45, 43, 51, 22, 53, 39, 33, 30, 24, 18, 12, 5, 63, 55, 48, 27, 60, 41, 37, 16, 46, 35, 44, 21, 52, 32, 23, 11, 54, 26, 40, 15, 34, 20, 31, 10, 25, 14, 19, 9, 13, 8, 7, 6]
def putC (h : Array Obj) (b : Nat) (cs : Array Value) : Array Obj := h.modify b fun
 | .cells _ t frozen => .cells cs t frozen
 | o => o
set_option maxRecDepth 100000 in
def tabAcc : List Int := [128, 191, 160, 191, 128, 159, 144, 191, 128, 143, 0, 0, 0, 0, 0, 0, 0, 0, 0, 0, 0, 0, 0, 0, 0, 0, 0, 0, 0, 0, 0, 0]
abbrev textRan : ByteArray := { data := #[118, 97, 108, 117, 101, 32, 111, 117, 116, 32, 111, 102, 32, 114, 97, 110, 103, 101] }
abbrev textSyn : ByteArray := { data := #[105, 110, 118, 97, 108, 105, 100, 32, 115, 121, 110, 116, 97, 120] }
noncomputable def lowW : Nat := (World.holding Tryz.prog default ⟨#[], #[], []⟩).heap.size
noncomputable def laidW7 (os : Os) : World :=
 let w0 := World.holding Tryz.prog os ⟨#[.cells #[.string textRan] 300, .cells #[.string textSyn] 300], #[], []⟩
 { w0 with heap := putC (putC (putC (putC (putC (putC (putC w0.heap 2 (cellsI .u8 tab32)) 3 (cellsI .u8 tab64)) 1 (cellsI .u64 Lib.pow10Tab))
   7 (cellsI .u8 tabAcc)) 6 (cellsI .u8 (Pinned.utf8FirstZ.map (fun (n : Nat) => (n : Int))))) 5 #[.iface 298 (.pointer (some ⟨lowW, 0, none⟩))]) 4 #[.iface 298 (.pointer (some ⟨lowW + 1, 0, none⟩))] }
set_option maxRecDepth 100000 in
theorem laid_met7 (os : Os) (args : Array Value) : laidMet Tryz.prog Rows.netRunsRow.laid ((laidW7 os).forCall (fun _ _ => 0) ⟨#[], args, []⟩).memory :=
 laidMet_of_run' 8 (by kernel_rfl) (by kernel_rfl)
end Go.Proofs.YtojojpjldkpmoaaGreatDoor
