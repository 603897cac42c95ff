import Derived.Test.YtoiaagmhcpfjnaaIgF0
import Derived.Test.YtoiaagmhcpfjnaaIgTy
import Derived.Test.YtoiaagmhcpfjnaaIgSym
namespace Go.Ig
open Go Go.Proofs
set_option maxRecDepth 10000
def newerB (a1 a2 b1 b2 : Int) : Bool := decide (b1 < a1) || (a1 == b1 && decide (b2 < a2))
@[simp] theorem newer (k : Nat) (m : Mem) (a1 a2 a3 b1 b2 b3 : Int) : icall PP cfgT (k + 1) (.fn id_meta_Newer) [.agg [.int .i64 a1, .int .i64 a2, .int .i64 a3], .agg [.int .i64 b1, .int .i64 b2, .int .i64 b3]] m =
    some (.ret (.bool (newerB a1 a2 b1 b2)), m) := by
  rw [F.meta_Newer.eq]
  simp [F.meta_Newer, newerB]
  split <;> (try split) <;> simp_all <;> omega
@[simp] theorem awake_icall (k : Nat) (m : Mem) : icall PP cfgT (k + 1) (.fn id_tandemlaw06_awake) [] m = some (.ret (.bool true), m) := rfl
theorem newer_iff (a1 a2 b1 b2 : Int) : newerB a1 a2 b1 b2 = true ↔ b1 < a1 ∨ a1 = b1 ∧ b2 < a2 := by simp [newerB]
theorem newer_not (a1 a2 b1 b2 : Int) : newerB a1 a2 b1 b2 = false ↔ ¬ (b1 < a1 ∨ a1 = b1 ∧ b2 < a2) := by rw [← newer_iff]; simp
theorem metaOrders (k : Nat) (m : Mem) (a1 a2 a3 b1 b2 b3 c1 c2 c3 : Int) : icall PP cfgT (k + 2) (.fn id_tandemlaw06_MetaOrders) [.agg [.int .i64 a1, .int .i64 a2, .int .i64 a3], .agg [.int .i64 b1, .int .i64 b2, .int .i64 b3], .agg [.int .i64 c1, .int .i64 c2, .int .i64 c3]] m =
    some (.ret (.bool true), m) := by
  rw [F.tandemlaw06_MetaOrders.eq]
  simp [F.tandemlaw06_MetaOrders, F.tandemlaw06_MetaOrders.j14]
  repeat' split
  all_goals simp [newerB] at *
  all_goals try omega
  all_goals by_cases h1 : a2 = b2 <;> by_cases h2 : a1 < b1 <;> by_cases h3 : a2 < b2 <;> simp_all <;> omega
def tyRec : Ty := .st (.pair (.int .i64) (.pair (.int .i64) (.int .i64)))
theorem rec_of {m : Mem} {x : tyRec.sem} {v : V} (h : ∃ cells, cells.length = tyRec.size ∧ tyRec.Holds m x cells ∧ v = tyRec.arg cells) : v = .agg [.int .i64 x.1, .int .i64 x.2.1, .int .i64 x.2.2] ∧ fitsK .i64 x.1 ∧ fitsK .i64 x.2.1 ∧ fitsK .i64 x.2.2 := by
  obtain ⟨cells, -, ⟨l, r, rfl, ⟨rfl, h1⟩, ⟨l2, r2, rfl, ⟨rfl, h2⟩, ⟨rfl, h3⟩⟩⟩, rfl⟩ := h
  exact ⟨rfl, h1, h2, h3⟩
theorem metaOrders_law : LawOk PP cfgT id_tandemlaw06_MetaOrders [] [tyRec, tyRec, tyRec] := by
  intro m xs vs _ _ h
  obtain ⟨_, _, rfl, h1, _, _, rfl, h2, _, _, rfl, h3, rfl⟩ := h
  obtain ⟨rfl, -⟩ := rec_of h1
  obtain ⟨rfl, -⟩ := rec_of h2
  obtain ⟨rfl, -⟩ := rec_of h3
  exact ⟨_, _, metaOrders 0 m _ _ _ _ _ _ _ _ _⟩
end Go.Ig
