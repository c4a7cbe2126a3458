/- The keys of the program's maps. -/
import Derived.Test.YtdllibalmjadhaaGreatProg
import Derived.Test.YtdllibalmjadhaaGreatMaps
namespace Go.Proofs.YtdllibalmjadhaaGreat
open Go Go.RowKit

/-- A struct of one number: a node's name in a hub; an owner in a shadow. -/
def encName (p : Nat) : Value := .agg #[.int .u32 p]

theorem nameLaw : KeyLaw Tryz.prog 121 encName := by
  refine ⟨⟨.struct (Tryz.prog.fieldsOf 121), by kernel_rfl, fun a b => .inl rfl⟩, fun e k w => by unfold encName; kernel_rfl, fun a b w => ?_, fun k => ?_⟩
  · have hS : Tryz.prog.underlying 121 = some (.struct (Tryz.prog.fieldsOf 121)) := by kernel_rfl
    have hp : Tryz.prog.stoodInHeld 121 = false := by kernel_rfl
    have u23 := Tryz.underlying23
    simp only [encName, Op.equal, Op.maxDepth]
    rw [show (10000 : Nat) = 9999 + 1 from rfl, run_equalIn_struct w 9999 121 _ _ hS hp]
    simp only [Program.fieldsOf, Tryz.underlying121]
    go_simp
    by_cases h : a = b <;> simp [h] <;> omega
  · simp [encName, Instr.sameBits]

theorem ownerLaw : KeyLaw Tryz.prog 186 encName := by
  refine ⟨⟨.struct (Tryz.prog.fieldsOf 186), by kernel_rfl, fun a b => .inl rfl⟩, fun e k w => by unfold encName; kernel_rfl, fun a b w => ?_, fun k => ?_⟩
  · have hS : Tryz.prog.underlying 186 = some (.struct (Tryz.prog.fieldsOf 186)) := by kernel_rfl
    have hp : Tryz.prog.stoodInHeld 186 = false := by kernel_rfl
    have u23 := Tryz.underlying23
    simp only [encName, Op.equal, Op.maxDepth]
    rw [show (10000 : Nat) = 9999 + 1 from rfl, run_equalIn_struct w 9999 186 _ _ hS hp]
    simp only [Program.fieldsOf, Tryz.underlying186]
    go_simp
    by_cases h : a = b <;> simp [h] <;> omega
  · simp [encName, Instr.sameBits]

/-- An entry's key: its value, its record's id. -/
def encKey (x : Nat × Nat) : Value := .agg #[.int .u32 x.1, .int .u64 x.2]

theorem keyLaw : KeyLaw Tryz.prog 168 encKey := by
  refine ⟨⟨.struct (Tryz.prog.fieldsOf 168), by kernel_rfl, fun a b => .inl rfl⟩, fun e k w => by unfold encKey; kernel_rfl, fun a b w => ?_, fun k => ?_⟩
  · have hS : Tryz.prog.underlying 168 = some (.struct (Tryz.prog.fieldsOf 168)) := by kernel_rfl
    have hp : Tryz.prog.stoodInHeld 168 = false := by kernel_rfl
    have u23 := Tryz.underlying23
    have u29 := Tryz.underlying29
    simp only [encKey, Op.equal, Op.maxDepth]
    rw [show (10000 : Nat) = 9999 + 1 from rfl, run_equalIn_struct w 9999 168 _ _ hS hp]
    simp only [Program.fieldsOf, Tryz.underlying168]
    go_simp
    obtain ⟨a1, a2⟩ := a
    obtain ⟨b1, b2⟩ := b
    by_cases h1 : a1 = b1 <;> by_cases h2 : a2 = b2 <;> simp [h1, h2] <;> omega
  · simp [encKey, Instr.sameBits]

/-- A hub's node. -/
def encPlace (x : Int × Nat) : Value := .agg #[.int .i64 x.1, .int .u32 x.2]

theorem placeLaw : KeyLaw Tryz.prog 103 encPlace := by
  refine ⟨⟨.struct (Tryz.prog.fieldsOf 103), by kernel_rfl, fun a b => .inl rfl⟩, fun e k w => by unfold encPlace; kernel_rfl, fun a b w => ?_, fun k => ?_⟩
  · have hS : Tryz.prog.underlying 103 = some (.struct (Tryz.prog.fieldsOf 103)) := by kernel_rfl
    have hp : Tryz.prog.stoodInHeld 103 = false := by kernel_rfl
    have u23 := Tryz.underlying23
    have u3 := Tryz.underlying3
    simp only [encPlace, Op.equal, Op.maxDepth]
    rw [show (10000 : Nat) = 9999 + 1 from rfl, run_equalIn_struct w 9999 103 _ _ hS hp]
    simp only [Program.fieldsOf, Tryz.underlying103]
    go_simp
    obtain ⟨a1, a2⟩ := a
    obtain ⟨b1, b2⟩ := b
    by_cases h1 : a1 = b1 <;> by_cases h2 : a2 = b2 <;> simp [h1, h2] <;> omega
  · simp [encPlace, Instr.sameBits]

/-- What a node waits for. -/
structure WaitK where
  hub : Nat
  point : Nat
  value : Nat
  id : Nat
  version : Nat
  deriving DecidableEq
def encWait (x : WaitK) : Value := .agg #[.int .i64 x.hub, .int .u32 x.point, .int .u32 x.value, .int .u64 x.id, .int .u64 x.version]

theorem waitLaw : KeyLaw Tryz.prog 113 encWait := by
  refine ⟨⟨.struct (Tryz.prog.fieldsOf 113), by kernel_rfl, fun a b => .inl rfl⟩, fun e k w => by unfold encWait; kernel_rfl, fun a b w => ?_, fun k => ?_⟩
  · have hS : Tryz.prog.underlying 113 = some (.struct (Tryz.prog.fieldsOf 113)) := by kernel_rfl
    have hp : Tryz.prog.stoodInHeld 113 = false := by kernel_rfl
    have u23 := Tryz.underlying23
    have u3 := Tryz.underlying3
    have u29 := Tryz.underlying29
    simp only [encWait, Op.equal, Op.maxDepth]
    rw [show (10000 : Nat) = 9999 + 1 from rfl, run_equalIn_struct w 9999 113 _ _ hS hp]
    simp only [Program.fieldsOf, Tryz.underlying113]
    go_simp
    obtain ⟨a1, a2, a3, a4, a5⟩ := a
    obtain ⟨b1, b2, b3, b4, b5⟩ := b
    by_cases h1 : a1 = b1 <;> by_cases h2 : a2 = b2 <;> by_cases h3 : a3 = b3 <;> by_cases h4 : a4 = b4 <;> by_cases h5 : a5 = b5 <;> simp [h1, h2, h3, h4, h5] <;> omega
  · simp [encWait, Instr.sameBits]
end Go.Proofs.YtdllibalmjadhaaGreat
