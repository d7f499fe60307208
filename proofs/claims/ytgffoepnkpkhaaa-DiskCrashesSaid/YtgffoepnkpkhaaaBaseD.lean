/- How a disk that is an argument by value is read. -/
import Derived.Test.YtgffoepnkpkhaaaBase
import Derived.Lib.SmallJoins
namespace Go.Proofs.Ytgffoepnkpkhaaa
open Go.ChangeShapes Go.WideShapes Go.ChangeAt Go.RowKit Go.Joins

theorem cells32 : Try.prog.cellsOf 32 = 4 := by kernel_rfl
section
variable {H : Type} {enc : TypeId × Value → H}
/-- a disk that came in by value -/
theorem open_disk {W : World} {r : Reach} {b0 base : Nat} {sp : Nat → Bool} {hd : Bool} {v : Value} {d : DataW H} {p : List MemPlace} (hv : Value.okWide Try.prog W r b0 32 v) (h : DataW.Trod enc Try.prog W base sp hd 32 v d p) :
    ∃ (s u : ByteArray) (f : Int) (q : Bool), v = .agg #[.string s, .string u, .int .i64 f, .bool q] ∧ d = .agg [.lit (.string s.data.toList), .lit (.string u.data.toList), .lit (.int .i64 f), .lit (.bool q)] ∧ p = [] ∧
      s.size ≤ maxLen ∧ u.size ≤ maxLen ∧ (Lit.int .i64 f).wf = true := by
  obtain ⟨c0, c1, c2, c3, y0, y1, y2, y3, m, rfl, rfl, rfl, hy0, hy1, hy2, hy3⟩ := open_agg4 Try.underlying32 (by kernel_rfl) cells32 hv h
  obtain ⟨s, e0, rfl, ws⟩ := DataW.trod_string Try.underlying9 hy0
  obtain ⟨u, e1, rfl, wu⟩ := DataW.trod_string Try.underlying9 hy1
  obtain ⟨f, e2, rfl, wf⟩ := DataW.trod_int Try.underlying3 hy2
  obtain ⟨q, e3, rfl⟩ := DataW.trod_bool Try.underlying4 hy3
  simp at e0 e1 e2 e3
  subst e0 e1 e2 e3
  exact ⟨s, u, f, q, rfl, rfl, rfl, ws, wu, wf⟩
theorem shut_disk {W : World} {base : Nat} {sp : Nat → Bool} {hd : Bool} {s u : ByteArray} {f : Int} {q : Bool} (ws : s.size ≤ maxLen) (wu : u.size ≤ maxLen) (wf : (Lit.int .i64 f).wf = true) :
    DataW.Trod enc Try.prog W base sp hd 32 (.agg #[.string s, .string u, .int .i64 f, .bool q]) (.agg [.lit (.string s.data.toList), .lit (.string u.data.toList), .lit (.int .i64 f), .lit (.bool q)]) [] := by
  have e0 : ∃ n, DataW.trod enc Try.prog W base sp hd n 9 [.string s] = some (.lit (.string s.data.toList), []) := by
    obtain ⟨n, hn⟩ := Go.ChangeMaps.shut_string (enc := enc) (w := W) (base := base) (sp := sp) Try.underlying9 ws
    exact ⟨n, by simpa [Value.cells] using hn⟩
  have e1 : ∃ n, DataW.trod enc Try.prog W base sp hd n 9 [.string u] = some (.lit (.string u.data.toList), []) := by
    obtain ⟨n, hn⟩ := Go.ChangeMaps.shut_string (enc := enc) (w := W) (base := base) (sp := sp) Try.underlying9 wu
    exact ⟨n, by simpa [Value.cells] using hn⟩
  exact shut_agg4 (y0 := (.lit (.string s.data.toList), [])) (y1 := (.lit (.string u.data.toList), [])) (y2 := (.lit (.int .i64 f), [])) (y3 := (.lit (.bool q), [])) Try.underlying32 (by kernel_rfl) cells32 e0 e1
    ⟨1, by simp [DataW.trod, Try.underlying3, wf]⟩ ⟨1, by simp [DataW.trod, Try.underlying4]⟩
end
end Go.Proofs.Ytgffoepnkpkhaaa
