/-
  Arguments opened to plain data, with the room that they take.
-/
import Derived.Test.YtbpamllmbdcdfaaRow
import Derived.SizedLaws
namespace Go.Proofs.Ytbpamllmbdcdfaa
open Go.RowKit Go.ChangeShapes Go.WideShapes Go.ChangeAt Go.Deep

theorem open_sl_sized {α : Type} {P : Program} {r : Rep α} {t e : TypeId} (ht : P.underlying t = some (.slice e)) (h : Opens P (slR r) t) {H : Type} {enc : TypeId × Value → H} {W : World} {b : Nat} {q : Reach} {v : Value} {d : DataW H} {p : List MemPlace}
    (hv : Value.okWide P W q b t v) (hr : DataW.Trod enc P W 0 (fun _ => true) true t v d p) {ts : List TypeId} {ds : List (DataW H)} {j : Nat} (hz : (DataW.weightsEach P ts ds).all (· ≤ reachBytes) = true) (hts : ts[j]? = some t) (hds : ds[j]? = some d) {m : Nat} (hm : P.bytesOf e = m) :
    ∃ xs, Sl r W v xs ∧ xs.length * m ≤ 140737488351232 := by
  obtain ⟨xs, hs⟩ := open_sl ht h hv hr
  refine ⟨xs, hs, ?_⟩
  obtain ⟨A, c, rfl⟩ := hs.form
  obtain ⟨fuel, hf⟩ := hr
  rcases open_slice ht hf with ⟨h1, _⟩ | ⟨a, len, cap, k, n, D, Pl, h1, _, hl, _, _, hx, _⟩
  · have : Value.slice A xs.length c = .slice none 0 0 := by simpa [Value.cells] using h1
    injection this with _ e2 _
    rw [e2]; omega
  · have : Value.slice A xs.length c = .slice (some a) len cap := by simpa [Value.cells] using h1
    injection this with _ e2 _
    injection hx with hd _
    subst hd
    have := sized_slice hz hts hds ht
    rw [List.length_map, List.length_map, List.length_range, List.length_range, hm] at this
    have h2 : xs.length * m ≤ (len + (k - len)) * m := Nat.mul_le_mul_right _ (by omega)
    have h3 : reachBytes = 140737488351232 := rfl
    omega
theorem opens_bytes : Opens Try.prog (slR byteR) 45 := opens_slice Try.underlying45 (by kernel_rfl) (by decide) (opens_byte Try.underlying5 (by kernel_rfl))
end Go.Proofs.Ytbpamllmbdcdfaa
