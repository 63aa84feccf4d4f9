/- How an argument that is a plan, or a list of numbers, is read. -/
import Derived.Test.YtblgkpfnjlobjaaExact
import Derived.Deep.Slices
import Derived.ChangeArms
namespace Go.Proofs.Ytblgkpfnjlobjaa
open Go Go.V Go.Deep Go.ChangeShapes Go.WideShapes

theorem un_int : Try.prog.underlying T.int = some (.int .i64) := by kernel_rfl
theorem sl_lnode : Try.prog.underlying T.sl_laws_Node = some (.slice T.laws_Node) := by kernel_rfl
theorem fields_lnode : (match Try.prog.underlying T.laws_Node with | some (.struct fs) => (fs.map fun f => (f.type, f.offset)).toList | _ => []) = [(T.int, 0), (T.sl_int, 1), (T.sl_int, 2)] := by kernel_rfl
theorem cells_lnode : Try.prog.cellsOf T.laws_Node = 3 := by kernel_rfl
theorem cells_int : Try.prog.cellsOf T.int = 1 := by kernel_rfl
theorem cells_slint : Try.prog.cellsOf T.sl_int = 1 := by kernel_rfl

theorem len3 {cs : List Value} (h : cs.length = 3) : ∃ a b c, cs = [a, b, c] := by
  match cs with
  | [a, b, c] => exact ⟨a, b, c, rfl⟩
  | [] => simp at h
  | [_] => simp at h
  | [_, _] => simp at h
  | _ :: _ :: _ :: _ :: _ => simp at h

section
variable {H : Type} {enc : TypeId × Value → H}
theorem ints_of_trod {w : World} {fuel : Nat} {cs : List Value} {x : DataW H × List MemPlace} (h : DataW.trod enc Try.prog w 0 (fun _ => true) true fuel T.sl_int cs = some x) :
    ∃ v xs, cs = [v] ∧ Ints w v xs ∧ xs.length ≤ 9223372036854775807 := by
  rcases open_ints sl_int un_int cells_int h with ⟨rfl, _⟩ | ⟨a, l, c, zs, rfl, _, hl, hm, hz, _, hcell, hw⟩
  · exact ⟨_, [], rfl, Ints.nil, by simp⟩
  · refine ⟨_, zs.take l, rfl, (RowIn.of hl (by simpa using hz) hcell hw).ints, ?_⟩
    rw [List.length_take]; unfold maxLen at hm; omega

theorem node_of_trod {w : World} {fuel : Nat} {cs : List Value} {x : DataW H × List MemPlace} (h : DataW.trod enc Try.prog w 0 (fun _ => true) true fuel T.laws_Node cs = some x) :
    ∃ (n : Nd) (fv rv : Value), cs = [.int .i64 n.kind, fv, rv] ∧ Ints w fv n.frm ∧ Ints w rv n.row ∧ n.frm.length ≤ 9223372036854775807 ∧ n.row.length ≤ 9223372036854775807 := by
  have hf := fields_lnode
  split at hf
  · rename_i fs hfs
    obtain ⟨xs, n, rfl, rfl, hlen, hxl, hx⟩ := DataW.trod_struct hfs h
    rw [cells_lnode] at hlen
    obtain ⟨c0, c1, c2, rfl⟩ := len3 hlen
    have hsz : fs.size = 3 := by
      have := congrArg List.length hf
      simpa using this
    have fld : ∀ (i t o : Nat), ([(T.int, 0), (T.sl_int, 1), (T.sl_int, 2)] : List (Nat × Nat))[i]? = some (t, o) → ∃ f : Field, fs[i]? = some f ∧ f.type = t ∧ f.offset = o := by
      intro i t o hi
      rw [← hf] at hi
      simp only [Array.toList_map, List.getElem?_map, Array.getElem?_toList, Option.map_eq_some_iff] at hi
      obtain ⟨f, h1, h2⟩ := hi
      simp only [Prod.mk.injEq] at h2
      exact ⟨f, h1, h2.1, h2.2⟩
    have some_ : ∀ i, i < 3 → ∃ y, xs[i]? = some y := fun i hi => ⟨xs[i]'(by omega), by simp [hxl, hsz, hi]⟩
    obtain ⟨f0, g0, t0, o0⟩ := fld 0 _ _ rfl
    obtain ⟨f1, g1, t1, o1⟩ := fld 1 _ _ rfl
    obtain ⟨f2, g2, t2, o2⟩ := fld 2 _ _ rfl
    have k0 := hx 0 f0 g0
    have k1 := hx 1 f1 g1
    have k2 := hx 2 f2 g2
    obtain ⟨y0, e0⟩ := some_ 0 (by omega)
    obtain ⟨y1, e1⟩ := some_ 1 (by omega)
    obtain ⟨y2, e2⟩ := some_ 2 (by omega)
    rw [t0, o0, cells_int, e0] at k0
    rw [t1, o1, cells_slint, e1] at k1
    rw [t2, o2, cells_slint, e2] at k2
    obtain ⟨m, hm, _, _⟩ := DataW.trod_int un_int k0
    obtain ⟨v1, xs1, hv1, hi1, hl1⟩ := ints_of_trod k1
    obtain ⟨v2, xs2, hv2, hi2, hl2⟩ := ints_of_trod k2
    simp at hm hv1 hv2
    subst hm hv1 hv2
    exact ⟨⟨m, xs1, xs2⟩, _, _, rfl, hi1, hi2, hl1, hl2⟩
  · cases hf

instance : Inhabited Nd := ⟨⟨0, [], []⟩⟩

theorem plan_of_trod {w : World} {v : Value} {d : DataW H} {pl : List MemPlace} (h : DataW.Trod enc Try.prog w 0 (fun _ => true) true T.sl_laws_Node v d pl) (hv : ∃ a len cap, v = .slice a len cap) : ∃ p, PlanRaw w v p := by
  obtain ⟨a, len, cap, rfl⟩ := hv
  obtain ⟨fuel, hf⟩ := h
  rcases open_slice sl_lnode hf with ⟨hcs, _⟩ | ⟨x, l, c, m, n, D, Pl, hcs, _, hl, hm, hmm, _, hx⟩
  · simp [Value.cells] at hcs
    obtain ⟨rfl, rfl, rfl⟩ := hcs
    exact ⟨[], none, 0, rfl, Nat.le_refl _, by simp, fun i x hi => by simp at hi⟩
  · simp [Value.cells] at hcs
    obtain ⟨rfl, rfl, rfl⟩ := hcs
    simp only [if_true] at hmm
    subst hmm
    rw [cells_lnode] at hx
    obtain ⟨f, hf⟩ := choose_lt (α := Nd) (n := len) (p := fun i y => ∃ fv rv, w.cell? (x.add (i * 3)) = some (.int .i64 y.kind) ∧ w.cell? ((x.add (i * 3)).add 1) = some fv ∧ w.cell? ((x.add (i * 3)).add 2) = some rv ∧ Ints w fv y.frm ∧ Ints w rv y.row ∧ y.frm.length ≤ 9223372036854775807 ∧ y.row.length ≤ 9223372036854775807) (fun i hi => by
      obtain ⟨cs', h1, h2⟩ := hx i (by omega)
      obtain ⟨y, fv, rv, rfl, k1, k2, k3, k4⟩ := node_of_trod h2
      obtain ⟨_, _, hc⟩ := World.cells?_some h1
      have c0 := hc 0 (by omega)
      exact ⟨y, fv, rv, by rw [add_zero] at c0; simpa using c0, by simpa using hc 1 (by omega), by simpa using hc 2 (by omega), k1, k2, k3, k4⟩)
    refine ⟨(List.range len).map f, some x, m, by simp, by simpa using hl, by simp; unfold maxLen at hm; omega, fun i y hi => ?_⟩
    rw [List.getElem?_map] at hi
    have hil : i < len := by
      refine Classical.byContradiction fun h => ?_
      rw [List.getElem?_eq_none (by simp; omega)] at hi; simp at hi
    rw [List.getElem?_range hil] at hi
    simp at hi
    subst hi
    obtain ⟨fv, rv, c0, c1, c2, k1, k2, k3, k4⟩ := hf i hil
    have hspot : x.spot = none := by
      cases hs : x.spot with
      | none => rfl
      | some q =>
        exfalso
        obtain ⟨_, _, c0, _⟩ := hf 0 (by omega)
        simp [Addr.add, World.cell?, hs] at c0
        split at c0 <;> simp at c0
    obtain ⟨b, off, spot⟩ := x
    simp only at hspot
    subst hspot
    simp only [addr_add] at c0 c1 c2
    rw [show off + i * 3 = off + 3 * i by omega] at c0 c1 c2
    exact ⟨b, off, fv, rv, rfl, c0, c1, c2, k1, k2, k3, k4⟩

theorem ints_arg {w : World} {v : Value} {d : DataW H} {pl : List MemPlace} (h : DataW.Trod enc Try.prog w 0 (fun _ => true) true T.sl_int v d pl) (hv : ∃ a len cap, v = .slice a len cap) : ∃ xs, Ints w v xs := by
  obtain ⟨a, len, cap, rfl⟩ := hv
  obtain ⟨fuel, hf⟩ := h
  obtain ⟨u, xs, hu, hx, _⟩ := ints_of_trod hf
  simp [Value.cells] at hu
  subst hu
  exact ⟨xs, hx⟩
end
end Go.Proofs.Ytblgkpfnjlobjaa
