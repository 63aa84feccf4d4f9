/- Append to an owned slice: where the new slice lies. -/
import Derived.Test.YtblgkpfnjlobjaaV9
namespace Go.V
open Go

/-- Behind an append the slice lies where it lay, or in a block that is new. -/
def Moved (w : World) (v v' : Value) : Prop := ∀ k, v'.ownBlock = some k → v.ownBlock = some k ∨ w.heap.size ≤ k

section
variable {P : Program} {t e size bytes : Nat} {z : Value} (ht : P.underlying t = some (.slice e)) (he : ElemT P e size bytes z)
include ht he
theorem appendV_own2 {w : World} {lo : Nat} {v : Value} {n : Nat} {cs : List Value} (hown : Own w lo e size v n cs) {a : Addr} {m c : Nat} (news : List Value) (hl : news.length = m * size)
    (hnews : ∀ j u, news[j]? = some u → w.cell? (a.add j) = some u) (h1 : ∀ u ∈ news, u.oneCell' = true) (h63 : n + m ≤ 9223372036854775807) (hby : (n + m) * bytes ≤ 140737488355328)
    (hlo : lo ≤ w.heap.size) {K : Value → World → Prop} (hK : ∀ v' w', Own w' lo e size v' (n + m) (cs ++ news) → Chg (blkIs v) w w' → Moved w v v' → K v' w') : AppendV P t v (.slice (some a) m c) w K := by
  obtain ⟨i, hi, hz, hs, hb, hzs, h0⟩ := he.out
  obtain ⟨v', w', hr, ho, hg, _⟩ := run_append_own (P := P) w lo t 0 e i z size bytes ht hi hz hs hb hzs h0 v n cs hown a m c news hl hnews h1 (by unfold maxLen; omega) hby hlo
  refine ⟨v', w', fun ty => hr, hK v' w' ho (chg_of_grown hg) ?_⟩
  subst hs
  subst hb
  have hown2 := hown
  rcases hown.2 with ⟨rfl, h0'⟩ | ⟨g, cap, cur, rfl, hbg, hg', hnc, hcm, hcs, htake⟩
  · by_cases hm : m = 0
    · subst hm
      have hn : news = [] := List.eq_nil_of_length_eq_zero (by simpa using hl)
      subst hn
      have hr2 : (Builtin.append_ #[t, t] 0 #[.slice none 0 0, .slice (some a) 0 c]).run P w = .ok (.slice none 0 0) w := by
        simp [Builtin.append_, run_und ht, sizeOf, run_info hi, Builtin.lenOf, Builtin.firstCells, loadCells, loadCellsFrom]
      rw [hr2] at hr
      cases hr
      intro k hk; simp [Value.ownBlock] at hk
    · have hr2 := run_append_nil (P := P) w t 0 e i z ht hi hz a m c news hl hnews (by omega) (by omega) (by have hb := hby; rw [h0', Nat.zero_add] at hb; omega)
      rw [hr2] at hr
      cases hr
      intro k hk
      have hk' : some w.heap.size = some k := hk
      cases hk'; right; omega
  · by_cases hroom : n + m ≤ cap
    · have hfit : n * i.size + news.length ≤ cur.size := by rw [hl, hcs, ← Nat.add_mul]; exact Nat.mul_le_mul_right _ hroom
      have hr2 := run_append_room (P := P) w t 0 e i ht hi g n cap cur hg' a m c news hl hnews h1 hroom hfit
      rw [hr2] at hr
      cases hr
      intro k hk; left; exact hk
    · have holds : ∀ j u, cs[j]? = some u → w.cell? ((⟨g, 0, none⟩ : Addr).add j) = some u := World.ownsRow.cells hown2 (g := g) rfl
      have hr2 := run_append_grow (P := P) w t 0 e i z ht hi hz ⟨g, 0, none⟩ n cap cs hown2.1 holds a m c news hl hnews (by omega) (by omega) (growslice_fits (by omega) hby)
      rw [hr2] at hr
      cases hr
      intro k hk
      have hk' : some w.heap.size = some k := hk
      cases hk'; right; omega
end
end Go.V
