/- The operations that look at memory are sound. -/
import Derived.Test.YtokfjjjfecblgaaV3
namespace Go.V
open Go

theorem put_setCell {w : World} {b off : Nat} {cur : Array Value} {T : TypeId} (hb : w.heap[b]? = some (.cells cur T (0, 0))) (v : Value) :
    Put w b (.cells (cur.setIfInBounds off v) T (0, 0)) (w.setCell ⟨b, off, none⟩ v) := by
  have hlt := lt_of_at hb
  refine ⟨⟨rfl, rfl, rfl, by simp [World.setCell], fun k hk hn => ?_⟩, by simp [World.setCell], ?_⟩
  · simp only [World.setCell, Array.getElem?_modify]
    rw [if_neg (fun e => hn e.symm)]
  · simp [World.setCell, Array.getElem?_modify, hb]

theorem Put.trans {w w1 w2 : World} {b : Nat} {o o' : Obj} (h : Put w b o w1) (k : Put w1 b o' w2) : Put w b o' w2 :=
  ⟨h.chg.andThen k.chg, k.size.trans h.size, k.here⟩

theorem addr_add (b off j : Nat) : (⟨b, off, none⟩ : Addr).add j = ⟨b, off + j, none⟩ := by
  unfold Addr.add; split <;> simp_all

theorem run_storeCells {P : Program} {b off : Nat} {T : TypeId} : ∀ (vs : List Value) (i : Nat) (cur : Array Value) (w : World),
    w.heap[b]? = some (.cells cur T (0, 0)) → off + i + vs.length ≤ cur.size → (∀ u ∈ vs, u.oneCell' = true) →
    ∃ w', (storeCells ⟨b, off, none⟩ vs i).run P w = .ok () w' ∧ Put w b (.cells (splice cur (off + i) vs) T (0, 0)) w'
  | [], i, cur, w, hb, _, _ => ⟨w, by simp [storeCells], ⟨Chg.refl _ _, rfl, hb⟩⟩
  | v :: vs, i, cur, w, hb, hsz, h1 => by
    have hv := h1 v (by simp)
    have hlt : off + i < cur.size := by simp at hsz; omega
    have hc : w.cell? ⟨b, off + i, none⟩ = some cur[off + i] := by simp [World.cell?, hb, hlt]
    have hf : w.frozen? ⟨b, off + i, none⟩ = false := by simp [World.frozen?, hb]
    have hp := put_setCell (off := off + i) hb v
    obtain ⟨w', hr, hp'⟩ := run_storeCells (off := off) (P := P) vs (i + 1) _ _ hp.here (by simp at hsz ⊢; omega) (fun u hu => h1 u (by simp [hu]))
    refine ⟨w', ?_, hp.trans (by simpa [splice, Nat.add_assoc] using hp')⟩
    simp [storeCells, addr_add, run_store P w _ v _ hv, hc, hf, hr]

theorem run_isAgg {P : Program} {t : TypeId} {g : Bool} (h : aggOf P t = some g) (w : World) : (isAgg t).run P w = .ok g w := by
  unfold aggOf at h
  split at h
  · rename_i hu; cases h; simp [isAgg, run_und hu]
  · rename_i hu; cases h; simp [isAgg, run_und hu]
  · rename_i d h1 h2 hu
    cases h
    cases d <;> first | exact (h1 _ rfl).elim | exact (h2 _ _ rfl).elim | simp [isAgg, run_und hu]
  · cases h

theorem load_sound {P : Program} {t : TypeId} {g : Bool} {n : Nat} {p : Value} {w : World} {K : Value → Prop} (hg : aggOf P t = some g) (hn : sizeN P t = some n)
    (h : LoadV g n p w K) : ∃ v, (Instr.loadAt t p).run P w = .ok v w ∧ K v := by
  unfold LoadV at h
  split at h
  · rename_i a
    split at h
    · obtain ⟨vs, hl, hc, hK⟩ := h
      refine ⟨_, ?_, hK⟩
      have := run_loadCells_list (P := P) w a vs hc
      subst hl
      simp [Instr.loadAt, Instr.sureAddr, loadVar, run_isAgg hg, run_size hn, this]
    · obtain ⟨v, hc, hK⟩ := h
      exact ⟨v, by simp [Instr.loadAt, Instr.sureAddr, loadVar, run_isAgg hg, hc], hK⟩
  · exact h.elim

theorem store_sound {P : Program} {t : TypeId} {n : Nat} {p v : Value} {w : World} {K : World → Prop} (hn : sizeN P t = some n)
    (h : StoreV n p v w K) : ∃ w', (Instr.storeAt t p v).run P w = .ok () w' ∧ K w' := by
  unfold StoreV at h
  split at h
  · rename_i a
    obtain ⟨cur, T, hs, hb, hsz, hfit, h1, hK⟩ := h
    obtain ⟨b, off, spot⟩ := a
    simp only at hs hb hfit hK
    subst hs
    obtain ⟨w', hr, hp⟩ := run_storeCells (off := off) (P := P) v.cells.toList 0 cur w hb (by simp; omega) h1
    exact ⟨w', by simp [Instr.storeAt, Instr.sureAddr, storeVar, run_size hn, hsz, hr], hK _ hp⟩
  · exact h.elim

theorem run_newRow {P : Program} (e : TypeId) (c : Array Value) (w : World) : (newRow e c).run P w = .ok ⟨w.heap.size, 0, none⟩ (w.alloc (.cells c e (0, 0))) := by
  simp [newRow]

theorem box_sound {P : Program} {e : TypeId} {v : Value} {w : World} {K : Value → World → Prop} (h : BoxV e v w K) :
    ∃ u w', (Instr.box e v).run P w = .ok u w' ∧ K u w' :=
  ⟨_, _, by simp [Instr.box, newVar, run_newRow], h _ (new_alloc w _)⟩

theorem alloc_sound {P : Program} {e : TypeId} {z : Value} {w : World} {K : Value → World → Prop} (hz : zeroOf P e = some z) (h : BoxV e z w K) :
    ∃ u w', (Instr.alloc e true (.tuple #[])).run P w = .ok u w' ∧ K u w' :=
  ⟨_, _, by simp [Instr.alloc, newVar, run_newRow, run_zero hz], h _ (new_alloc w _)⟩

theorem map_range0 {f : Nat → Value} : (Array.range 0).map f = #[] := Array.eq_empty_of_size_eq_zero (by simp)

theorem bslice_sound {P : Program} {t e n len : Nat} {z : Array Value} {parts : Array (Nat × Value)} {w : World} {K : Value → World → Prop} (ht : P.underlying t = some (.slice e))
    (hn : sizeN P e = some n) (hz : zeroC P e = some z) (hlim : len * n ≤ 16777216) (h : BSliceV e n len z parts.toList w K) :
    ∃ u w', (Instr.buildSlice t len parts).run P w = .ok u w' ∧ K u w' := by
  obtain ⟨cells, hf, hK⟩ := h
  refine ⟨_, _, ?_, hK _ (new_alloc w _)⟩
  obtain ⟨zv, hzr, hzc⟩ := run_zeroC hz w
  have hlim' : ¬ (len * n > 2 ^ 24) := by omega
  subst hzc
  by_cases h0 : len * n = 0
  · have hf' : Instr.fill (fun i => some (i * n, n)) #[] parts.toList = some cells := by
      rw [h0] at hf; rw [← map_range0]; exact hf
    simp [Instr.buildSlice, run_und ht, run_size hn, h0, hf', map_range0, run_newRow]
  · have hf' : Instr.fill (fun i => some (i * n, n)) ((Array.range (len * n)).map (zv.cells[· % zv.cells.size]!)) parts.toList = some cells := hf
    simp [Instr.buildSlice, run_und ht, run_size hn, hlim', hzr, hf', run_newRow]
    intro h; exact absurd h h0

theorem makeSlice_sound {P : Program} {t e n bytes : Nat} {z : Array Value} {l c : Value} {w : World} {K : Value → World → Prop} (ht : P.underlying t = some (.slice e))
    (hn : sizeN P e = some n) (hz : zeroC P e = some z) (hb : bytesN P e = some bytes) (h : MakeSliceV e n bytes z l c w K) :
    ∃ u w', (Instr.makeSlice t l c).run P w = .ok u w' ∧ K u w' := by
  unfold MakeSliceV at h
  split at h
  · rename_i l c
    obtain ⟨h0, h1, h2, h3, hK⟩ := h
    refine ⟨_, _, ?_, hK _ (new_alloc w _)⟩
    obtain ⟨zv, hzr, hzc⟩ := run_zeroC hz w
    subst hzc
    unfold bytesN at hb
    cases hi : P.info? e with
    | none => simp [hi] at hb
    | some i =>
      simp [hi] at hb
      have hwl : IntKind.i64.wrap l = l := by simp [IntKind.wrap, IntKind.bits, IntKind.signed]; omega
      have hwc : IntKind.i64.wrap c = c := by simp [IntKind.wrap, IntKind.bits, IntKind.signed]; omega
      have hc0 : 0 ≤ c := by omega
      have hbc : ¬ ((bytes : Int) * c > 2 ^ 48) := by rw [Int.mul_comm]; omega
      have hbc' : (281474976710656 < (bytes : Int) * c) = False := by simp; rw [Int.mul_comm]; omega
      have hcn : (c < 0) = False := by simp; omega
      have hln : (l < 0) = False := by simp; omega
      have hcl : (c < l) = False := by simp; omega
      by_cases hz0 : c.toNat * n = 0
      · simp [Instr.makeSlice, run_und ht, asInt, asIntOf, run_info hi, hb, hwl, hwc, hbc', hcn, hln, hcl, run_size hn, hz0, map_range0, run_newRow, rowOf]
      · simp [Instr.makeSlice, run_und ht, asInt, asIntOf, run_info hi, hb, hwl, hwc, hbc', hcn, hln, hcl, run_size hn, hzr, run_newRow, rowOf]
        intro h; exact absurd h hz0
  · exact h.elim

theorem peqv_sound {P : Program} {t e n : Nat} {x y : Value} {neg : Bool} {w : World} {K : Value → Prop} (ht : P.underlying t = some (.pointer e)) (hn : sizeN P e = some (n + 1))
    (h : PEqV neg x y w K) : ∃ v, (∀ (a b : Operand), ((do eqGuard (if neg then .neq else .eql) t a b x y; binOp (if neg then .neq else .eql) t x y) : Sem Value).run P w = .ok v w) ∧ K v := by
  unfold PEqV at h
  split at h
  · rename_i a b
    obtain ⟨ca, ta, cb, tb, ha, hb, hK⟩ := h
    refine ⟨_, fun c d => ?_, hK⟩
    have hd : ∀ d, (Op.equalIn (d + 1) t (.pointer (some a)) (.pointer (some b))).run P w = .ok (decide (a = b)) w := by
      intro d
      by_cases hab : a = b
      · subst hab
        simp [Op.equalIn, run_und ht, run_size hn, run_sameAddr_same]
      · simp [Op.equalIn, run_und ht, run_size hn, run_sameAddr_other w hab ha hb, hab]
    have he : (Op.equal t (.pointer (some a)) (.pointer (some b))).run P w = .ok (decide (a = b)) w := hd 9999
    cases neg <;> simp [eqGuard, binOp, he]
  · exact h.elim
end Go.V
