/- The pure operations are sound. -/
import Derived.Test.YtokfjjjfecblgaaV1
namespace Go.V
open Go

def RunsTo (P : Program) (ρ : Operand → Value) (o : Oper) (v : Value) : Prop := ∀ w, (execOp ρ o).run P w = .ok (.value v) w

theorem run_mapN {P : Program} {w : World} {s : Sem Value} {v : Value} (h : s.run P w = .ok v w) :
    ((do pure (.value (← s))) : Sem Next).run P w = .ok (.value v) w := by simp [h]

theorem run_und {P : Program} {t : TypeId} {d : TypeDesc} (h : P.underlying t = some d) (w : World) : (underlying t).run P w = .ok d w := by
  simp [underlying, h]

theorem run_info {P : Program} {t : TypeId} {i : TypeInfo} (h : P.info? t = some i) (w : World) : (typeInfo t).run P w = .ok i w := by
  simp [typeInfo, h]

theorem run_size {P : Program} {t : TypeId} {n : Nat} (h : sizeN P t = some n) (w : World) : (sizeOf t).run P w = .ok n w := by
  unfold sizeN at h
  cases hi : P.info? t with
  | none => simp [hi] at h
  | some i => simp [hi] at h; simp [sizeOf, run_info hi, h]

theorem run_zero {P : Program} {t : TypeId} {z : Value} (h : zeroOf P t = some z) (w : World) : (zeroValue t).run P w = .ok z w := by
  unfold zeroOf at h
  cases hi : P.info? t with
  | none => simp [hi] at h
  | some i => simp [hi] at h; simp [zeroValue, run_info hi, h]

theorem run_zeroC {P : Program} {t : TypeId} {z : Array Value} (h : zeroC P t = some z) (w : World) : ∃ v, (zeroValue t).run P w = .ok v w ∧ v.cells = z := by
  unfold zeroC at h
  cases hi : P.info? t with
  | none => simp [hi] at h
  | some i =>
    simp only [hi, Option.map_eq_some_iff] at h
    obtain ⟨v, hv, hz⟩ := h
    exact ⟨v, by simp [zeroValue, run_info hi, hv], hz⟩

theorem binV_sound {P : Program} {op : BinOp} {t : TypeId} {x y : Value} {K : Value → Prop} (h : BinV op x y K) :
    ∃ v, (∀ w, (binOp op t x y).run P w = .ok v w) ∧ K v ∧ (∀ (a b : Operand) w, (eqGuard op t a b x y).run P w = .ok () w) := by
  unfold BinV at h
  split at h
  · rename_i k a k' b
    obtain ⟨rfl, h⟩ := h
    have hg : ∀ (c d : Operand) w, (eqGuard op t c d (.int k a) (.int k b)).run P w = .ok () w := by
      intro c d w; unfold eqGuard; cases op <;> simp
    cases op <;> simp only at h
    case add => exact ⟨_, fun w => by simp [binOp, Op.intArith, h.1.eq], h.2, hg⟩
    case sub => exact ⟨_, fun w => by simp [binOp, Op.intArith, h.1.eq], h.2, hg⟩
    case mul => exact ⟨_, fun w => by simp [binOp, Op.intArith, h.1.eq], h.2, hg⟩
    case quo => exact ⟨_, fun w => by simp [binOp, Op.intDiv, h.1, h.2.1.eq], h.2.2, hg⟩
    case rem => exact ⟨_, fun w => by simp [binOp, Op.intDiv, h.1], h.2, hg⟩
    case and => exact ⟨_, fun w => by simp [binOp, Op.intBits], h, hg⟩
    case or => exact ⟨_, fun w => by simp [binOp, Op.intBits], h, hg⟩
    case xor => exact ⟨_, fun w => by simp [binOp, Op.intBits], h, hg⟩
    case eql => exact ⟨_, fun w => by simp [binOp, Op.intCmp], h, hg⟩
    case neq => exact ⟨_, fun w => by simp [binOp, Op.intCmp], h, hg⟩
    case lss => exact ⟨_, fun w => by simp [binOp, Op.intCmp], h, hg⟩
    case leq => exact ⟨_, fun w => by simp [binOp, Op.intCmp], h, hg⟩
    case gtr => exact ⟨_, fun w => by simp [binOp, Op.intCmp], h, hg⟩
    case geq => exact ⟨_, fun w => by simp [binOp, Op.intCmp], h, hg⟩
    all_goals exact h.elim
  · exact h.elim

theorem boolV_sound {P : Program} {op : BinOp} {t : TypeId} {x y : Value} {K : Value → Prop} (ht : P.underlying t = some .bool) (h : BoolV op x y K) :
    ∃ v, (∀ w, (binOp op t x y).run P w = .ok v w) ∧ K v ∧ (∀ (a b : Operand) w, (eqGuard op t a b x y).run P w = .ok () w) := by
  unfold BoolV at h
  split at h
  · rename_i a b
    have hg : ∀ (c d : Operand) w, (eqGuard op t c d (.bool a) (.bool b)).run P w = .ok () w := by
      intro c d w; unfold eqGuard; cases op <;> simp
    cases op <;> simp only at h
    case eql => exact ⟨_, fun w => run_eql_bool w t a b ht, h, hg⟩
    case neq => exact ⟨_, fun w => run_neq_bool w t a b ht, h, hg⟩
    all_goals exact h.elim
  · exact h.elim

theorem inilV_sound {P : Program} {op : BinOp} {t : TypeId} {ms : Array (String × TypeId)} {x : Value} {cx cy : Operand} (hc : isNilC cy = true) {K : Value → Prop} (ht : P.underlying t = some (.interface ms)) (h : INilV op x K) :
    ∃ v, (∀ w, (binOp op t x .nilIface).run P w = .ok v w) ∧ K v ∧ (∀ w, (eqGuard op t cx cy x .nilIface).run P w = .ok () w) := by
  have hcy : cy = .const .nilIface := by
    unfold isNilC at hc
    split at hc
    · rfl
    · cases hc
  subst hcy
  unfold INilV at h
  split at h
  · have hg : ∀ w, (eqGuard op t cx (.const .nilIface) .nilIface .nilIface).run P w = .ok () w := by
      intro w; unfold eqGuard; cases op <;> simp
    have he : ∀ w d, (Op.equalIn (d + 1) t .nilIface .nilIface).run P w = .ok true w := by
      intro w d; simp [Op.equalIn, run_und ht]
    cases op <;> simp only at h
    case eql => exact ⟨_, fun w => by simp [binOp, Op.equal, Op.maxDepth, he], h, hg⟩
    case neq => exact ⟨_, fun w => by simp [binOp, Op.equal, Op.maxDepth, he], h, hg⟩
    all_goals exact h.elim
  · rename_i u v
    have hg : ∀ w, (eqGuard op t cx (.const .nilIface) (.iface u v) .nilIface).run P w = .ok () w := by
      intro w; unfold eqGuard; cases op <;> simp
    have he : ∀ w d, (Op.equalIn (d + 1) t (.iface u v) .nilIface).run P w = .ok false w := by
      intro w d; simp [Op.equalIn, run_und ht]
    cases op <;> simp only at h
    case eql => exact ⟨_, fun w => by simp [binOp, Op.equal, Op.maxDepth, he], h, hg⟩
    case neq => exact ⟨_, fun w => by simp [binOp, Op.equal, Op.maxDepth, he], h, hg⟩
    all_goals exact h.elim
  · exact h.elim


theorem bndV_run {P : Program} {d y : Nat} {o : Option Value} {n : Int} {c : BoundsCode} (h : bndV d o = some n) (h0 : 0 ≤ n) (hy : n ≤ y) (w : World) :
    (match o with | some v => Instr.sliceBound v y c | none => (pure d : Sem Nat)).run P w = .ok n.toNat w := by
  unfold bndV at h
  split at h
  · cases h; simp
  · cases h; simp [Instr.sliceBound, asIntOf, h0, hy]
  · cases h

theorem sliceBounds_run {P : Program} {len cap : Nat} {b : Bool} {lo hi : Option Value} {l h : Int} (hl : bndV 0 lo = some l) (hh : bndV len hi = some h)
    (h0 : 0 ≤ l) (h1 : l ≤ h) (h2 : h ≤ cap) (w : World) : (Instr.sliceBounds b len cap lo hi none).run P w = .ok (l.toNat, h.toNat, cap) w := by
  have e1 := bndV_run (P := P) (y := h.toNat) (c := .sliceB) hl h0 (by omega) w
  unfold Instr.sliceBounds
  cases hi with
  | none =>
    cases hh
    simp at e1 ⊢
    cases lo with
    | none => cases hl; simp
    | some v => simp at e1 ⊢; simp [e1]
  | some v =>
    have e2 := bndV_run (P := P) (y := cap) (c := if b = true then .sliceAcap else .sliceAlen) hh (by omega) h2 w
    simp at e2 ⊢
    simp [e2]
    cases lo with
    | none => cases hl; simp
    | some v => simp at e1 ⊢; simp [e1]

theorem sliceV_sound {P : Program} {t e n : Nat} {s : Value} {lo hi : Option Value} {K : Value → Prop} (ht : P.underlying t = some (.slice e)) (hn : sizeN P e = some n)
    (h : SliceV n s lo hi K) : ∃ v, (∀ w, (Instr.sliceAt t s lo hi none).run P w = .ok v w) ∧ K v := by
  unfold SliceV at h
  split at h
  · rename_i a len cap
    split at h
    · rename_i l hh hl hhh
      obtain ⟨h0, h1, h2, _, hK⟩ := h
      refine ⟨_, fun w => ?_, hK⟩
      simp [Instr.sliceAt, Instr.slice, run_und ht, sliceBounds_run hl hhh h0 h1 h2, run_size hn]
    · exact h.elim
  · exact h.elim

theorem sliceAV_sound {P : Program} {t e n len : Nat} {s : Value} {lo hi : Option Value} {K : Value → Prop} (ht : P.underlying t = some (.array len e)) (hn : sizeN P e = some n)
    (h : SliceAV len n s lo hi K) : ∃ v, (∀ w, (Instr.sliceAt t s lo hi none).run P w = .ok v w) ∧ K v := by
  unfold SliceAV at h
  split at h
  · rename_i a
    split at h
    · rename_i l hh hl hhh
      obtain ⟨h0, h1, h2, hK⟩ := h
      refine ⟨_, fun w => ?_, hK⟩
      simp [Instr.sliceAt, Instr.sureAddr, run_und ht, sliceBounds_run hl hhh h0 h1 h2, run_size hn]
    · exact h.elim
  · exact h.elim

theorem idxV_sound {P : Program} {t e n : Nat} {s i : Value} {K : Value → Prop} (ht : P.underlying t = some (.slice e)) (hn : sizeN P e = some n)
    (h : IdxV n s i K) : ∃ v, (∀ w, (Instr.indexAt t s i).run P w = .ok v w) ∧ K v := by
  unfold IdxV at h
  split at h
  · obtain ⟨h0, h1, hK⟩ := h
    exact ⟨_, fun w => by simp [Instr.indexAt, asIntOf, run_und ht, run_size hn, h0, h1], hK⟩
  · exact h.elim

theorem idxAV_sound {P : Program} {t e n len : Nat} {s i : Value} {K : Value → Prop} (ht : P.underlying t = some (.array len e)) (hn : sizeN P e = some n)
    (h : IdxAV len n s i K) : ∃ v, (∀ w, (Instr.indexAt t s i).run P w = .ok v w) ∧ K v := by
  unfold IdxAV at h
  split at h
  · obtain ⟨h0, h1, hK⟩ := h
    exact ⟨_, fun w => by simp [Instr.indexAt, Instr.sureAddr, asIntOf, run_und ht, run_size hn, h0, h1], hK⟩
  · exact h.elim

theorem isAggB_run {P : Program} {e : TypeId} {d : TypeDesc} (hd : P.underlying e = some d) (h : isAggB P e = false) (w : World) : (isAgg e).run P w = .ok false w := by
  unfold isAggB at h
  rw [hd] at h
  cases d <;> simp_all [isAgg, run_und hd]
theorem indexV_sound {P : Program} {t e n len : Nat} {d : TypeDesc} {x i : Value} {K : Value → Prop} (ht : P.underlying t = some (.array len e)) (hd : P.underlying e = some d) (ha : isAggB P e = false) (hn : sizeN P e = some n)
    (h : IndexV len n x i K) : ∃ v, (∀ w, (Instr.index t x i).run P w = .ok v w) ∧ K v := by
  unfold IndexV at h
  split at h
  · obtain ⟨h0, h1, v, hv, hK⟩ := h
    refine ⟨v, fun w => ?_, hK⟩
    have hp : ∀ cs off, cs[off]? = some v → (part e cs off).run P w = .ok v w := fun cs off hc => by simp [part, isAggB_run hd ha, hc]
    simp [Instr.index, asIntOf, run_und ht, run_size hn, h0, h1, hp _ _ hv]
  · exact h.elim

theorem fieldAt_run {P : Program} {s i off : Nat} (h : fieldOff P s i = some off) (a : Addr) (w : World) :
    (Instr.fieldAt s (.pointer (some a)) i).run P w = .ok (.pointer (some (a.add off))) w := by
  unfold fieldOff at h
  split at h
  · rename_i fs hs
    split at h
    · rename_i f hf
      split at h
      · rename_i n hn
        split at h
        · cases h
        · rename_i hz
          cases h
          simp [Instr.fieldAt, run_und hs, hf, Instr.sureAddr, fieldPlace, run_size hn, hz]
      · cases h
    · cases h
  · cases h

theorem placesL_spec {P : Program} : ∀ {fs : List Field} {ps : List (Nat × Nat)}, placesL P fs = some ps →
    ∀ w, (fs.mapM (fun f => Prod.mk f.offset <$> sizeOf f.type : Field → Sem (Nat × Nat))).run P w = .ok ps w
  | [], ps, h, w => by cases h; simp
  | f :: fs, ps, h, w => by
    unfold placesL at h
    split at h
    · rename_i n qs hn hq
      cases h
      have := placesL_spec hq w
      simp [run_size hn, this]
    · cases h

theorem build_sound {P : Program} {t : Nat} {z : Array Value} {fs : Array Field} {ps : List (Nat × Nat)} {parts : Array (Nat × Value)} {K : Value → Prop}
    (hz : zeroC P t = some z) (hs : P.underlying t = some (.struct fs)) (hp : placesL P fs.toList = some ps)
    (h : BuildV z (fun i => ps[i]?) parts.toList K) : ∃ v, (∀ w, (Instr.build t parts).run P w = .ok v w) ∧ K v := by
  obtain ⟨cells, hf, hK⟩ := h
  refine ⟨_, fun w => ?_, hK⟩
  obtain ⟨zv, hzr, hzc⟩ := run_zeroC hz w
  have hm := placesL_spec hp w
  have hm' : (fs.mapM (fun f => Prod.mk f.offset <$> sizeOf f.type : Field → Sem (Nat × Nat))).run P w = .ok ps.toArray w := by
    rw [Array.mapM_eq_mapM_toList]
    simp only [Sem.run_map, hm, Result.andThen_ok]
  subst hzc
  simp [Instr.build, hzr, run_und hs, hm', hf]

theorem vpure_sound {P : Program} {ρ : Operand → Value} (hρ : ∀ v, ρ (.const v) = v) {o : Oper} {K : Value → Prop} (h : vpure P ρ o.op K) : ∃ v, RunsTo P ρ o v ∧ K v := by
  obtain ⟨dst, op, type, pos, after, guard⟩ := o
  simp only at h
  unfold RunsTo
  unfold vpure at h
  split at h
  · exact ⟨_, fun w => by simp [execOp], h⟩
  · exact ⟨_, fun w => by simp [execOp], h⟩
  · rename_i c a b
    unfold PickV at h
    split at h
    · rename_i hc; exact ⟨_, fun w => by simp [execOp, hc, asBool], h⟩
    · rename_i hc; exact ⟨_, fun w => by simp [execOp, hc, asBool], h⟩
    · exact h.elim
  · rename_i op t x y yt
    split at h
    · unfold ShV at h
      split at h
      · rename_i k a k' b hx hy
        obtain ⟨h0, h⟩ := h
        exact ⟨_, fun w => by simp [execOp, hx, hy, eqGuard, binOp, Op.shift, Int.not_lt.2 h0], h⟩
      · exact h.elim
    · unfold ShV at h
      split at h
      · rename_i k a k' b hx hy
        obtain ⟨h0, h⟩ := h
        exact ⟨_, fun w => by simp [execOp, hx, hy, eqGuard, binOp, Op.shift, Int.not_lt.2 h0], h⟩
      · exact h.elim
    · split at h
      · obtain ⟨v, h1, h2, h3⟩ := binV_sound (P := P) (t := t) h
        exact ⟨v, fun w => by simp [execOp, h1, h3], h2⟩
      · rename_i ht
        obtain ⟨v, h1, h2, h3⟩ := boolV_sound (P := P) ht h
        exact ⟨v, fun w => by simp [execOp, h1, h3], h2⟩
      · rename_i ht
        obtain ⟨hc, h⟩ := h
        have hyc : ρ y = .nilIface := by
          unfold isNilC at hc
          split at hc
          · exact hρ _
          · cases hc
        obtain ⟨v, h1, h2, h3⟩ := inilV_sound (P := P) (cx := x) hc ht h
        exact ⟨v, fun w => by simp [execOp, hyc, h1, h3], h2⟩
      · exact h.elim
  · rename_i op t x
    split at h
    · unfold NotV at h
      split at h
      · rename_i b hb; exact ⟨_, fun w => by simp [execOp, hb, Op.unary], h⟩
      · exact h.elim
    · exact h.elim
  · rename_i s d x
    split at h
    · rename_i hs hd
      unfold ConvV at h
      split at h
      · rename_i k n hx
        exact ⟨_, fun w => by simp [execOp, hx, convert, run_und hs, run_und hd, Conv.intToInt, h.1.eq], h.2⟩
      · exact h.elim
    · exact h.elim
  · rename_i x
    unfold NilV at h
    split at h
    · rename_i a hx; exact ⟨_, fun w => by simp [execOp, hx], h⟩
    · exact h.elim
  · rename_i s x i
    split at h
    · rename_i off hoff
      unfold FAddrV at h
      split at h
      · rename_i a hx; exact ⟨_, fun w => by simp [execOp, hx, fieldAt_run hoff], h⟩
      · exact h.elim
    · exact h.elim
  · rename_i t x i
    split at h
    · rename_i e ht
      split at h
      · rename_i n hn
        obtain ⟨v, h1, h2⟩ := idxV_sound ht hn h
        exact ⟨v, fun w => by simp [execOp, h1], h2⟩
      · exact h.elim
    · rename_i len e ht
      split at h
      · rename_i n hn
        obtain ⟨v, h1, h2⟩ := idxAV_sound ht hn h
        exact ⟨v, fun w => by simp [execOp, h1], h2⟩
      · exact h.elim
    · exact h.elim
  · rename_i t x i
    split at h
    · rename_i len e ht
      split at h
      · rename_i d n hd ha hn
        obtain ⟨v, h1, h2⟩ := indexV_sound ht hd ha hn h
        exact ⟨v, fun w => by simp [execOp, h1], h2⟩
      · exact h.elim
    · exact h.elim
  · rename_i t x lo hi
    split at h
    · rename_i e ht
      split at h
      · rename_i n hn
        obtain ⟨v, h1, h2⟩ := sliceV_sound ht hn h
        exact ⟨v, fun w => by simp [execOp, h1], h2⟩
      · exact h.elim
    · rename_i len e ht
      split at h
      · rename_i n hn
        obtain ⟨v, h1, h2⟩ := sliceAV_sound ht hn h
        exact ⟨v, fun w => by simp [execOp, h1], h2⟩
      · exact h.elim
    · exact h.elim
  · rename_i t parts
    split at h
    · rename_i z fs hz hs
      split at h
      · rename_i ps hp
        obtain ⟨v, h1, h2⟩ := build_sound (parts := (parts.map fun (i, x) => (i, ρ x))) hz hs hp (by simpa using h)
        exact ⟨v, fun w => by simp only [execOp]; simp [h1], h2⟩
      · exact h.elim
    · exact h.elim
  · rename_i x i
    unfold ExtractV at h
    split at h
    · rename_i vs hx
      obtain ⟨u, hu, hK⟩ := h
      exact ⟨u, fun w => by simp [execOp, hx, Instr.extract, hu], hK⟩
    · exact h.elim
  · rename_i t x
    split at h
    · exact h.elim
    · rename_i d hni ht
      refine ⟨_, fun w => ?_, h⟩
      cases d <;> first | exact (hni _ rfl).elim | simp [execOp, Instr.makeInterface, run_und ht]
    · exact h.elim
  · exact ⟨_, fun w => by simp [execOp, Instr.makeFunc], h⟩
  · rename_i x xt t
    split at h
    · exact h.elim
    · rename_i d z hd ht hz
      unfold TAssertV at h
      split at h
      · rename_i hx
        refine ⟨_, fun w => ?_, h⟩
        cases d <;> first | exact (hd _ rfl).elim | simp [execOp, hx, Instr.typeAssert, run_und ht, run_zero hz]
      · rename_i u v hx
        by_cases hut : u = t
        · refine ⟨_, fun w => ?_, h.1 hut⟩
          cases d <;> first | exact (hd _ rfl).elim | simp [execOp, hx, Instr.typeAssert, run_und ht, hut]
        · refine ⟨_, fun w => ?_, h.2 hut⟩
          cases d <;> first | exact (hd _ rfl).elim | simp [execOp, hx, Instr.typeAssert, run_und ht, run_zero hz, hut]
      · exact h.elim
    · exact h.elim
  · rename_i b args ts
    split at h
    · rename_i x t ha hts
      split at h
      · rename_i e ht
        unfold LenV at h
        split at h
        · rename_i a n c hx
          have ha' : args = #[x] := by rw [← Array.toArray_toList (xs := args), ha]
          have ht' : ts = #[t] := by rw [← Array.toArray_toList (xs := ts), hts]
          subst ha' ht'
          exact ⟨_, fun w => by simp [execOp, resolve, invoke, builtin, Builtin.len_, run_und ht, hx, goInt], h⟩
        · exact h.elim
      · exact h.elim
    · rename_i x y ha
      unfold MinV at h
      split at h
      · rename_i k a k' b hx hy
        have ha' : args = #[x, y] := by rw [← Array.toArray_toList (xs := args), ha]
        subst ha'
        exact ⟨_, fun w => by simp [execOp, resolve, invoke, builtin, Builtin.min_, Builtin.min2, hx, hy], h⟩
      · exact h.elim
    · rename_i x y ha
      unfold MaxV at h
      split at h
      · rename_i k a k' b hx hy
        have ha' : args = #[x, y] := by rw [← Array.toArray_toList (xs := args), ha]
        subst ha'
        exact ⟨_, fun w => by simp [execOp, resolve, invoke, builtin, Builtin.max_, Builtin.max2, hx, hy], h⟩
      · exact h.elim
    · exact h.elim
  · exact h.elim
end Go.V
