/- The first ones that do the same: the program's way with a map, the reference's with a search. -/
import Derived.Test.YtmbfkhacejnnhaaShareKey
import Derived.Test.YtmbfkhacejnnhaaGraph
import Derived.Test.YtmbfkhacejnnhaaL13
namespace Go.Proofs.Ytmbfkhacejnnhaa
open Go Go.V

theorem keyL_snoc {p : List Nd} (hp : PlanOk p) {fs : List Int} {k j : Nat} {r : Int} (hl : fs.length = k) (hj : j ≤ k) : keyL (nd p j) (fs ++ [r]) = keyL (nd p j) fs := keyL_congr fun f hf => by
  rw [nd_frm] at hf
  have := hp.fr_lt hf
  exact getD_left (by omega)

theorem implShareFirst_ok {w : World} {v : Value} {p : List Nd} (hp : PlanV w v p) : Calls Try.prog N.impl_ShareFirst #[v] w (Ret (NewInts w (firstO p))) := by
  refine ret_k fun R hR => c_impl_ShareFirst _ _ _ ?_
  have hlen : ∀ K, LenV v K = K (.int .i64 p.length) := fun K => hp.len
  refine callV_of (implPlanValid_ok hp) rfl ?_
  rintro _ w1 ⟨E1, rfl⟩
  simp only [hlen, go_sem]
  refine ⟨fun h => hR _ _ ⟨E1, by rw [firstO_no h]; exact FInts.nil⟩, fun hok => ?_⟩
  have h10 := hok.len
  intro w2 hn2
  have z2 := hn2.size
  have hm2 := KMap.new hn2
  refine ⟨by omega, by omega, by omega, by omega, fun w3 hn3 => ?_⟩
  simp only [Int.toNat_natCast] at hn3
  simp only [Int.toNat_natCast, go_sem]
  have z3 := hn3.size
  have z1 := E1.size
  have ho3 := Own.cap0 (lo := w2.heap.size) hn3 (Nat.le_refl _) (by omega)
  refine loopV (fun s w' => ∃ (k : Nat) (u : Value) (fs : List Int) (g : List Int → Option Int), s = [u, .int .i64 k] ∧ k ≤ p.length ∧ IsFirsts p k fs ∧ Ext w1 w' ∧ Own w' w2.heap.size T.int 1 u fs.length (ints fs) ∧ KMap w' w1.heap.size k g ∧
      (∀ xs x, g xs = some x → ∃ r : Nat, r < k ∧ x = r ∧ keyL (nd p r) fs = xs ∧ ∀ j, j < r → keyL (nd p j) fs ≠ xs) ∧ ∀ xs, g xs = none → ∀ j, j < k → keyL (nd p j) fs ≠ xs) (upTo p.length 1)
    ⟨0, _, [], fun _ => none, rfl, by omega, IsFirsts.nil p, hn2.ext.trans hn3.ext, by simpa [ints] using ho3, hm2.ext hn3.ext, fun xs x h => (by cases h), fun _ _ j hj => by omega⟩ ?_
  rintro s z w4 K ⟨k, u, fs, g, rfl, hk, hfs, G4, ho4, hm4, hsome, hnone⟩ hK
  have hfl := hfs.len
  have hsm := IsFirsts.small hfs (by omega)
  have E4 := E1.trans G4
  simp only [go_sem]
  refine ⟨fun h => ?_, fun h => ?_⟩
  · have hk : k < p.length := by omega
    have hx := keyL_ok hok hsm hk
    have hfit := (hok.fits hk).1
    rw [nd_get hk] at hfit
    have hpk : p[k] = nd p k := (nd_get hk).symm
    refine (hp.ext E4).load hk fun x hxv => ?_
    obtain ⟨av, rv, rfl, ha, hr, hs⟩ := hxv.out
    refine box_set ha hr fun w5 E5 hb5 z5 => ?_
    refine load_box hb5 ?_
    have e5 := E4.trans E5
    have hnv : NdV w5 (.agg #[.int .i64 p[k].kind, av, rv]) p[k] := ⟨av, rv, rfl, ha.ext E5, hr.ext E5, hs⟩
    refine callV_of (shareKeyOf_ok (i := k) hnv hfit (Own.ints (Own.ext ho4 E5)) (by omega)) rfl ?_
    rintro _ w6 ⟨E6, rfl⟩
    rw [hpk]
    have hrow : (nd p k).row.length ≤ 6 := by
      have := hx.len
      unfold keyL kl at this
      simp at this; omega
    have E46 := E5.trans E6
    have hl10 : ∀ v ∈ ints (keyL (nd p k) fs), v.cells = #[v] ∧ v.oneCell' = true := fun v hv => by
      simp only [V.ints, List.mem_map] at hv
      obtain ⟨y, _, rfl⟩ := hv
      exact ⟨rfl, rfl⟩
    have hkl : (ints (keyL (nd p k) fs)).length = 10 := by simp [ints, hx.len]
    intro w7 hn7
    have z7 := hn7.size
    have hkv : keyV (keyL (nd p k) fs) = .agg (ints (keyL (nd p k) fs)).toArray := rfl
    rw [hkv, ← hkl]
    refine store_all hn7.here (by rw [hkl]; simp [Value.cells]) hl10 fun w8 hp8 => ?_
    refine load_all hp8.here ?_
    have E8 : Ext w4 w8 := Chg.ext ((E46.trans hn7.ext).then hp8.chg) fun j hj e => by have e : j = w6.heap.size := e; have := E46.size; omega
    have hm8 := hm4.ext E8
    have ho8 := Own.ext ho4 E8
    have hmb := hm4.lt
    rw [← hkv]
    have e8 := G4.trans E8
    have z8 := E8.size
    have hsz4 := (Own.lt (w := w4) (v := u) ho4 (k := 0))
    have hub : ∀ {w' : World} {n : Nat} {cs : List Value}, Own w' w2.heap.size T.int 1 u n cs → ∀ j, blkIs u j → w2.heap.size ≤ j := fun h j hj => (Own.lt h hj).1
    have hz24 : w2.heap.size ≤ w4.heap.size := by
      have := G4.size
      by_cases e : w4.heap.size = w1.heap.size
      · exfalso; omega
      · omega
    have hkk : ∀ {r : Int} {j : Nat}, j ≤ k → keyL (nd p j) (fs ++ [r]) = keyL (nd p j) fs := fun {r j} hj => keyL_snoc hok hfl hj
    refine hm8.lookup hx (fun x hgx => ?_) (fun x hgx => ?_)
    · obtain ⟨r, hr, rfl, hkey, hmin⟩ := hsome _ _ hgx
      have hfa : FirstAt p fs k r := ⟨by omega, (keyL_iff hok (fun j => (hsm j).1) hk (by omega)).1 hkey.symm, fun j hj hs => hmin j hj ((keyL_iff hok (fun j => (hsm j).1) hk (by omega)).2 hs).symm⟩
      simp only [go_sem]
      refine ⟨fun h => (by cases h), fun _ => ?_⟩
      refine app1_int sl_int el_int ho8 (by omega) (by omega) fun v' w9 ho9 C9 => ?_
      refine bin_inc (by omega) (hK _ _ ⟨k + 1, v', fs ++ [(r : Int)], g, rfl, by omega, hfs.snoc hok hfa, ?_, by simpa using ho9, ?_, fun xs x hgs => ?_, fun xs hgn j hj => ?_⟩ (by simp [upTo, nthV, iOf]; omega))
      · exact Chg.ext (e8.then C9) fun j hj hb => by have := hub ho8 j hb; omega
      · have := hm8.keep C9 (fun hb => by have := hub ho8 _ hb; omega)
        obtain ⟨D, ho, hg⟩ := this.out
        exact ⟨D, ho.mono (by omega), hg⟩
      · obtain ⟨s, h1, h2, h3, h4⟩ := hsome _ _ hgs
        exact ⟨s, by omega, h2, by rw [hkk (by omega)]; exact h3, fun j hj => by rw [hkk (by omega)]; exact h4 j hj⟩
      · rw [hkk (by omega)]
        by_cases e : j = k
        · subst e; intro e'; rw [e'] at hgx; rw [hgx] at hgn; cases hgn
        · exact hnone xs hgn j (by omega)
    · have hno := hnone _ hgx
      have hfa : FirstAt p fs k k := ⟨Nat.le_refl _, ⟨rfl, rfl, rfl⟩, fun j hj hs => hno j hj ((keyL_iff hok (fun j => (hsm j).1) hk (by omega)).2 hs).symm⟩
      simp only [go_sem]
      have hb8 : w8.heap[w6.heap.size]? = some (.cells (ints (keyL (nd p k) fs)).toArray T.impl_shareKey (0, 0)) := hp8.here
      refine ⟨fun _ => ?_, fun h => (by cases h)⟩
      refine load_all hb8 ?_
      rw [← hkv]
      refine hm8.set (by omega) hx (wf64 (by omega) (by omega)) fun w9 hm9 C9 z9 => ?_
      have ho9 := Own.keep ho8 C9 fun j hj e => by have := hub ho8 j hj; have e : j = w1.heap.size := e; omega
      have e9 : Ext w1 w9 := Chg.ext (e8.then C9) fun j hj e => by have e : j = w1.heap.size := e; omega
      refine app1_int sl_int el_int ho9 (by omega) (by omega) fun v' w10 ho10 C10 => ?_
      refine bin_inc (by omega) (hK _ _ ⟨k + 1, v', fs ++ [(k : Int)], _, rfl, by omega, hfs.snoc hok hfa, ?_, by simpa using ho10, hm9.keep C10 (fun hb => by have := hub ho9 _ hb; omega), fun xs x hgs => ?_, fun xs hgn j hj => ?_⟩ (by simp [upTo, nthV, iOf]; omega))
      · exact Chg.ext (e9.then C10) fun j hj hb => by have := hub ho9 j hb; omega
      · by_cases e : xs = keyL (nd p k) fs
        · rw [if_pos e] at hgs
          cases hgs
          exact ⟨k, by omega, rfl, by rw [hkk (Nat.le_refl _), e], fun j hj => by rw [hkk (by omega), e]; exact hno j hj⟩
        · rw [if_neg e] at hgs
          obtain ⟨s, h1, h2, h3, h4⟩ := hsome _ _ hgs
          exact ⟨s, by omega, h2, by rw [hkk (by omega)]; exact h3, fun j hj => by rw [hkk (by omega)]; exact h4 j hj⟩
      · by_cases e : xs = keyL (nd p k) fs
        · rw [if_pos e] at hgn; cases hgn
        · rw [if_neg e] at hgn
          rw [hkk (by omega)]
          by_cases e' : j = k
          · subst e'; exact fun h' => e h'.symm
          · exact hnone xs hgn j (by omega)
  · have hk : k = p.length := by omega
    subst hk
    rw [← firstO_eq hok hfs] at ho4
    exact hR _ _ ⟨E4, (Own.fints ho4).mono fun b _ hb => by unfold Since; omega⟩

/-! ### The reference -/
theorem fill2k {x y : Int} : Instr.fill (fun i => some (i * 1, 1)) (rowOf #[.int .i64 0] (2 * 1)) [(0, .int .i64 x), (1, .int .i64 y)] = some #[.int .i64 x, .int .i64 y] := by
  simp [Instr.fill, rowOf, Value.cells]
  refine Array.ext (by simp) fun i hi _ => ?_
  simp at hi
  match i, hi with
  | 0, _ => simp
  | 1, _ => simp
theorem l22From_ok {w : World} {v fv : Value} {x : Nd} {fs : List Int} {i : Nat} (hx : NdV w v x) (hfit : NdFits x i) (hf : Ints w fv fs) (hl : i ≤ fs.length) :
    Calls Try.prog N.spec_l22From #[v, fv] w (Ret (NewInts w (normF x fs))) := by
  obtain ⟨av, rv, rfl, ha, hr, hs⟩ := hx.out
  refine ret_k fun R hR => c_spec_l22From _ _ _ _ ?_
  intro w1 hn1
  have hb1 := new_rawI ha hr hn1
  have z1 := hn1.size
  refine ⟨_, rfl, fun w2 hn2 => ?_⟩
  have E2 := hn1.ext.trans hn2.ext
  have z2 := hn2.size
  have hla : ∀ K, LenV av K = K (.int .i64 x.frm.length) := fun K => ints_len ha
  have hs1 : x.frm.length ≤ 1048576 := hs.1
  have hkn := hfit.1
  refine loopV (fun s w' => ∃ (k : Nat) (u : Value), s = [u, .int .i64 k] ∧ k ≤ x.frm.length ∧ Ext w1 w' ∧ Own w' w1.heap.size T.int 1 u k (ints ((x.frm.take k).map fun f => fs.getD f.toNat 0))) (upTo x.frm.length 1)
    ⟨0, _, rfl, by omega, hn2.ext, by simpa [ints] using Own.empty (lo := w1.heap.size) hn2 (Nat.le_refl _)⟩ ?_
  rintro s z w3 K ⟨k, u, rfl, hk, G3, ho3⟩ hK
  have E3 := hn1.ext.trans G3
  have hb3 := G3.at hb1
  simp only [go_sem]
  refine load2 (v := av) hb3 rfl ?_
  simp only [hla, go_sem]
  refine ⟨fun h => ?_, fun h => ?_⟩
  · have hk : k < x.frm.length := by omega
    refine load2 (v := av) hb3 rfl ?_
    refine Ints.loadI (ha.ext E3) hk ?_
    have hfk := hfit.2.1 _ (List.getElem_mem hk)
    obtain ⟨m, hm⟩ : ∃ m : Nat, x.frm[k] = (m : Int) := ⟨(x.frm[k]).toNat, by omega⟩
    rw [hm] at hfk ⊢
    refine Ints.loadI (hf.ext E3) (q := m) (by omega) ?_
    have hlk : ((x.frm.take k).map fun f => fs.getD f.toNat 0).length = k := by simp; omega
    refine app1_int sl_int el_int ho3 (by omega) G3.size fun v' w4 ho4 C4 => ?_
    refine bin_inc (by omega) (hK _ _ ⟨k + 1, v', rfl, by omega, chg_own G3 ho3 C4 (Nat.le_refl _), ?_⟩ (by simp [upTo, nthV, iOf]; omega))
    have : fs[m]'(by omega) = fs.getD m 0 := by rw [List.getD_eq_getElem?_getD, List.getElem?_eq_getElem (by omega)]; rfl
    rw [take_snoc hk, List.map_append, List.map_singleton, hm, Int.toNat_natCast, ← this]
    exact ho4
  · have hk : k = x.frm.length := by omega
    subst hk
    rw [List.take_length] at ho3
    have hnF : normF x fs = norm2 x.kind (x.frm.map fun f => fs.getD f.toNat 0) := rfl
    generalize hl2 : (x.frm.map fun f => fs.getD f.toNat 0) = l2 at ho3 hnF
    have hll : l2.length = x.frm.length := by rw [← hl2, List.length_map]
    refine draw_none fun w4 hs4 => ?_
    have ho4 := Own.ext ho3 hs4.ext
    have G4 := G3.trans hs4.ext
    refine loadS2 (v := .int .i64 x.kind) (hs4.ext.at hb3) id rfl ?_
    refine callV_of (specKindSwaps_ok _) rfl ?_
    rintro _ w5 ⟨E5, rfl⟩
    refine ⟨E5, ?_⟩
    have ho5 := Own.ext ho4 E5
    have e5 := hn1.ext.trans (G4.trans E5)
    have fin : ¬ (kneeds x.kind = 2 ∧ ∃ a b, l2 = [a, b] ∧ b < a) → R u w5 := fun hn => by
      refine hR _ _ ⟨e5, ?_⟩
      have : normF x fs = l2 := by
        rw [hnF]
        match l2, hll, hn with
        | [a, b], _, hn => exact noswap2 fun h => hn ⟨h.1, a, b, rfl, h.2⟩
        | [], _, _ => rfl
        | [_], _, _ => rfl
        | _ :: _ :: _ :: _, _, _ => rfl
      rw [this]
      exact (Own.fints ho5).mono fun b _ hb => by unfold Since; omega
    simp only [go_sem]
    refine ⟨fun hsw => ?_, fun hns => fin fun h => hns h.1⟩
    have h2 : l2.length = 2 := by omega
    obtain ⟨a, b, hab⟩ : ∃ a b, l2 = [a, b] := by
      match l2, h2 with
      | [a, b], _ => exact ⟨a, b, rfl⟩
    have hi5 := Own.ints ho5
    rw [hab] at hi5
    refine Ints.loadS hi5 (q := 0) (by simp) (fun _ => id) ?_
    refine Ints.loadS hi5 (q := 1) (by simp) (fun _ => id) ?_
    simp only [List.getElem_cons_zero, List.getElem_cons_succ, go_sem]
    refine ⟨fun hgt => ?_, fun hle => fin ?_⟩
    · refine draw_none fun w6 hs6 => ?_
      refine Ints.loadS (hi5.ext hs6.ext) (q := 1) (by simp) (fun _ => id) ?_
      refine Ints.loadS (hi5.ext hs6.ext) (q := 0) (by simp) (fun _ => id) ?_
      refine ⟨_, fill2k, fun w7 hn7 => ⟨hn7.ext, ?_⟩⟩
      have e7 := (e5.trans hs6.ext).trans hn7.ext
      refine hR _ _ ⟨e7, ?_⟩
      rw [hnF, hab, swap2 hsw hgt]
      refine ⟨some ⟨w6.heap.size, 0, none⟩, 2, rfl, by simp, fun _ => ⟨w6.heap.size, 0, _, rfl, ?_, hn7.here, by simp, fun i y hi => ?_⟩⟩
      · have := (e5.trans hs6.ext).size; unfold Since; omega
      · match i with
        | 0 => simp at hi; subst hi; rfl
        | 1 => simp at hi; subst hi; rfl
        | i + 2 => simp at hi
    · rintro ⟨_, a', b', h1, h2⟩
      rw [hab] at h1
      simp only [List.cons.injEq, and_true] at h1
      obtain ⟨rfl, rfl⟩ := h1
      exact hle h2

theorem l22First_ok {w : World} {v : Value} {p : List Nd} (hp : PlanV w v p) (hok : PlanOk p) : Calls Try.prog N.spec_l22First #[v] w (Ret (NewInts w (firstO p))) := by
  refine ret_k fun R hR => c_spec_l22First _ _ _ ?_
  have hlen : ∀ K, LenV v K = K (.int .i64 p.length) := fun K => hp.len
  have h10 := hok.len
  refine ⟨_, rfl, fun w1 hn1 => ?_⟩
  have z1 := hn1.size
  refine loopV (fun s w' => ∃ (i : Nat) (u : Value) (fs : List Int), s = [u, .int .i64 i] ∧ i ≤ p.length ∧ IsFirsts p i fs ∧ Ext w w' ∧ Own w' w.heap.size T.int 1 u fs.length (ints fs)) (upTo p.length 1)
    ⟨0, _, [], rfl, by omega, IsFirsts.nil p, hn1.ext, by simpa [ints] using Own.empty (lo := w.heap.size) hn1 (Nat.le_refl _)⟩ ?_
  rintro s z w2 K ⟨i, u, fs, rfl, hi, hfs, E2, ho2⟩ hK
  have hfl := hfs.len
  simp only [hlen, go_sem]
  refine ⟨fun h => ?_, fun h => ?_⟩
  · have hi : i < p.length := by omega
    have fits : ∀ {j} (hj : j < p.length), j ≤ i → NdFits (p[j]'hj) i := fun {j} hj hji => by
      have := (hok.fits hj).1
      rw [nd_get hj] at this
      exact ⟨this.1, fun f hf => by have := this.2.1 f hf; omega, this.2.2⟩
    refine (hp.ext E2).load hi fun x hx => ?_
    refine callV_of (l22From_ok hx (fits hi (Nat.le_refl _)) (Own.ints ho2) (by omega)) rfl fun fu w3 ⟨E3, f3⟩ => ?_
    have e3 := E2.trans E3
    have hnl : (normF p[i] fs).length ≤ 2 := by rw [normF_len]; have := hok.fr_len i; rw [fr_get hi] at this; exact this
    refine bin_sub ⟨by omega, by omega⟩ ?_
    refine loopV (fun s w' => ∃ m a : Nat, s = [.int .i64 a, .int .i64 ((m : Int) - 1)] ∧ m ≤ i ∧ m ≤ a ∧ a ≤ i ∧ Ext w3 w' ∧ sameK p fs i a ∧ ∀ j, m ≤ j → j < a → ¬ sameK p fs i j) (fun s _ => (iOf (nthV s 1) + 1).toNat)
      ⟨i, i, rfl, Nat.le_refl _, Nat.le_refl _, Nat.le_refl _, Ext.refl _, ⟨rfl, rfl, rfl⟩, fun j h1 h2 => by omega⟩ ?_
    rintro s z w4 K' ⟨m, a, rfl, hm, hma, hai, G4, hsame, hmin⟩ hK'
    have e4 := e3.trans G4
    simp only [go_sem]
    refine ⟨fun hge => ?_, fun hlt => ?_⟩
    · obtain ⟨k, rfl⟩ : ∃ k, m = k + 1 := ⟨m - 1, by omega⟩
      have ek : ((k + 1 : Nat) : Int) - 1 = (k : Int) := by omega
      rw [ek]
      have hk : k < p.length := by omega
      refine draw_none fun w5 hs5 => ?_
      have e5 := e4.trans hs5.ext
      have g5 := G4.trans hs5.ext
      have next : ∀ {w' : World}, Ext w3 w' → (sameK p fs i k → False) → K' [.int .i64 a, .int .i64 ((k : Int) - 1)] w' := fun {w'} g hn =>
        hK' _ _ ⟨k, a, rfl, by omega, by omega, hai, g, hsame, fun j h1 h2 => by
          by_cases e : j = k
          · subst e; exact hn
          · exact hmin j (by omega) h2⟩ (by simp [nthV, iOf])
      have hit : ∀ {w' : World}, Ext w3 w' → sameK p fs i k → K' [.int .i64 k, .int .i64 ((k : Int) - 1)] w' := fun {w'} g hs =>
        hK' _ _ ⟨k, k, rfl, by omega, Nat.le_refl _, by omega, g, hs, fun j h1 h2 => by omega⟩ (by simp [nthV, iOf])
      refine (hp.ext e5).idx hk fun b o kf kr h0 h1 h2 hkf hkr hks => ?_
      refine loadS_cell h0 id ?_
      refine (hp.ext e5).idx hi fun b' o' jf jr h0' h1' h2' hjf hjr hjs => ?_
      refine loadS_cell h0' id ?_
      have hki : nd p i = p[i] := nd_get hi
      have hkk : nd p k = p[k] := nd_get hk
      simp only [go_sem]
      refine ⟨fun hkind => ?_, fun hkind => bin_sub ⟨by omega, by omega⟩ (next g5 fun hs => hkind (by have := hs.1; rw [hki, hkk] at this; exact this.symm))⟩
      refine (hp.ext e5).idx hk fun b o kf kr h0 h1 h2 hkf hkr hks => ?_
      refine loadS_cell h2 id ?_
      refine (hp.ext e5).idx hi fun b' o' jf jr h0' h1' h2' hjf hjr hjs => ?_
      refine loadS_cell h2' id ?_
      have hks2 : p[k].row.length ≤ 1048576 := hks.2
      refine callV_of (l13Same_ok hkr hjr (by omega)) rfl ?_
      rintro _ w6 ⟨E6, rfl⟩
      refine ⟨E6, ?_⟩
      have e6 := e5.trans E6
      have g6 := g5.trans E6
      simp only [go_sem]
      refine ⟨fun hrow => ?_, fun hrow => bin_sub ⟨by omega, by omega⟩ (next g6 fun hs => hrow (by have := hs.2.1; rw [hki, hkk] at this; exact this.symm))⟩
      refine (hp.ext e6).loadS hk (fun _ _ => id) fun y hy => ?_
      refine callV_of (l22From_ok hy (fits hk (by omega)) (Own.ints (Own.ext ho2 (E3.trans g6))) (by omega)) rfl fun fu2 w7 ⟨E7, f7⟩ => ⟨E7, ?_⟩
      have hnl2 : (normF p[k] fs).length ≤ 2 := by rw [normF_len]; have := hok.fr_len k; rw [fr_get hk] at this; exact this
      refine callV_of (l13Same_ok f7.ints ((f3.ext g6).ext E7).ints (by omega)) rfl ?_
      rintro _ w8 ⟨E8, rfl⟩
      refine ⟨E8, ?_⟩
      have g8 := (g6.trans E7).trans E8
      simp only [go_sem]
      refine ⟨fun hn => bin_sub ⟨by omega, by omega⟩ (hit g8 ⟨by rw [hki, hkk]; exact hkind.symm, by rw [hki, hkk]; exact hrow.symm, by rw [hki, hkk]; exact hn.symm⟩), fun hn => bin_sub ⟨by omega, by omega⟩ (next g8 fun hs => hn (by have := hs.2.2; rw [hki, hkk] at this; exact this.symm))⟩
    · have hm0 : m = 0 := by omega
      subst hm0
      have ho4 := Own.ext ho2 (E3.trans G4)
      refine app1_int sl_int el_int ho4 (by omega) e4.size fun v' w5 ho5 C5 => ?_
      refine bin_inc (by omega) (hK _ _ ⟨i + 1, v', fs ++ [(a : Int)], rfl, by omega, hfs.snoc hok ⟨hai, hsame, fun j hj => hmin j (by omega) hj⟩, chg_own e4 ho4 C5 (Nat.le_refl _), by simpa using ho5⟩ (by simp [upTo, nthV, iOf]; omega))
  · have hi : i = p.length := by omega
    subst hi
    rw [← firstO_eq hok hfs] at ho2
    exact hR _ _ ⟨E2, Own.fints ho2⟩
end Go.Proofs.Ytmbfkhacejnnhaa
