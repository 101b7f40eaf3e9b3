/- A plainer machine, thirteen and three quarters: structs compared; slices made. -/
import Derived.Test.YtkjidklifmcpnaaA13M
import Derived.Laws.StructEq
import Derived.Laws.MakeOwn
namespace Go.Proofs.Ytkjidklifmcpnaa.AD
set_option linter.unusedVariables false
set_option linter.unusedSimpArgs false

section ops
variable {P : Program} {o : Oper} {fr : FR} {ba lo : List Ob} {K : AV → List Ob → List Ob → Prop} {d : Bool}

theorem part_scalar {t : TypeId} {k : SK} (ht : skOf P t = some k) {xs : Array Value} {off : Nat} {v : Value} {w : World} (h : xs[off]? = some v) : (part t xs off).run P w = .ok v w := by
  refine run_part_none ?_ h
  unfold skOf at ht
  unfold isAggT
  split at ht <;> first | (rename_i h; rw [h]) | cases ht

theorem eqf_out (dp : Nat) {M : Nat → Prop} {w : World} {xs ys : Array Value} : ∀ (fs : List Field) (i : Nat) (ks : List SK) (ca cb : List PV) (q : Bool), plainFields P i fs = some ks → (∀ (j : Nat) (c : PV), ca[j]? = some c → ∃ x, xs[i + j]? = some x ∧ VP M w x c) → (∀ (j : Nat) (c : PV), cb[j]? = some c → ∃ x, ys[i + j]? = some x ∧ VP M w x c) → eqCells ks ca cb = some q →
    (Op.eqFields (dp + 1) xs ys fs).run P w = .ok q w
  | [], i, ks, ca, cb, q, h, ha, hb, he => by
    cases h
    cases ca <;> cases cb <;> first | (cases he; rfl) | (simp [eqCells] at he)
  | f :: fs, i, ks, ca, cb, q, h, ha, hb, he => by
    simp only [plainFields] at h
    split at h
    case isFalse => cases h
    rename_i h12
    obtain ⟨h1, h2⟩ := h12
    split at h
    case h_2 => cases h
    rename_i k ks' h3 h4
    cases h
    have key : ∀ (c e : PV) (ra rb : List PV) (r q' : Bool), ca = c :: ra → cb = e :: rb → (∀ x y, VP M w x c → VP M w y e → (Op.equalIn (dp + 1) f.type x y).run P w = .ok r w) → eqCells ks' ra rb = some q' → q = (r && q') → (Op.eqFields (dp + 1) xs ys (f :: fs)).run P w = .ok q w := fun c e ra rb r q' ea eb g1 g2 g3 => by
      subst ea; subst eb; subst g3
      obtain ⟨x, hx, hvx⟩ := ha 0 c rfl
      obtain ⟨y, hy, hvy⟩ := hb 0 e rfl
      rw [Nat.add_zero, ← h1] at hx hy
      have hpx := part_scalar (w := w) h3 hx
      have hpy := part_scalar (w := w) h3 hy
      have ih := eqf_out dp fs (i + 1) ks' ra rb q' h4 (fun j c hc => by
        obtain ⟨x, hx, hv⟩ := ha (j + 1) c (by simpa using hc)
        exact ⟨x, by rw [← hx]; congr 1; omega, hv⟩) (fun j c hc => by
        obtain ⟨x, hx, hv⟩ := hb (j + 1) c (by simpa using hc)
        exact ⟨x, by rw [← hx]; congr 1; omega, hv⟩) g2
      simp only [Op.eqFields, Sem.run_bind, Sem.run_ite, if_pos h2, hpx, hpy, Result.andThen_ok, g1 x y hvx hvy]
      cases r
      · simp
      · simp [ih]
    rcases ca with _ | ⟨c, ra⟩
    · cases k <;> simp [eqCells] at he
    rcases cb with _ | ⟨e, rb⟩
    · cases k <;> cases c <;> simp [eqCells] at he
    have hu := h3
    unfold skOf at hu
    cases k <;> cases c <;> cases e <;> simp only [eqCells] at he <;> try (cases he; done)
    · rename_i i0 j a k b
      split at he
      case isFalse => cases he
      rename_i hjk
      obtain ⟨rfl, rfl⟩ := hjk
      obtain ⟨q', hq, rfl⟩ := map_some he
      refine key _ _ _ _ (a == b) q' rfl rfl (fun x y hx hy => ?_) hq rfl
      cases hx; cases hy
      split at hu <;> first | cases hu | skip
      rename_i k hk
      exact run_equalIn_int w dp f.type _ _ a b hk
    · rename_i a b
      obtain ⟨q', hq, rfl⟩ := map_some he
      refine key _ _ _ _ (a.toList == b.toList) q' rfl rfl (fun x y hx hy => ?_) hq rfl
      cases hx; cases hy
      split at hu <;> first | cases hu | skip
      rename_i hk
      exact run_equalIn_string w dp f.type a b hk
    · rename_i a b
      obtain ⟨q', hq, rfl⟩ := map_some he
      refine key _ _ _ _ (a == b) q' rfl rfl (fun x y hx hy => ?_) hq rfl
      cases hx; cases hy
      split at hu <;> first | cases hu | skip
      rename_i hk
      exact run_equalIn_bool' w dp f.type a b hk

theorem s_eqs {neg : Bool} {op : BinOp} {t yt : TypeId} {x y : Operand} {rx ry : Rv} {fs : Array Field} {ks : List SK} (ho : o.op = .binOp op t x y yt) (hop : op = if neg then .neq else .eql) (ht : P.underlying t = some (.struct fs)) (hk : plainFields P 0 fs.toList = some ks) (hst : P.stoodInHeld t = false) (hg : P.eqGuardType P.depth t = false)
    (hx : rv x = some rx) (hy : rv y = some ry) (h : opV P d (.eqs neg ks rx ry) fr ba lo K) : Sound1 P o fr ba lo K := by
  simp only [opV, evK_eq] at h
  split at h
  · rename_i a b e1 e2
    obtain ⟨q, hq, h⟩ := h
    have hf : P.fieldsOf t = fs := by unfold Program.fieldsOf; rw [ht]
    refine .quiet _ h fun μ w act hi hp => ⟨_, ?_, VA.bool' _ _ _⟩
    have h1 := (hp.get (by simp [ho, Op.operands]) hx e1).pv
    have h2 := (hp.get (by simp [ho, Op.operands]) hy e2).pv
    generalize hxv : act.eval x = xv at h1
    generalize hyv : act.eval y = yv at h2
    cases h1 with
    | agg xs _ k1 k2 k3 =>
      cases h2 with
      | agg ys _ l1 l2 l3 =>
        have he := eqf_out (P := P) 9998 (M := blocks μ) (w := w) (xs := xs) (ys := ys) fs.toList 0 ks a b q hk (fun j c hc => by
          have hj : j < xs.size := by rw [k1]; exact get_lt hc
          exact ⟨xs[j], by rw [Nat.zero_add]; exact Array.getElem?_eq_getElem hj, k2 j _ c (Array.getElem?_eq_getElem hj) hc⟩) (fun j c hc => by
          have hj : j < ys.size := by rw [l1]; exact get_lt hc
          exact ⟨ys[j], by rw [Nat.zero_add]; exact Array.getElem?_eq_getElem hj, l2 j _ c (Array.getElem?_eq_getElem hj) hc⟩) hq
        have heq : (Op.equalIn 10000 t (.agg xs) (.agg ys)).run P w = .ok q w := by
          rw [run_equalIn_struct w 9999 t xs ys (by rw [hf]; exact ht) hst, hf]
          exact he
        simp only [execOp, ho, Sem.run_bind, hxv, hyv]
        rw [run_eqGuard_agg w op t x y xs ys hg]
        cases neg
        · simp only [Bool.false_eq_true, if_false] at hop; subst hop
          simp only [Result.andThen_ok, run_eql_struct w t xs ys, heq]; rfl
        · simp only [if_true] at hop; subst hop
          simp only [Result.andThen_ok, run_neq_struct w t xs ys, heq]; rfl
  · exact h.elim

theorem s_mk {t e : TypeId} {l c : Operand} {rl rc : Rv} {i : TypeInfo} {z : Value} {z' : PV} (ho : o.op = .makeSlice t l c) (ht : P.underlying t = some (.slice e)) (hi : P.info? e = some i) (hz : i.zero = some z) (hz' : absZ z = some z') (hzs : z.cells.size = i.size) (h0 : 0 < i.size) (hb0 : 0 < i.bytes)
    (hl : rv l = some rl) (hc : rv c = some rc) (h : opV P d (.mk i.size i.bytes z' rl rc) fr ba lo K) : Sound1 P o fr ba lo K := by
  have hml : l ∈ o.op.operands.toList := by simp [ho, Op.operands]
  have hmc : c ∈ o.op.operands.toList := by simp [ho, Op.operands]
  simp only [opV, evK_eq] at h
  split at h
  · rename_i kl l' kc c' e1 e2
    obtain ⟨⟨g1, g2, g3⟩, zs, rfl, h⟩ := h
    rw [pushK_eq] at h
    refine ⟨_, _, _, h, fun μ w a hinv hp => ?_⟩
    have v1 := (hp.get hml hl e1).int_inv
    have v2 := (hp.get hmc hc e2).int_inv
    have g3' : c'.toNat * i.bytes ≤ 70368744177664 := g3
    have hle : c'.toNat ≤ 70368744177664 := Nat.le_trans (Nat.le_mul_of_pos_right _ hb0) g3'
    have hrun := run_make (P := P) w t e i z ht hi hz kl kc l' c' g1 g2 (by
      have : ((c'.toNat * i.bytes : Nat) : Int) ≤ 70368744177664 := Int.ofNat_le.2 g3'
      rw [Int.natCast_mul, Int.toNat_of_nonneg (by omega), Int.mul_comm] at this
      omega) (by omega)
    have hcell : ∀ k, k < c'.toNat * i.size → (madeCells z.cells (c'.toNat * i.size))[k]? = z.cells[k % i.size]? := fun k hk => by
      have hm : k % i.size < z.cells.size := by rw [hzs]; exact Nat.mod_lt _ h0
      unfold madeCells
      rw [Array.getElem?_map, Array.getElem?_range, if_pos hk]
      simp only [Option.map_some, hzs]
      rw [getElem!_pos z.cells _ hm, Array.getElem?_eq_getElem hm]
    have hle2 : l'.toNat ≤ c'.toNat := by omega
    have hzv := fun M w => absZ_sound hz' M w
    have hone : ∀ (j : Nat) (x : Value), z.cells[j]? = some x → x.oneCell' = true := fun j x hx => by
      unfold absZ at hz'
      split at hz'
      · rename_i cs
        obtain ⟨es, h1, _⟩ := map_some hz'
        exact (absPs_sound h1 (fun _ => False) w).2.2 j x (by simpa [Value.cells] using hx)
      · have h1 := (absP_sound hz' (fun _ => False) w).2
        rw [cells_of_oneCell h1] at hx
        cases j with
        | zero => simp at hx; rw [← hx]; exact h1
        | succ j => simp at hx
    obtain ⟨h3, h4, h5⟩ := hinv.push (w' := w.alloc (.cells (madeCells z.cells (c'.toNat * i.size)) e)) (.buf (some w.heap.size) 0 (c'.toNat * i.size)) (.buf 0 i.size (List.replicate l'.toNat z')) (fun b hb => by cases hb; exact Nat.le_refl _) rfl rfl rfl (by simp) (fun b hb => heap_alloc_old w _ b hb) fun hle =>
      .buf _ 0 _ _ _ e _ (fun _ => z) (heap_alloc_new w _) (size_madeCells _ _) (by rw [List.length_replicate]; exact Nat.mul_le_mul_right _ hle2) fun j el he => by
        rw [List.getElem?_replicate] at he
        split at he
        · rename_i hj
          cases he
          refine ⟨hzs, fun k x hx => ⟨hone k x hx, ?_⟩, hzv _ _⟩
          have hk : k < i.size := by rw [← hzs]; exact (Array.getElem?_eq_some_iff.1 hx).1
          have hlt : j * i.size + k < c'.toNat * i.size := by
            have := Nat.mul_le_mul_right i.size (show j + 1 ≤ c'.toNat by omega)
            rw [Nat.add_mul, Nat.one_mul] at this
            omega
          rw [hcell _ hlt, Nat.mul_comm, Nat.mul_add_mod, Nat.mod_eq_of_lt hk]
          exact hx
        · cases he
    refine ⟨_, _, _, .inl (by simp only [execOp, ho, Sem.run_bind, v1, v2, hrun]; rfl), ?_, h3, h4, rfl⟩
    exact .view _ 0 _ _ w.heap.size _ _ h5 hle2 rfl
  · exact h.elim

end ops
end Go.Proofs.Ytkjidklifmcpnaa.AD
