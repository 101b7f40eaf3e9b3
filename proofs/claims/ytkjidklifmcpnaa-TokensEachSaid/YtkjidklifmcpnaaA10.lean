/- A plainer machine, ten: lengths, function values, bytes and texts, append. -/
import Derived.Test.YtkjidklifmcpnaaA9
namespace Go.Proofs.Ytkjidklifmcpnaa.AD
set_option linter.unusedVariables false

section ops
variable {P : Program} {o : Oper} {fr : FR} {ba lo : List Ob} {K : AV → List Ob → List Ob → Prop} {d : Bool}

theorem aliveV_at {r : Rf} {g : Nat} (hal : aliveV r g ba lo) {μ : List MI} {w : World} (hinv : Inv μ w ba lo) : ∃ b n', Ctx.at ⟨blocks μ, ba.length, μ⟩ r = some (.buf b g n') := by
  cases r with
  | l m =>
    obtain ⟨o', h5, h6⟩ := atK_out _ _ _ hal
    split at h6
    · rename_i g' sz' es
      subst h6
      obtain ⟨mi, h7, h8⟩ := hinv.at_l h5
      rcases h8.row with ⟨n', rfl, rfl⟩ | ⟨b, xs, t', rfl, _, _, _⟩
      · exact ⟨_, _, h7⟩
      · exact ⟨_, _, h7⟩
    · exact h6.elim
  | b id =>
    obtain ⟨ob, h5, h6⟩ := atK_out _ _ _ hal
    cases ob <;> first | exact (show False from h6).elim | skip
    rename_i g' sz' es
    obtain rfl := h6
    obtain ⟨mi, h7, h8⟩ := hinv.at_b h5
    rcases h8.of_take.row with ⟨n', rfl, rfl⟩ | ⟨b, xs, t', rfl, _, _, _⟩
    · exact ⟨_, _, h7⟩
    · exact ⟨_, _, h7⟩

theorem s_lenS {x : Operand} {rx : Rv} {t : TypeId} {ats : Array TypeId} (ho : o.op = .call { callee := .builtin .len, args := #[x], argTypes := #[t] }) (ht : P.underlying t = some .string) (hx : rv x = some rx)
    (h : opV P d (.lenS rx) fr ba lo K) : Sound1 P o fr ba lo K := by
  have hm : x ∈ o.op.operands.toList := by simp [ho, Op.operands, Call.operands]
  simp only [opV, evK_eq] at h
  split at h
  · rename_i s e1
    refine .quiet _ h fun μ w a hi hp => ⟨_, ?_, VA.int' _ _ _ _⟩
    simp [execOp, ho, resolve, invoke, builtin, (hp.get hm hx e1).str_inv, Builtin.len_, run_underlying ht, goInt]
  · exact h.elim

theorem s_len {x : Operand} {rx : Rv} {t e : TypeId} (ho : o.op = .call { callee := .builtin .len, args := #[x], argTypes := #[t] }) (ht : P.underlying t = some (.slice e)) (hx : rv x = some rx)
    (h : opV P d (.len rx) fr ba lo K) : Sound1 P o fr ba lo K := by
  have hm : x ∈ o.op.operands.toList := by simp [ho, Op.operands, Call.operands]
  simp only [opV, evK_eq] at h
  have run : ∀ (a : Act) (w : World) (A : Option Addr) (n c : Nat), a.eval x = .slice A n c → (execOp a.eval o).run P w = .ok (.value (.int .i64 n)) w := fun a w A n c h1 => by
    simp [execOp, ho, resolve, invoke, builtin, h1, Builtin.len_, run_underlying ht, goInt]
  split at h
  · rename_i e1
    refine .quiet _ h fun μ w a hi hp => ?_
    have h1 := (hp.get hm hx e1).pv
    generalize hv : a.eval x = v at h1
    cases h1
    exact ⟨_, run a w none 0 0 hv, VA.int' _ _ _ _⟩
  · rename_i sz es e1
    refine .quiet _ h fun μ w a hi hp => ?_
    obtain ⟨A, c, h1, _⟩ := (hp.get hm hx e1).pv.list_row
    exact ⟨_, run a w A _ c h1, VA.int' _ _ _ _⟩
  · rename_i sz es sp e1
    refine .quiet _ h fun μ w a hi hp => ?_
    obtain ⟨b, off, c, h1, _⟩ := (hp.get hm hx e1).pv.lent_row
    exact ⟨_, run a w _ _ c h1, VA.int' _ _ _ _⟩
  · rename_i r g sz len e1
    obtain ⟨hal, h⟩ := h
    refine .quiet _ h fun μ w a hi hp => ?_
    obtain ⟨b, n', h5⟩ := aliveV_at hal hi
    rcases view_inv (hp.get hm hx e1) h5 with ⟨rfl, h6, rfl⟩ | ⟨b', cap, rfl, h6, h7, h8⟩
    · exact ⟨_, run a w none 0 0 h6, VA.int' _ _ _ _⟩
    · exact ⟨_, run a w _ _ _ h6, VA.int' _ _ _ _⟩
  · exact h.elim

theorem s_ext {x : Operand} {i : Nat} {rx : Rv} (ho : o.op = .extract x i) (hx : rv x = some rx) (h : opV P d (.ext rx i) fr ba lo K) : Sound1 P o fr ba lo K := by
  have hm : x ∈ o.op.operands.toList := by simp [ho, Op.operands]
  simp only [opV, evK_eq] at h
  split at h
  · rename_i vs e1
    obtain ⟨e, he, hk⟩ := atK_out _ _ _ h
    refine .quiet _ hk fun μ w a hi hp => ?_
    have h1 := (hp.get hm hx e1).pv
    generalize hv : a.eval x = v at h1
    cases h1 with
    | tup xs cs h2 h3 =>
      have h4 : i < xs.size := by rw [h2]; exact get_lt he
      refine ⟨xs[i], ?_, .p _ _ (h3 i _ _ (Array.getElem?_eq_getElem h4) he)⟩
      simp [execOp, ho, hv, Instr.extract, h4]
  · rename_i vs e1
    obtain ⟨e, he, hk⟩ := atK_out _ _ _ h
    refine .quiet _ hk fun μ w a hi hp => ?_
    have h1 := hp.get hm hx e1
    generalize hv : a.eval x = v at h1
    cases h1 with
    | tup xs cs h2 h3 =>
      have h4 : i < xs.size := by rw [h2]; exact get_lt he
      refine ⟨xs[i], ?_, h3 i _ _ (Array.getElem?_eq_getElem h4) he⟩
      simp [execOp, ho, hv, Instr.extract, h4]
  · exact h.elim

/-- Operands in a row. -/
theorem rvs_sound (fr : FR) : ∀ {l : List Operand} {rs : List Rv}, rvs l = some rs → ∀ {Γ : Ctx} {w : World} {a : Act}, (∀ x r, x ∈ l → rv x = some r → VA Γ w (a.eval x) (evF r fr)) →
    l.length = rs.length ∧ ∀ (j : Nat) (x : Value) (c : AV), (l.map a.eval)[j]? = some x → (rs.map fun r => evF r fr)[j]? = some c → VA Γ w x c
  | [], rs, h, Γ, w, a, hx => by
    cases h
    exact ⟨rfl, fun j x c h => by simp at h⟩
  | y :: l, rs, h, Γ, w, a, hx => by
    simp only [rvs] at h
    split at h
    · rename_i c cs h1 h2
      cases h
      obtain ⟨h3, h4⟩ := rvs_sound fr (a := a) (w := w) (Γ := Γ) h2 (fun x r hm hr => hx x r (List.mem_cons_of_mem _ hm) hr)
      refine ⟨by simp [h3], fun j x c' hj hc => ?_⟩
      cases j with
      | zero =>
        simp at hj hc
        subst hj; subst hc
        exact hx y c (by simp) h1
      | succ j => exact h4 j x c' (by simpa using hj) (by simpa using hc)
    · cases h

theorem s_mkfn {f : Fn} {first cap : Array Operand} {rf rc : List Rv} (ho : o.op = .makeFunc f first cap) (h1 : rvs first.toList = some rf) (h2 : rvs cap.toList = some rc) (h : opV P d (.mkfn f rf rc) fr ba lo K) : Sound1 P o fr ba lo K := by
  simp only [opV, evsK_eq] at h
  have run : ∀ (a : Act) (w : World), (execOp a.eval o).run P w = .ok (.value (.func f (first.map a.eval) (cap.map a.eval))) w := fun a w => by simp [execOp, ho, Instr.makeFunc]
  have key : ∀ {μ : List MI} {w : World} {a : Act}, Opnds o a μ w ba fr → (first.size = rf.length ∧ ∀ (j : Nat) (x : Value) (c : AV), (first.map a.eval)[j]? = some x → (rf.map fun r => evF r fr)[j]? = some c → VA ⟨blocks μ, ba.length, μ⟩ w x c) ∧
      (cap.size = rc.length ∧ ∀ (j : Nat) (x : Value) (c : AV), (cap.map a.eval)[j]? = some x → (rc.map fun r => evF r fr)[j]? = some c → VA ⟨blocks μ, ba.length, μ⟩ w x c) := fun {μ w a} hp => by
    obtain ⟨a1, a2⟩ := rvs_sound fr (a := a) (w := w) (Γ := ⟨blocks μ, ba.length, μ⟩) h1 (fun x r hm hr => hp x r (by simp [ho, Op.operands]; exact .inl (by simpa using hm)) hr)
    obtain ⟨b1, b2⟩ := rvs_sound fr (a := a) (w := w) (Γ := ⟨blocks μ, ba.length, μ⟩) h2 (fun x r hm hr => hp x r (by simp [ho, Op.operands]; exact .inr (by simpa using hm)) hr)
    exact ⟨⟨by simpa using a1, fun j x c hj hc => a2 j x c (by simpa using hj) hc⟩, ⟨by simpa using b1, fun j x c hj hc => b2 j x c (by simpa using hj) hc⟩⟩
  split at h
  · rename_i e1 e2
    refine .quiet _ h fun μ w a hi hp => ⟨_, run a w, ?_⟩
    obtain ⟨⟨k1, _⟩, ⟨k2, _⟩⟩ := key hp
    have f1 : first = #[] := Array.eq_empty_of_size_eq_zero (by rw [k1]; simpa using congrArg List.length e1)
    have f2 : cap = #[] := Array.eq_empty_of_size_eq_zero (by rw [k2]; simpa using congrArg List.length e2)
    subst f1; subst f2
    have e : (Value.func f ((#[] : Array Operand).map a.eval) ((#[] : Array Operand).map a.eval)) = .func f #[] #[] := by simp
    rw [e]
    exact .p _ _ (.fn f)
  · refine .quiet _ h fun μ w a hi hp => ⟨_, run a w, ?_⟩
    obtain ⟨⟨k1, k2⟩, ⟨k3, k4⟩⟩ := key hp
    exact .clos f _ _ _ _ (by simpa using k1) (by simpa using k3) k2 k4

theorem s_max2 {x y : Operand} {rx ry : Rv} {ats : Array TypeId} (ho : o.op = .call { callee := .builtin .max, args := #[x, y], argTypes := ats }) (hx : rv x = some rx) (hy : rv y = some ry) (h : opV P d (.max2 rx ry) fr ba lo K) : Sound1 P o fr ba lo K := by
  have hm : x ∈ o.op.operands.toList := by simp [ho, Op.operands, Call.operands]
  have hmy : y ∈ o.op.operands.toList := by simp [ho, Op.operands, Call.operands]
  simp only [opV, evK_eq] at h
  split at h
  · rename_i k a j b e1 e2
    obtain ⟨rfl, h5⟩ := kindK_out h
    refine .quiet _ h5 fun μ w act hi hp => ⟨_, ?_, VA.int' _ _ _ _⟩
    have e3 := (hp.get hm hx e1).int_inv
    have e4 := (hp.get hmy hy e2).int_inv
    have hrun := run_max_int2 (P := P) w ats o.type k k a b
    simp only [execOp, ho, resolve, invoke, builtin]
    simp [e3, e4, hrun]
  · exact h.elim
theorem s_min2 {x y : Operand} {rx ry : Rv} {ats : Array TypeId} (ho : o.op = .call { callee := .builtin .min, args := #[x, y], argTypes := ats }) (hx : rv x = some rx) (hy : rv y = some ry) (h : opV P d (.min2 rx ry) fr ba lo K) : Sound1 P o fr ba lo K := by
  have hm : x ∈ o.op.operands.toList := by simp [ho, Op.operands, Call.operands]
  have hmy : y ∈ o.op.operands.toList := by simp [ho, Op.operands, Call.operands]
  simp only [opV, evK_eq] at h
  split at h
  · rename_i k a j b e1 e2
    obtain ⟨rfl, h5⟩ := kindK_out h
    refine .quiet _ h5 fun μ w act hi hp => ⟨_, ?_, VA.int' _ _ _ _⟩
    have e3 := (hp.get hm hx e1).int_inv
    have e4 := (hp.get hmy hy e2).int_inv
    have hrun := run_min_int2 (P := P) w ats o.type k k a b
    simp [execOp, ho, resolve, invoke, builtin, e3, e4, hrun]
  · exact h.elim

/-! #### bytes and texts -/

theorem byteInts_length (s : ByteArray) : (byteInts s).length = s.size := by simp [byteInts]

theorem intBytes_out : ∀ {ys : List PV} {l : List UInt8}, intBytes ys = some l → ∃ ns : List Int, ys = ns.map (PV.int .u8) ∧ l = ns.map fun n => UInt8.ofNat n.toNat
  | [], l, h => by cases h; exact ⟨[], rfl, rfl⟩
  | y :: r, l, h => by
    unfold intBytes at h
    split at h
    · rename_i e; cases e
    · rename_i n r' e
      cases e
      obtain ⟨l', h1, rfl⟩ := Option.map_eq_some_iff.1 h
      obtain ⟨ns, rfl, rfl⟩ := intBytes_out h1
      exact ⟨n :: ns, rfl, rfl⟩
    · cases h

theorem RowOf.ints {M : Nat → Prop} {w : World} {f : Nat → Option Value} {ns : List Int} (h : RowOf M w 1 f (ns.map (PV.int .u8))) (j : Nat) (v : Value) (hj : (ns.map (Value.int .u8))[j]? = some v) : f j = some v := by
  have hl : j < ns.length := by have := get_lt hj; simpa using this
  obtain ⟨c, h1, h2, h3⟩ := h.get (j := j) (e := .int .u8 ns[j]) (by simp [hl])
  cases h3
  have h4 : f (j * 1 + 0) = some (Value.int .u8 ns[j]) := (h2 0 _ rfl).2
  rw [Nat.mul_one, Nat.add_zero] at h4
  rw [h4]
  simp [hl] at hj
  rw [hj]

/-- What a list holds, as it lies. -/
def ContV (P : Program) (sz : Nat) (y : AV) (ba lo : List Ob) (ys : List PV) : Prop :=
  ∀ (μ : List MI) (w : World) (v : Value), Inv μ w ba lo → VA ⟨blocks μ, ba.length, μ⟩ w v y → ∃ A c, v = .slice A ys.length c ∧ RowOf (blocks μ) w sz (cellsAt w A) ys ∧ (A = none → ys = []) ∧ ∀ a, A = some a → ys ≠ [] → a.spot = none

theorem contK_out {sz : Nat} {y : AV} {k : List PV → Prop} (h : contK sz y ba lo k) : ∃ ys, k ys ∧ ContV P sz y ba lo ys := by
  unfold contK at h
  split at h
  · refine ⟨[], h, fun μ w v hi hv => ?_⟩
    have := hv.pv
    cases this
    exact ⟨none, 0, rfl, RowOf.nil, fun _ => rfl, fun a h _ => by cases h⟩
  · rename_i sz' ys
    obtain ⟨rfl, h⟩ := h
    refine ⟨ys, h, fun μ w v hi hv => ?_⟩
    obtain ⟨A, c, h1, h2, h3, h4, h5⟩ := hv.pv.list_row
    exact ⟨A, c, h1, h3, fun e => List.length_eq_zero_iff.1 (by have := h4 e; omega), fun a e h => (h5 a e h).1⟩
  · rename_i sz' ys sp
    obtain ⟨rfl, h⟩ := h
    refine ⟨ys, h, fun μ w v hi hv => ?_⟩
    obtain ⟨b, off, c, h1, h2, h3, h4, h5⟩ := hv.pv.lent_row
    have := h3.take ys.length
    rw [List.take_left] at this
    exact ⟨_, c, h1, this, fun e => (by cases e), fun a e _ => (by cases e; rfl)⟩
  · rename_i m g sz' len
    obtain ⟨o', ho', h⟩ := atK_out _ _ _ h
    split at h
    · rename_i g' sz'' es
      obtain ⟨⟨rfl, rfl, rfl, hlen⟩, ys, rfl, h⟩ := h
      refine ⟨_, h, fun μ w v hi hv => ?_⟩
      obtain ⟨mi, h1, h2⟩ := hi.at_l ho'
      rcases h2.row with ⟨n', rfl, rfl⟩ | ⟨b, xs, t', rfl, h3, h4, h5⟩
      · rcases view_inv hv h1 with ⟨_, rfl, rfl⟩ | ⟨b', cap, e, _⟩
        · exact ⟨none, 0, by simp, by simpa using RowOf.nil, fun _ => by simp, fun a e => by cases e⟩
        · cases e
      · rcases view_inv hv h1 with ⟨e, _, _⟩ | ⟨b', cap, e, rfl, h6, h7⟩
        · cases e
        · cases e
          refine ⟨some ⟨b, 0, none⟩, cap, by rw [List.length_take, Nat.min_eq_left hlen], (row_at h3 h5).take len, fun e => (by cases e), fun a e _ => (by cases e; rfl)⟩
    · exact h.elim
  · rename_i id g sz' len
    obtain ⟨ob, ho', h⟩ := atK_out _ _ _ h
    cases ob <;> first | exact (show False from h).elim | skip
    rename_i g' sz'' es
    obtain ⟨⟨rfl, rfl, rfl, hlen⟩, ys, rfl, h⟩ := h
    refine ⟨_, h, fun μ w v hi hv => ?_⟩
    obtain ⟨mi, h1, h2⟩ := hi.at_b ho'
    rcases h2.of_take.row with ⟨n', rfl, rfl⟩ | ⟨b, xs, t', rfl, h3, h4, h5⟩
    · rcases view_inv hv h1 with ⟨_, rfl, rfl⟩ | ⟨b', cap, e, _⟩
      · exact ⟨none, 0, by simp, by simpa using RowOf.nil, fun _ => by simp, fun a e => by cases e⟩
      · cases e
    · rcases view_inv hv h1 with ⟨e, _, _⟩ | ⟨b', cap, e, rfl, h6, h7⟩
      · cases e
      · cases e
        refine ⟨some ⟨b, 0, none⟩, cap, by rw [List.length_take, Nat.min_eq_left hlen], (row_at h3 h5).take len, fun e => (by cases e), fun a e _ => (by cases e; rfl)⟩
  · exact h.elim

theorem s_ofBytes {s t e : TypeId} {x : Operand} {rx : Rv} (ho : o.op = .convert s t x) (hs : P.underlying s = some (.slice e)) (he : P.underlying e = some (.int .u8)) (ht : P.underlying t = some .string) (hx : rv x = some rx) (h : opV P d (.ofBytes rx) fr ba lo K) : Sound1 P o fr ba lo K := by
  have hm : x ∈ o.op.operands.toList := by simp [ho, Op.operands]
  simp only [opV, evK_eq] at h
  obtain ⟨ys, ⟨l, hl, hk⟩, hc⟩ := contK_out (P := P) h
  obtain ⟨ns, rfl, rfl⟩ := intBytes_out hl
  refine .quiet _ hk fun μ w a hi hp => ⟨_, ?_, VA.str' _ _ _⟩
  obtain ⟨A, c, h1, h2, h3, h4⟩ := hc μ w _ hi (hp.get hm hx rfl)
  simp only [execOp, ho, Sem.run_bind, h1]
  rw [run_convert_bytes_string w s t e A _ c hs he ht]
  cases A with
  | none =>
    have := h3 rfl
    have e0 : ns = [] := by simpa using this
    subst e0
    rfl
  | some ad =>
    have hload := run_loadCells_list (P := P) w ad (ns.map (Value.int .u8)) (fun j v hj => h2.ints j v hj)
    have := run_bytesToString (P := P) w ad (ns.map (PV.int .u8)).length c ns (by simpa using hload)
    rw [this]
    simp only [Result.andThen_ok]
    have gen : ∀ (l : List Int) (r : ByteArray), l.foldl (fun r n => r.push (UInt8.ofNat n.toNat)) r = ⟨r.data ++ (l.map fun n => UInt8.ofNat n.toNat).toArray⟩ := by
      intro l
      induction l with
      | nil => intro r; simp
      | cons n l ih => intro r; simp only [List.foldl_cons, ih]; simp [ByteArray.push]
    rw [gen]
    simp

theorem s_toBytes {s t e : TypeId} {x : Operand} {rx : Rv} (ho : o.op = .convert s t x) (hs : P.underlying s = some .string) (ht : P.underlying t = some (.slice e)) (he : P.underlying e = some (.int .u8)) (hx : rv x = some rx) (h : opV P d (.toBytes rx) fr ba lo K) : Sound1 P o fr ba lo K := by
  have hm : x ∈ o.op.operands.toList := by simp [ho, Op.operands]
  simp only [opV, evK_eq] at h
  split at h
  · rename_i s' e1
    refine ⟨_, ba, lo, h, fun μ w a hi hp => ?_⟩
    have h1 := run_bytes_of_string (P := P) w s t e s' hs ht he
    have hC : s'.size ≤ grownCap w s'.size 0 e := by unfold grownCap Question.cut; simp
    generalize grownCap w s'.size 0 e = C at h1 hC
    have hle : Le μ w μ (w.drew.alloc (.cells (bytesRow s' (C)) e ((bytesRow s' (C)).size, (bytesRow s' (C)).size + 1))) :=
      (le_drew μ w).trans (le_alloc μ (hi.grow (le_drew μ w) fun b hb => rfl) _)
    refine ⟨.slice (some ⟨w.heap.size, 0, none⟩) s'.size (C), _, μ, .inl ?_, ?_, hi.grow hle fun b hb => ?_, hle, rfl⟩
    · simp only [execOp, ho, Sem.run_bind, (hp.get hm hx e1).str_inv, h1, Result.andThen_ok]; rfl
    · rw [← byteInts_length s']
      have hnew := heap_alloc_new w.drew (.cells (bytesRow s' (C)) e ((bytesRow s' (C)).size, (bytesRow s' (C)).size + 1))
      refine .p _ _ (VP.of_row ?_ (fun hb => ?_) (by simp) ?_)
      · refine ⟨fun j => (byteInts s')[j]?.elim undef fun e => match e with | .int k n => .int k n | _ => undef, fun j e' he' => ?_, fun j e' he' i x hx => ?_, fun j e' he' => ?_⟩
        · simp only [he', Option.elim_some]
          simp only [byteInts, List.getElem?_map] at he'
          obtain ⟨b, _, rfl⟩ := Option.map_eq_some_iff.1 he'
          rfl
        · simp only [he', Option.elim_some] at hx
          have hj := get_lt he'
          rw [byteInts_length] at hj
          simp only [byteInts, List.getElem?_map] at he'
          obtain ⟨b, hb, rfl⟩ := Option.map_eq_some_iff.1 he'
          cases i with
          | zero =>
            simp [Value.cells] at hx
            subst hx
            refine ⟨rfl, ?_⟩
            simp only [cellsAt, add_none, Nat.zero_add, Nat.mul_one, Nat.add_zero]
            rw [show w.heap.size = w.drew.heap.size from rfl, cell_of_row _ _ _ _ _ _ hnew, bytesRow_at s' _ j hj]
            have := (List.getElem?_eq_some_iff.1 hb).2
            simp at this
            rw [this]
          | succ i => simp [Value.cells] at hx
        · simp only [he', Option.elim_some]
          simp only [byteInts, List.getElem?_map] at he'
          obtain ⟨b, _, rfl⟩ := Option.map_eq_some_iff.1 he'
          exact .int _ _
      · have := hi.block_lt hb
        simp at this
      · rw [byteInts_length]; exact hC
    · exact heap_alloc_old w.drew _ b hb
  · exact h.elim

end ops
end Go.Proofs.Ytkjidklifmcpnaa.AD
