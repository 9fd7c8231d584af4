/- Byte slices over M's heap; where a law's call starts. -/
import Derived.Test.YtcapjjmikapmfaaMr
set_option linter.unusedVariables false
set_option linter.unusedSimpArgs false
namespace Go.Proofs.Ytcapjjmikapmfaa.M
open Go Go.Proofs

/-! ### From a contract to the model's call -/

theorem Call.unfold {P : Program} {N : Nat} {fn : Fn} {args : List Value} {H H' : Heap} {v : Value} (h : Call P N fn args H v H') : CallF P (Call P) N fn args H v H' :=
  h (fun N fn args H v H' => CallF P (Call P) N fn args H v H') fun N fn args H v H' hF => hF.mono fun _ _ _ _ _ _ k => Call.fold k

theorem Fun.calls {P : Program} {f : FuncId} {func : Func} {args args' : List Value} {H : Heap} {v : Value} (h : Fun P f args H fun v' _ => v' = v) (hv : flat v = true) (hf : P.funcs[f]? = some func) (hb : func.body.isNone = false) (hn : (func.name == "runtime.NumGoroutine") = false)
    {ρ : Pl} {W : World} (r : Rel ρ H W) (hfree : ∀ i, H.size ≤ i → ρ i = none) (ha : VL ρ args args') :
    Calls P f args'.toArray W fun e W' => e = .returned v ∧ RowKit.Below W.heap.size W W' := by
  obtain ⟨v', H', h1, rfl⟩ := h
  rcases h1.unfold with hB | ⟨⟨_, _, hx⟩, _⟩
  · exact Body.calls hB hv r hfree ha
  · exfalso
    have h0 := hx W
    have hn' : ¬ func.name = "runtime.NumGoroutine" := by simpa using hn
    have h2 : (callFunc f args.toArray).run P W = .ok (.enter f args.toArray) W := by
      have hb' : func.body ≠ none := by intro e; rw [e] at hb; cases hb
      simp [callFunc, hf, hb, hb', hn', Sem.run_bind, program, Sem.run, Result.andThen]
    rw [h2] at h0
    cases h0

/-! ### Byte slices -/

/-- A slice whose elements take one cell each: what it reads as. -/
def SV (H : Heap) (v : Value) (xs : List Value) : Prop :=
  (v = .slice none 0 0 ∧ xs = []) ∨
  ∃ i o c, v = .slice (some ⟨i, o, some 1⟩) xs.length c ∧ xs.length ≤ c ∧ (xs ≠ [] → ∃ vs ex tl, H[i]? = some (.cells vs ex tl) ∧ o + xs.length ≤ vs.length ∧ ∀ (k : Nat) (x : Value), xs[k]? = some x → vs[o + k]? = some x)

/-- A slice of bytes. -/
def Sl (H : Heap) (v : Value) (xs : List (BitVec 8)) : Prop := SV H v (xs.map u8)

def isNil : Value → Bool
  | .slice none _ _ => true
  | _ => false

/-- What one row of whole numbers is, as the kit's openers tell it. -/
def IsRow (w : World) (a : Option Addr) (len cap : Nat) (zs : List Int) : Prop :=
  (a = none ∧ len = 0 ∧ cap = 0 ∧ zs = []) ∨
  ∃ x, a = some x ∧ len ≤ cap ∧ cap ≤ maxLen ∧ zs.length = cap ∧ (∀ i, i < zs.length → w.cell? (x.add i) = some (.int .u8 (zs.getD i 0))) ∧ ∀ n ∈ zs, (Lit.int .u8 n).wf = true

structure RowIn where
  a : Option Addr
  len : Nat
  cap : Nat
  zs : List Int

def RowIn.bytes (r : RowIn) : List (BitVec 8) := (r.zs.take r.len).map (BitVec.ofInt 8)
def RowIn.val (r : RowIn) (i : Nat) : Value := match r.a with | none => .slice none 0 0 | some _ => .slice (some ⟨i, 0, some 1⟩) r.len r.len
def RowIn.place (W : World) (r : RowIn) : Option (Nat × Nat × Nat) :=
  match r.a with
  | none => none
  | some x => if r.cap = 0 then none else match W.heap[x.block]? with
    | some (.cells carr _ _) => some (x.block, x.off, carr.size)
    | _ => none

def startH (rs : List RowIn) : Heap := (rs.map fun r => Blk.cells (r.bytes.map u8) false false).toArray
def startP (W : World) (rs : List RowIn) : Pl := fun i => (rs[i]?).bind (RowIn.place W)

theorem add_zero' (x : Addr) : x.add 0 = x := by simp [Addr.add]

theorem IsRow.place {W : World} {r : RowIn} (h : IsRow W r.a r.len r.cap r.zs) {b s E : Nat} (hp : r.place W = some (b, s, E)) :
    ∃ carr ty fz, W.heap[b]? = some (.cells carr ty fz) ∧ carr.size = E ∧ r.len ≤ r.cap ∧ s + r.cap ≤ E ∧ r.zs.length = r.cap ∧ r.a = some ⟨b, s, none⟩ ∧ 0 < r.cap ∧
      (∀ k, k < r.cap → carr[s + k]? = some (.int .u8 (r.zs.getD k 0))) ∧ ∀ n ∈ r.zs, (Lit.int .u8 n).wf = true := by
  rcases h with ⟨ha, _⟩ | ⟨x, ha, hl, hm, hz, hc, hw⟩
  · simp [RowIn.place, ha] at hp
  · simp only [RowIn.place, ha] at hp
    split at hp
    · cases hp
    · rename_i hcap
      split at hp
      · rename_i carr ty fz hb
        simp only [Option.some.injEq, Prod.mk.injEq] at hp
        obtain ⟨rfl, rfl, rfl⟩ := hp
        have h0 := hc 0 (by omega)
        rw [add_zero'] at h0
        have hsp : x.spot = none := by
          unfold World.cell? at h0
          rw [hb] at h0
          simp only at h0
          split at h0
          · cases h0
          · rename_i h1; simpa using h1
        have hx : x = ⟨x.block, x.off, none⟩ := by cases x; simp_all
        have hcell : ∀ k, k < r.cap → carr[x.off + k]? = some (.int .u8 (r.zs.getD k 0)) := by
          intro k hk
          have := hc k (by omega)
          rw [hx, add_plain] at this
          rw [cell_at hb] at this
          exact this
        refine ⟨carr, ty, fz, hb, rfl, hl, ?_, hz, by rw [ha, ← hx], by omega, hcell, hw⟩
        have := hcell (r.cap - 1) (by omega)
        have := get_lt this
        omega
      · cases hp

theorem wf_u8 {n : Int} (h : (Lit.int .u8 n).wf = true) : Value.int .u8 n = u8 (BitVec.ofInt 8 n) := by
  simp only [Lit.wf, Bool.and_eq_true, decide_eq_true_eq] at h
  have h1 : (0 : Int) ≤ n := h.1
  have h2 : n ≤ 255 := h.2
  unfold u8
  congr 1
  rw [BitVec.toNat_ofInt]
  omega

theorem start_rel {W : World} {rs : List RowIn} (h : ∀ r ∈ rs, IsRow W r.a r.len r.cap r.zs) : Rel (startP W rs) (startH rs) W := by
  have hget : ∀ {i p}, startP W rs i = some p → ∃ r, rs[i]? = some r ∧ r ∈ rs ∧ r.place W = some p := by
    intro i p hp
    simp only [startP, Option.bind_eq_some_iff] at hp
    obtain ⟨r, hr, hp⟩ := hp
    exact ⟨r, hr, List.mem_of_getElem? hr, hp⟩
  refine ⟨fun i b s E _ hp => ?_, fun i b s E x hp hx => ?_, fun i j b s s' E E' x y _ _ _ hx hy => ?_⟩
  · obtain ⟨r, _, hm, hp⟩ := hget hp
    obtain ⟨carr, ty, fz, hb, _⟩ := (h r hm).place hp
    exact get_lt hb
  · obtain ⟨r, hr, hm, hp⟩ := hget hp
    obtain ⟨carr, ty, fz, hb, hE, hlc, hse, hz, ha, hpos, hcell, hw⟩ := (h r hm).place hp
    have hx' : x = .cells (r.bytes.map u8) false false := by
      simp only [startH, List.getElem?_toArray, List.getElem?_map, hr, Option.map_some, Option.some.injEq] at hx
      exact hx.symm
    subst hx'
    refine ⟨carr, ty, fz, hb, hE, ?_, fun k v hv => ?_, fun hh => absurd hh (by simp), fun hh => absurd hh (by simp)⟩
    · simp [RowIn.bytes]; omega
    · simp only [RowIn.bytes, List.map_map, List.getElem?_map, Option.map_eq_some_iff] at hv
      obtain ⟨n, hn, rfl⟩ := hv
      have hk : k < r.len ∧ r.zs[k]? = some n := by
        rw [List.getElem?_take] at hn
        split at hn
        · exact ⟨by assumption, hn⟩
        · cases hn
      refine ⟨_, hcell k (by omega), ?_⟩
      have hgd : r.zs.getD k 0 = n := by rw [List.getD_eq_getElem?_getD, hk.2]; rfl
      rw [hgd, wf_u8 (hw n (List.mem_of_getElem? hk.2))]
      exact .int _ _
  · have cells : ∀ {i : Nat} {x : Blk}, (startH rs)[i]? = some x → ∃ vs, x = .cells vs false false := by
      intro i x hx
      simp only [startH, List.getElem?_toArray, List.getElem?_map, Option.map_eq_some_iff] at hx
      obtain ⟨r, _, rfl⟩ := hx
      exact ⟨_, rfl⟩
    obtain ⟨vs, rfl⟩ := cells hx
    obtain ⟨vs', rfl⟩ := cells hy
    exact ⟨fun hh => absurd hh (by simp), fun hh => absurd hh (by simp)⟩

theorem start_free {W : World} {rs : List RowIn} : ∀ i, (startH rs).size ≤ i → startP W rs i = none := by
  intro i hi
  simp only [startH, List.size_toArray, List.length_map] at hi
  simp [startP, List.getElem?_eq_none hi]

theorem start_val {W : World} {rs : List RowIn} {i : Nat} {r : RowIn} (hr : rs[i]? = some r) (h : IsRow W r.a r.len r.cap r.zs) : VR (startP W rs) (r.val i) (.slice r.a r.len r.cap) := by
  have hp : startP W rs i = r.place W := by simp [startP, hr]
  rcases h with ⟨ha, hl, hc, hz⟩ | ⟨x, ha, hl, hm, hz, hc, hw⟩
  · simp only [RowIn.val, ha, hl, hc]; exact .nilSlice
  · simp only [RowIn.val, ha]
    by_cases h0 : r.cap = 0
    · have : r.len = 0 := by omega
      rw [this, h0]
      exact .slice0 _ _
    · have hcell := hc 0 (by omega)
      rw [add_zero'] at hcell
      have hb : ∃ carr ty fz, W.heap[x.block]? = some (.cells carr ty fz) := by
        unfold World.cell? at hcell
        split at hcell
        · rename_i c ty fz hb; exact ⟨c, ty, fz, hb⟩
        · cases hcell
      obtain ⟨carr, ty, fz, hb⟩ := hb
      have hpl : r.place W = some (x.block, x.off, carr.size) := by simp [RowIn.place, ha, h0, hb]
      obtain ⟨carr', ty', fz', hb', hE, hlc, hse, hz', ha', hpos, hcell', hw'⟩ := IsRow.place (r := r) (.inr ⟨x, ha, hl, hm, hz, hc, hw⟩) hpl
      have hx : x = ⟨x.block, x.off, none⟩ := by rw [ha] at ha'; exact Option.some.inj ha'
      rw [hx]
      have hend : x.off + 0 + r.cap * 1 ≤ carr.size := by omega
      exact .slice (hp.trans hpl) (Nat.le_refl _) hlc hend

theorem start_sl {W : World} {rs : List RowIn} {i : Nat} {r : RowIn} (hr : rs[i]? = some r) (h : IsRow W r.a r.len r.cap r.zs) : Sl (startH rs) (r.val i) r.bytes ∧ isNil (r.val i) = r.a.isNone := by
  have hlen : r.bytes.length = r.len := by
    rcases h with ⟨ha, hl, hc, hz⟩ | ⟨x, ha, hl, hm, hz, hc, hw⟩
    · simp [RowIn.bytes, hz, hl]
    · simp [RowIn.bytes]; omega
  cases ha : r.a with
  | none =>
    rcases h with ⟨_, hl, hc, hz⟩ | ⟨x, ha', _⟩
    · exact ⟨.inl ⟨by simp [RowIn.val, ha], by simp [RowIn.bytes, hz]⟩, by simp [RowIn.val, ha, isNil]⟩
    · rw [ha] at ha'; cases ha'
  | some x =>
    refine ⟨.inr ⟨i, 0, r.len, by simp [RowIn.val, ha, hlen], by simp [hlen], fun _ => ⟨r.bytes.map u8, false, false, ?_, by simp, fun k x hk => by simpa using hk⟩⟩, by simp [RowIn.val, ha, isNil]⟩
    simp [startH, hr]

/-! ### Scalars as a law's call brings them -/

def I64 (n : Int) : Prop := -9223372036854775808 ≤ n ∧ n < 9223372036854775808
theorem I64.of {n : Int} (h : (Lit.int .i64 n).wf = true) : I64 n := by
  simp only [Lit.wf, Bool.and_eq_true, decide_eq_true_eq] at h
  have h1 : -9223372036854775808 ≤ n := h.1
  have h2 : n ≤ 9223372036854775807 := h.2
  exact ⟨h1, by omega⟩
theorem open_u8 {n : Int} (h : (Lit.int .u8 n).wf = true) : ∃ x : BitVec 8, n = (x.toNat : Nat) := by
  have := wf_u8 h
  unfold u8 at this
  injection this with _ h
  exact ⟨_, h⟩
theorem open_u32 {n : Int} (h : (Lit.int .u32 n).wf = true) : ∃ x : BitVec 32, n = (x.toNat : Nat) := by
  simp only [Lit.wf, Bool.and_eq_true, decide_eq_true_eq] at h
  have h1 : (0 : Int) ≤ n := h.1
  have h2 : n ≤ 4294967295 := h.2
  exact ⟨BitVec.ofInt 32 n, by rw [BitVec.toNat_ofInt]; omega⟩
theorem open_u64 {n : Int} (h : (Lit.int .u64 n).wf = true) : ∃ x : BitVec 64, n = (x.toNat : Nat) := by
  simp only [Lit.wf, Bool.and_eq_true, decide_eq_true_eq] at h
  have h1 : (0 : Int) ≤ n := h.1
  have h2 : n ≤ 18446744073709551615 := h.2
  exact ⟨BitVec.ofInt 64 n, by rw [BitVec.toNat_ofInt]; omega⟩
theorem RowIn.len_le {W : World} {r : RowIn} (h : IsRow W r.a r.len r.cap r.zs) (hl : r.len * 1 ≤ 140737488351232) : r.bytes.length ≤ 140737488351232 := by
  simp only [RowIn.bytes, List.length_map, List.length_take]; omega

end Go.Proofs.Ytcapjjmikapmfaa.M
