/- methTells_holds: all that the theorem needs, in a few texts (bundle.py; made of the texts that NOTES.md names). -/
import Derived.Below
import Derived.Carry
import Derived.ChangeOld
import Derived.ChangeShapes
import Derived.KernelRfl
import Derived.Laws.Append
import Derived.Laws.Bits64
import Derived.Laws.BitsAllLaws
import Derived.Laws.BitsLemmas
import Derived.Laws.IdiomStrings
import Derived.Laws.Sem
import Derived.Laws.Strings
import Derived.LoopN
import Derived.MapKept
import Derived.OpenShut
import Derived.Orders
import Derived.Test.YtjkiaeccjelklaaChecked
import Derived.Test.YtjkiaeccjelklaaRows
import Derived.WideLaws
import Derived.WideShapes
import Derived.Test.YtjkiaeccjelklaaBMethTellsUpto1
import Derived.Test.YtjkiaeccjelklaaBMethTellsUpto2
import Derived.Test.YtjkiaeccjelklaaBMethTellsUpto3
import Derived.Test.YtjkiaeccjelklaaBMethTellsUpto4
import Derived.Test.YtjkiaeccjelklaaBMethTellsUpto6
import Derived.Test.YtjkiaeccjelklaaBMethTellsUpto7
import Derived.Test.YtjkiaeccjelklaaBMethTellsUpto8
import Derived.Test.YtjkiaeccjelklaaBMethTellsUpto9
import Derived.Test.YtjkiaeccjelklaaBMethTellsUpto11
section
set_option linter.unusedVariables false
set_option linter.unusedSimpArgs false
namespace Go.Proofs.Ytjkiaeccjelklaa.Ar
open Go Go.Lift Go.Proofs Go.RowKit
section
variable {H : Type} {enc : TypeId × Value → H} {W : World}
theorem rd_sliceX {P : Program} {fuel : Nat} {t e : TypeId} {cs : List Value} {x : DataW H × List MemPlace} (ht : P.underlying t = some (.slice e)) (h : DataW.trod enc P W 0 (fun _ => true) true fuel t cs = some x) :
    ∃ (s : SV) (rows : List (List Value × DataW H)), cs = [s.v] ∧ rows.length = s.2.1 ∧ s.2.1 ≤ s.2.2 ∧ Sl (P.cellsOf e) W.heap s.1 s.2.1 (rows.map (·.1)).flatten ∧ (rows = [] ∨ ∃ rest, x.1 = .slice (rows.map (·.2)) rest) ∧
      ∃ m, m < fuel ∧ ∀ r ∈ rows, r.1.length = P.cellsOf e ∧ ∃ ps, DataW.trod enc P W 0 (fun _ => true) true m e r.1 = some (r.2, ps) := by
  rcases DataW.trod_slice ht h with ⟨h0, _⟩ | ⟨a, len, cap, elems, rest, n, rfl, rfl, hx, hb, hl, hm, hlen, hel, hsp, _⟩
  · cases fuel with
    | zero => simp [DataW.trod] at h
    | succ m => exact ⟨(none, 0, 0), [], h0, rfl, Nat.le_refl _, ⟨by simp, rfl⟩, .inl rfl, m, by omega, by simp⟩
  have each : ∀ i (hi : i < len), ∃ r : List Value, W.cells? 0 (a.add (i * P.cellsOf e)) (P.cellsOf e) = some r ∧ DataW.trod enc P W 0 (fun _ => true) true n e r = some (elems[i]'(by omega)) := by
    intro i hi
    have := hel i hi
    rw [List.getElem?_eq_getElem (by omega)] at this
    obtain ⟨r, h1, h2⟩ := Option.bind_eq_some_iff.1 this
    exact ⟨r, h1, h2⟩
  have hs0 : 0 < len * P.cellsOf e → a.spot = none := by
    intro hp
    obtain ⟨r, h4, h5⟩ := each 0 (Nat.pos_of_mul_pos_right hp)
    obtain ⟨h6, h7⟩ := cells?_at h4
    have hp2 : 0 < P.cellsOf e := Nat.pos_of_mul_pos_left hp
    have := h7 0 hp2
    rw [Nat.zero_mul, add_zero, add_zero, List.getElem?_eq_getElem (by omega)] at this
    exact hcell_spot (by rw [this]; simp)
  have rows : ∀ k, k ≤ len → ∃ rs : List (List Value × DataW H), rs.length = k ∧ rs.map (·.2) = (elems.map (·.1)).take k ∧ (∀ r ∈ rs, r.1.length = P.cellsOf e ∧ ∃ ps, DataW.trod enc P W 0 (fun _ => true) true n e r.1 = some (r.2, ps)) ∧
      ∀ i, i < k * P.cellsOf e → hcell W.heap (a.add i) = (rs.map (·.1)).flatten[i]? := by
    intro k
    induction k with
    | zero => intro _; exact ⟨[], rfl, by simp, by simp, by simp⟩
    | succ k ih =>
      intro hk
      obtain ⟨rs, h1, h1', h2, h3⟩ := ih (by omega)
      obtain ⟨r, h4, h5⟩ := each k (by omega)
      obtain ⟨h6, h7⟩ := cells?_at h4
      have hfl : ∀ l : List (List Value), (∀ r ∈ l, r.length = P.cellsOf e) → l.flatten.length = l.length * P.cellsOf e := by
        intro l
        induction l with
        | nil => intro _; simp
        | cons y t ih2 =>
          intro hy
          simp only [List.flatten_cons, List.length_append, List.length_cons, hy y (List.mem_cons_self ..), ih2 fun r hr => hy r (List.mem_cons_of_mem _ hr), Nat.add_mul, Nat.one_mul]
          omega
      have hrs := hfl (rs.map (·.1)) fun r hr => by
        obtain ⟨q, hq, rfl⟩ := List.mem_map.1 hr
        exact (h2 q hq).1
      rw [List.length_map, h1] at hrs
      refine ⟨rs ++ [(r, (elems[k]'(by omega)).1)], by simp [h1], ?_, fun q hq => ?_, fun i hi => ?_⟩
      · rw [List.map_append, h1', List.take_succ_eq_append_getElem (by simp; omega)]
        simp
      · rcases List.mem_append.1 hq with hq | hq
        · exact h2 q hq
        · rw [List.mem_singleton] at hq; subst hq; exact ⟨h6, _, h5⟩
      · rw [List.map_append, List.flatten_append]
        by_cases hlt : i < k * P.cellsOf e
        · rw [List.getElem?_append_left (by omega)]; exact h3 i hlt
        · rw [List.getElem?_append_right (by omega), hrs]
          have hi2 : i - k * P.cellsOf e < P.cellsOf e := by rw [Nat.add_mul] at hi; omega
          have := h7 (i - k * P.cellsOf e) hi2
          have hs : a.spot = none := hs0 (by
            have h8 : 0 < P.cellsOf e := by omega
            exact Nat.mul_pos (by omega) h8)
          rw [add_add hs] at this
          rw [show k * P.cellsOf e + (i - k * P.cellsOf e) = i by omega] at this
          simpa using this
  obtain ⟨rs, h1, h1', h2, h3⟩ := rows len (Nat.le_refl _)
  have hfl : (rs.map (·.1)).flatten.length = len * P.cellsOf e := by
    rw [← h1]
    clear h1 h3 hel hsp h1'
    induction rs with
    | nil => simp
    | cons y t ih2 =>
      simp only [List.map_cons, List.flatten_cons, List.length_append, List.length_cons, (h2 y (List.mem_cons_self ..)).1, ih2 fun r hr => h2 r (List.mem_cons_of_mem _ hr), Nat.add_mul, Nat.one_mul]
      omega
  refine ⟨(some a, len, cap), rs, rfl, h1, hl, ⟨hfl, ⟨fun hv => ?_, fun i hi => h3 i (by omega)⟩⟩, .inr ⟨rest.map (·.1), ?_⟩, n, by omega, fun r hr => h2 r hr⟩
  · have hpos := List.length_pos_iff.2 hv
    exact hs0 (by omega)
  · rw [hx, h1', List.take_of_length_le (by simp; omega)]
def TabOk (B : Nat → Prop) (h : Heap) (s : SV) (fs : List Pr.PF) (D : Nat) (bulk : Nat) : Prop := s.2.1 ≤ s.2.2 ∧ Pr.TRep D B h s.1 s.2.1 fs ∧ (∀ e, Pr.wtD e fs ≤ bulk) ∧ ∀ e, Pr.i64P e fs
theorem wtD_nil : ∀ e, Pr.wtD e [] = 0
  | 0 => rfl
  | e + 1 => rfl
theorem n_field : Go.Program.cellsOf Try.prog 45 = 5 := by kernel_rfl
theorem rd_field {B : Nat → Prop} {m : Nat} {r : List Value} {d : DataW H} {ps : List MemPlace} (ih : ∀ n cs (x : DataW H × List MemPlace), n < m → DataW.trod enc Try.prog W 0 (fun _ => true) true n 26 cs = some x → ∃ s fs D, cs = [SV.v s] ∧ TabOk B W.heap s fs D (Rows.uptoBulk x.1))
    (h : DataW.trod enc Try.prog W 0 (fun _ => true) true m 45 r = some (d, ps)) :
    ∃ (f : Pr.PF) (t : SV) (D : Nat), r = Pr.fcells (f, t) ∧ TabOk B W.heap t f.t D (Rows.uptoBulk d - (1 + f.name.length + f.s.length)) ∧ 1 + f.name.length + f.s.length ≤ Rows.uptoBulk d ∧ -9223372036854775808 ≤ f.n ∧ f.n ≤ 9223372036854775807 := by
  obtain ⟨xs, n, rfl, hx, hl, hxl, hf⟩ := DataW.trod_struct Try.underlying45 h
  rw [n_field] at hl
  have f0 := hf 0 _ rfl
  have f1 := hf 1 _ rfl
  have f2 := hf 2 _ rfl
  have f3 := hf 3 _ rfl
  have f4 := hf 4 _ rfl
  clear hf h
  rw [show Go.Program.cellsOf Try.prog _ = 1 from by kernel_rfl] at f0
  rw [show Go.Program.cellsOf Try.prog _ = 1 from by kernel_rfl] at f1
  rw [show Go.Program.cellsOf Try.prog _ = 1 from by kernel_rfl] at f2
  rw [show Go.Program.cellsOf Try.prog _ = 1 from by kernel_rfl] at f3
  rw [show Go.Program.cellsOf Try.prog _ = 1 from by kernel_rfl] at f4
  have hxl' : xs.length = 5 := hxl
  rcases r with _ | ⟨b0, _ | ⟨b1, _ | ⟨b2, _ | ⟨b3, _ | ⟨b4, _ | ⟨b5, t⟩⟩⟩⟩⟩⟩
  · simp at hl
  · simp at hl
  · simp at hl
  · simp at hl
  · simp at hl
  · rcases xs with _ | ⟨x0, _ | ⟨x1, _ | ⟨x2, _ | ⟨x3, _ | ⟨x4, _ | ⟨x5, t⟩⟩⟩⟩⟩⟩
    · simp at hxl'
    · simp at hxl'
    · simp at hxl'
    · simp at hxl'
    · simp at hxl'
    · have g0 : DataW.trod enc Try.prog W 0 (fun _ => true) true n Pr.T.string [b0] = some x0 := f0
      have g1 : DataW.trod enc Try.prog W 0 (fun _ => true) true n Pr.T.uint8 [b1] = some x1 := f1
      have g2 : DataW.trod enc Try.prog W 0 (fun _ => true) true n Pr.T.int64 [b2] = some x2 := f2
      have g3 : DataW.trod enc Try.prog W 0 (fun _ => true) true n Pr.T.string [b3] = some x3 := f3
      have g4 : DataW.trod enc Try.prog W 0 (fun _ => true) true n 26 [b4] = some x4 := f4
      obtain ⟨s0, e0, y0, _⟩ := DataW.trod_string (by kernel_rfl) g0
      obtain ⟨n1, e1, w1⟩ := rd_int (k := .u8) (by kernel_rfl) (show Go.Lift.Rd enc Try.prog W n Pr.T.uint8 [b1] from ⟨_, g1⟩)
      obtain ⟨n2, e2, w2⟩ := rd_int (k := .i64) (by kernel_rfl) (show Go.Lift.Rd enc Try.prog W n Pr.T.int64 [b2] from ⟨_, g2⟩)
      obtain ⟨s3, e3, y3, _⟩ := DataW.trod_string (by kernel_rfl) g3
      obtain ⟨t, fs, D, e4, k1, k2, k3, k4⟩ := ih n _ _ (by omega) g4
      cases e0; cases e1; cases e2; cases e3; cases e4
      have h1 := wf_u8 w1
      have h2 := wf_i64 w2
      have ek : (((UInt8.ofNat n1.toNat).toNat : Nat) : Int) = n1 := by rw [UInt8.toNat_ofNat']; omega
      have hd : Rows.uptoBulk d = s0.data.toList.length + 1 + (Rows.uptoBulk x1.1 + (Rows.uptoBulk x2.1 + (s3.data.toList.length + 1 + (Rows.uptoBulk x4.1 + 0)))) + 1 := by
        have : d = .agg [x0.1, x1.1, x2.1, x3.1, x4.1] := congrArg Prod.fst hx
        rw [this, y0, y3]
        simp only [Rows.uptoBulk, Rows.uptoBulkAll]
      refine ⟨.mk s0.data.toList (UInt8.ofNat n1.toNat) n2 s3.data.toList fs, t, D, ?_, ⟨k1, k2, fun e => ?_, k4⟩, ?_, h2.1, by show n2 ≤ _; omega⟩
      · show [Value.string s0, Value.int .u8 n1, Value.int .i64 n2, Value.string s3, t.v] = [Value.string s0, Value.int .u8 (((UInt8.ofNat n1.toNat).toNat : Nat) : Int), Value.int .i64 n2, Value.string s3, t.v]
        rw [ek]
      · have := k3 e
        show Pr.wtD e fs ≤ Rows.uptoBulk d - (1 + s0.data.toList.length + s3.data.toList.length)
        omega
      · show 1 + s0.data.toList.length + s3.data.toList.length ≤ _
        omega
    · simp at hxl'
  · simp at hl
theorem rd_table : ∀ (k fuel : Nat) (cs : List Value) (x : DataW H × List MemPlace), fuel < k → DataW.trod enc Try.prog W 0 (fun _ => true) true fuel 26 cs = some x → ∃ s fs D, cs = [SV.v s] ∧ TabOk (fun b => b < W.heap.size) W.heap s fs D (Rows.uptoBulk x.1)
  | 0, _, _, _, h, _ => absurd h (Nat.not_lt_zero _)
  | k + 1, fuel, cs, x, hk, h => by
    obtain ⟨s, rows, e0, h1, h2, h3, h4, m, h5, h6⟩ := rd_sliceX Try.underlying26 h
    have n5 : Go.Program.cellsOf Try.prog 45 = 5 := n_field
    rw [n5] at h3
    have all : ∀ l : List (List Value × DataW H), (∀ r ∈ l, r ∈ rows) → ∃ (fs : List Pr.PF) (ts : List SV) (D : Nat), fs.length = l.length ∧ ts.length = l.length ∧ (l.map (·.1)).flatten = (fs.zip ts).flatMap Pr.fcells ∧
        (∀ (i : Nat) (f : Pr.PF) (t : SV), fs[i]? = some f → ts[i]? = some t → t.2.1 ≤ t.2.2 ∧ Pr.TRep D (fun b => b < W.heap.size) W.heap t.1 t.2.1 f.t) ∧ (∀ e, Pr.wtD e fs ≤ Rows.uptoBulkAll (l.map (·.2))) ∧ ∀ e, Pr.i64P e fs := by
      intro l
      induction l with
      | nil => intro _; exact ⟨[], [], 0, rfl, rfl, rfl, fun i f t e => by simp at e, fun e => by rw [wtD_nil]; exact Nat.zero_le _, fun e => by
        cases e with
        | zero => exact trivial
        | succ e => intro f hf; cases hf⟩
      | cons r l ihl =>
        intro hm
        obtain ⟨fs, ts, D, a1, a2, a3, a4, a5, a6⟩ := ihl fun q hq => hm q (List.mem_cons_of_mem _ hq)
        obtain ⟨c1, ps, c2⟩ := h6 r (hm r (List.mem_cons_self ..))
        obtain ⟨f, t, D1, b1, ⟨b2, b3, b4, b5⟩, b6, b7, b8⟩ := rd_field (B := fun b => b < W.heap.size) (fun n cs x hn hx => rd_table k n cs x (by omega) hx) c2
        refine ⟨f :: fs, t :: ts, D + D1, by simp [a1], by simp [a2], ?_, ?_, ?_, ?_⟩
        · simp only [List.map_cons, List.flatten_cons, List.zip_cons_cons, List.flatMap_cons]
          rw [b1, a3]
        · intro i g u e1 e2
          cases i with
          | zero =>
            simp only [List.getElem?_cons_zero, Option.some.injEq] at e1 e2
            subst e1; subst e2
            rw [Nat.add_comm]
            exact ⟨b2, b3.deep D⟩
          | succ i =>
            simp only [List.getElem?_cons_succ] at e1 e2
            exact ⟨(a4 i g u e1 e2).1, (a4 i g u e1 e2).2.deep D1⟩
        · intro e
          cases e with
          | zero => exact Nat.zero_le _
          | succ e =>
            have x1 := a5 (e + 1)
            have x2 := b4 e
            unfold Pr.wtD at x1 ⊢
            simp only [List.map_cons, List.sum_cons, Rows.uptoBulkAll]
            omega
        · intro e
          cases e with
          | zero => exact trivial
          | succ e =>
            intro g hg
            rcases List.mem_cons.1 hg with rfl | hg
            · exact ⟨b7, b8, b5 e⟩
            · exact a6 (e + 1) g hg
    obtain ⟨fs, ts, D, a1, a2, a3, a4, a5, a6⟩ := all rows fun r hr => hr
    refine ⟨s, fs, D + 1, e0, h2, ⟨by omega, ?_⟩, fun e => ?_, a6⟩
    · rw [a3] at h3
      have h3' := h3.2
      cases hp : s.1 with
      | none =>
        rw [hp] at h3'
        have h3'' : (fs.zip ts).flatMap Pr.fcells = [] := h3'
        have := flat_length Pr.fcells_len (fs.zip ts)
        rw [h3'', List.length_zip] at this
        simp at this
        exact List.eq_nil_of_length_eq_zero (by omega)
      | some a =>
        rw [hp] at h3'
        have h3'' : At W.heap a ((fs.zip ts).flatMap Pr.fcells) := h3'
        refine ⟨fun hne => h3''.lt fun e => ?_, ts, by omega, h3'', a4⟩
        have := flat_length Pr.fcells_len (fs.zip ts)
        rw [e, List.length_zip] at this
        have := List.length_pos_iff.2 hne
        simp at *
        omega
    · have := a5 e
      rcases h4 with rfl | ⟨rest, h4⟩
      · have : fs = [] := List.eq_nil_of_length_eq_zero (by simpa using a1)
        rw [this, wtD_nil]; exact Nat.zero_le _
      · rw [h4]
        simp only [Rows.uptoBulk]
        omega
end
end Go.Proofs.Ytjkiaeccjelklaa.Ar
end
section
set_option linter.unusedVariables false
set_option linter.unusedSimpArgs false
namespace Go.Proofs.Ytjkiaeccjelklaa.Ar
open Go Go.Lift Go.Proofs Go.RowKit
section
variable {H : Type} {enc : TypeId × Value → H} {W : World}
theorem rd_sl1 {P : Program} {fuel : Nat} {t e : TypeId} {cs : List Value} {α : Type} {C : α → Value} {Q : α → Prop} (ht : P.underlying t = some (.slice e)) (hc : P.cellsOf e = 1) (hC : ∀ m cs, Go.Lift.Rd enc P W m e cs → ∃ x, cs = [C x] ∧ Q x)
    (h : Go.Lift.Rd enc P W fuel t cs) : ∃ (s : SV) (xs : List α), cs = [s.v] ∧ Sl 1 W.heap s.1 s.2.1 (xs.map C) ∧ s.2.1 ≤ s.2.2 ∧ ∀ x ∈ xs, Q x := by
  obtain ⟨s, rows, m, e1, h1, h2, h3, h4, h5, h6⟩ := rd_slice ht h
  rw [hc] at h4
  have : ∃ xs : List α, rows.flatten = xs.map C ∧ ∀ x ∈ xs, Q x := by
    clear h1 h4 e1
    induction rows with
    | nil => exact ⟨[], rfl, by simp⟩
    | cons y l ih =>
      obtain ⟨xs, g1, g2⟩ := ih fun r hr => h6 r (List.mem_cons_of_mem _ hr)
      obtain ⟨x, rfl, g3⟩ := hC m y (h6 y (List.mem_cons_self ..)).2
      refine ⟨x :: xs, by simp [g1], fun z hz => ?_⟩
      rcases List.mem_cons.1 hz with rfl | hz
      · exact g3
      · exact g2 z hz
  obtain ⟨xs, g1, g2⟩ := this
  rw [g1] at h4
  exact ⟨s, xs, e1, h4, h2, g2⟩
theorem n_method : Go.Program.cellsOf Try.prog 28 = 6 := by kernel_rfl
theorem rd_method {m : Nat} {r : List Value} {d : DataW H} {ps : List MemPlace} (h : DataW.trod enc Try.prog W 0 (fun _ => true) true m 28 r = some (d, ps)) :
    ∃ (c1 c2 : Int) (y : Pr.MV) (N : List Int) (S : List (List UInt8)) (F : List Bool) (T : List Pr.PF) (D : Nat), r = Pr.mcells c1 c2 y ∧ (-9223372036854775808 ≤ c1 ∧ c1 < 9223372036854775808) ∧ (-9223372036854775808 ≤ c2 ∧ c2 < 9223372036854775808) ∧
      (Sl 1 W.heap y.n.1 y.n.2.1 (N.map fun n => .int .u64 n) ∧ y.n.2.1 ≤ y.n.2.2 ∧ ∀ x ∈ N, (Lit.int .u64 x).wf = true) ∧ (Sl 1 W.heap y.s.1 y.s.2.1 (S.map fun l => .string (mkS l)) ∧ y.s.2.1 ≤ y.s.2.2 ∧ ∀ x ∈ S, x.length ≤ maxLen) ∧
      (Sl 1 W.heap y.f.1 y.f.2.1 (F.map fun b => .bool b) ∧ y.f.2.1 ≤ y.f.2.2 ∧ ∀ x ∈ F, True) ∧ TabOk (fun b => b < W.heap.size) W.heap y.t T D (Rows.uptoBulk d) := by
  obtain ⟨xs, n, rfl, hx, hl, hxl, hf⟩ := DataW.trod_struct Try.underlying28 h
  rw [n_method] at hl
  have f0 := hf 0 _ rfl
  have f1 := hf 1 _ rfl
  have f2 := hf 2 _ rfl
  have f3 := hf 3 _ rfl
  have f4 := hf 4 _ rfl
  have f5 := hf 5 _ rfl
  clear hf h
  rw [show Go.Program.cellsOf Try.prog _ = 1 from by kernel_rfl] at f0
  rw [show Go.Program.cellsOf Try.prog _ = 1 from by kernel_rfl] at f1
  rw [show Go.Program.cellsOf Try.prog _ = 1 from by kernel_rfl] at f2
  rw [show Go.Program.cellsOf Try.prog _ = 1 from by kernel_rfl] at f3
  rw [show Go.Program.cellsOf Try.prog _ = 1 from by kernel_rfl] at f4
  rw [show Go.Program.cellsOf Try.prog _ = 1 from by kernel_rfl] at f5
  have hxl' : xs.length = 6 := hxl
  rcases r with _ | ⟨b0, _ | ⟨b1, _ | ⟨b2, _ | ⟨b3, _ | ⟨b4, _ | ⟨b5, _ | ⟨b6, t⟩⟩⟩⟩⟩⟩⟩
  · simp at hl
  · simp at hl
  · simp at hl
  · simp at hl
  · simp at hl
  · simp at hl
  · rcases xs with _ | ⟨x0, _ | ⟨x1, _ | ⟨x2, _ | ⟨x3, _ | ⟨x4, _ | ⟨x5, _ | ⟨x6, t⟩⟩⟩⟩⟩⟩⟩
    · simp at hxl'
    · simp at hxl'
    · simp at hxl'
    · simp at hxl'
    · simp at hxl'
    · simp at hxl'
    · have g0 : DataW.trod enc Try.prog W 0 (fun _ => true) true n Pr.T.int [b0] = some x0 := f0
      have g1 : DataW.trod enc Try.prog W 0 (fun _ => true) true n Pr.T.int [b1] = some x1 := f1
      have g2 : DataW.trod enc Try.prog W 0 (fun _ => true) true n Pr.T.sl_uint64 [b2] = some x2 := f2
      have g3 : DataW.trod enc Try.prog W 0 (fun _ => true) true n Pr.T.sl_string [b3] = some x3 := f3
      have g4 : DataW.trod enc Try.prog W 0 (fun _ => true) true n Pr.T.sl_bool [b4] = some x4 := f4
      have g5 : DataW.trod enc Try.prog W 0 (fun _ => true) true n 26 [b5] = some x5 := f5
      obtain ⟨n0, e0, w0⟩ := rd_int (k := .i64) (by kernel_rfl) (show Go.Lift.Rd enc Try.prog W n Pr.T.int [b0] from ⟨_, g0⟩)
      obtain ⟨n1, e1, w1⟩ := rd_int (k := .i64) (by kernel_rfl) (show Go.Lift.Rd enc Try.prog W n Pr.T.int [b1] from ⟨_, g1⟩)
      obtain ⟨s2, N, e2, k2⟩ := rd_sl1 (e := Pr.T.uint64) (C := fun n : Int => Value.int .u64 n) (Q := fun n => (Lit.int .u64 n).wf = true) (by kernel_rfl) (by kernel_rfl) (fun m cs h => rd_int (by kernel_rfl) h) (show Go.Lift.Rd enc Try.prog W n Pr.T.sl_uint64 [b2] from ⟨_, g2⟩)
      obtain ⟨s3, S, e3, k3⟩ := rd_sl1 (e := Pr.T.string) (C := fun l : List UInt8 => Value.string (mkS l)) (Q := fun l => l.length ≤ maxLen) (by kernel_rfl) (by kernel_rfl) (fun m cs h => rd_str (by kernel_rfl) h) (show Go.Lift.Rd enc Try.prog W n Pr.T.sl_string [b3] from ⟨_, g3⟩)
      obtain ⟨s4, F, e4, k4⟩ := rd_sl1 (e := Pr.T.bool) (C := fun b : Bool => Value.bool b) (Q := fun _ => True) (by kernel_rfl) (by kernel_rfl) (fun m cs h => by obtain ⟨b, e⟩ := rd_bool (by kernel_rfl) h; exact ⟨b, e, trivial⟩) (show Go.Lift.Rd enc Try.prog W n Pr.T.sl_bool [b4] from ⟨_, g4⟩)
      obtain ⟨t, fs, D, e5, t1, t2, t3, t4⟩ := rd_table (n + 1) n _ _ (by omega) g5
      have hd : Rows.uptoBulk x5.1 ≤ Rows.uptoBulk d := by
        have : d = .agg [x0.1, x1.1, x2.1, x3.1, x4.1, x5.1] := congrArg Prod.fst hx
        rw [this]
        simp only [Rows.uptoBulk, Rows.uptoBulkAll]
        omega
      cases e0; cases e1; cases e2; cases e3; cases e4; cases e5
      exact ⟨n0, n1, ⟨s2, s3, s4, t⟩, N, S, F, fs, D, rfl, wf_i64 w0, wf_i64 w1, k2, k3, k4, t1, t2, fun e => Nat.le_trans (t3 e) hd, t4⟩
    · simp at hxl'
  · simp at hl
end
end Go.Proofs.Ytjkiaeccjelklaa.Ar
end
