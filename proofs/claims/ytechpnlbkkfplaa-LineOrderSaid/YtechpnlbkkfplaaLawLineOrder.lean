/- LineOrder: what was put is taken rising, each once; what is given back stands in its old place, marked. -/
import Derived.Test.YtechpnlbkkfplaaAwake17
import Derived.Test.YtechpnlbkkfplaaLineW
import Derived.Test.YtechpnlbkkfplaaPrLaw17Lineorder
import Derived.Test.YtechpnlbkkfplaaBitsP
import Derived.Test.YtechpnlbkkfplaaLiftArg
set_option linter.unusedVariables false
set_option linter.unusedSimpArgs false
namespace Go.Proofs.Ytechpnlbkkfplaa.Pr
open Go Go.Lift Go.Proofs

/-- What stands ready was put: by its own number, not marked. -/
structure Fresh (R : List (Int × (Int × Bool))) : Prop where
  nd : (R.map Prod.fst).Nodup
  all : ∀ x ∈ R, x.2 = (x.1, false) ∧ 0 < x.1 ∧ x.1 < 18446744073709551616

theorem Fresh.put {R : List (Int × (Int × Bool))} (f : Fresh R) {id : Int} (h0 : (get? R id).isSome = false) (h1 : id ≠ 0) (h2 : 0 ≤ id ∧ id < 18446744073709551616) : Fresh (upd R id (id, false)) ∧ (upd R id (id, false)).length = R.length + 1 := by
  have hn : id ∉ R.map Prod.fst := get?_none.1 (by cases h : get? R id <;> simp_all)
  rw [upd_none hn]
  refine ⟨⟨?_, fun x hx => ?_⟩, by simp⟩
  · rw [List.map_append, List.nodup_append]
    exact ⟨f.nd, by simp, fun a ha b hb => by simp at hb; subst hb; exact fun e => hn (e ▸ ha)⟩
  · rcases List.mem_append.1 hx with hx | hx
    · exact f.all x hx
    · simp at hx; subst hx; exact ⟨rfl, by omega, h2.2⟩

theorem Fresh.take {R : List (Int × (Int × Bool))} (f : Fresh R) {k : Int} {v : Int × Bool} (hm : (k, v) ∈ R) : Fresh (del R k) ∧ (del R k).length + 1 = R.length ∧ ∀ x ∈ del R k, x.1 ≠ k := by
  have hk : k ∈ R.map Prod.fst := List.mem_map.2 ⟨_, hm, rfl⟩
  refine ⟨⟨del_keys f.nd, fun x hx => f.all x (del_mem hx)⟩, del_len hk, fun x hx e => ?_⟩
  have h1 := get?_del R k k f.nd
  rw [if_pos rfl] at h1
  exact get?_none.1 h1 (List.mem_map.2 ⟨x, hx, e⟩)

section
variable {K : KT} {L : List Asr} {l : Addr} {mr mh : Nat} {s t : SV} {ids : List Int}

theorem lo_put [In (Im 1 s) L (ids.map kkU)] (hs : s.2.1 = ids.length) (hw : ∀ x ∈ ids, 0 ≤ x ∧ x < 18446744073709551616)
    (hK : ∀ h' R, Fresh R → R.length ≤ 60 → St (LnA l mr mh R [] L) h' → waybilllaw17_LineOrder.j2 K t.1 t.2.1 t.2.2 (some l) (R.length : Nat) h') :
    ∀ (fuel i : Nat) (R : List (Int × (Int × Bool))) (h : Heap), ids.length - i < fuel → i ≤ ids.length → R.length ≤ i → i ≤ 60 → Fresh R → St (LnA l mr mh R [] L) h → waybilllaw17_LineOrder.L14 K fuel s.1 s.2.1 s.2.2 t.1 t.2.1 t.2.2 (some l) (R.length : Nat) i h
  | 0, _, _, _, hf, _, _, _, _, _ => absurd hf (Nat.not_lt_zero _)
  | fuel + 1, i, R, h, hf, hi, hR, h60, f, S => by
    unfold waybilllaw17_LineOrder.L14
    by_cases hlt : i < ids.length
    · refine ifT (by simp [hs]; omega) ?_
      unfold waybilllaw17_LineOrder.j15
      by_cases h6 : i < 60
      · refine ifT (by simp; omega) (ixV (n := i) (w := .int .u64 ids[i]) (S.isl 1 s) rfl (by simp [hlt]) fun p ep cp => ⟨ids[i], cp, ?_⟩)
        have hb := hw ids[i] (List.getElem_mem hlt)
        have w1 : IntKind.i64.wrap ((i : Int) + 1) = ((i + 1 : Nat) : Int) := by rw [wrapI (by omega) (by omega)]; omega
        refine putLineS S (fun _ h1 S1 => ⟨_, rfl, ifF rfl ?_⟩) fun a1 a2 _ h1 S1 => ⟨_, rfl, ifT rfl ?_⟩
        · unfold waybilllaw17_LineOrder.j16
          simp only [bd]
          rw [w1]
          exact lo_put hs hw hK fuel (i + 1) R h1 (by omega) (by omega) (by omega) (by omega) f S1
        · obtain ⟨f2, e2⟩ := f.put a1 a2 hb
          unfold waybilllaw17_LineOrder.j16
          simp only [bd]
          rw [w1, show IntKind.i64.wrap (((R.length : Nat) : Int) + 1) = (((upd R ids[i] (ids[i], false)).length : Nat) : Int) by rw [e2, wrapI (by omega) (by omega)]; omega]
          exact lo_put hs hw hK fuel (i + 1) _ h1 (by omega) (by omega) (by omega) (by omega) f2 S1
      · exact ifF (by simp; omega) (hK h R f (by omega) S)
    · refine ifF (by simp [hs]; omega) ?_
      unfold waybilllaw17_LineOrder.j15
      exact ifF rfl (hK h R f (by omega) S)

/-- What has been taken: rising, below all that is left; and so it is held. -/
structure Took (R : List (Int × (Int × Bool))) (got : List Int) : Prop where
  f : Fresh R
  up : got.Pairwise (· < ·)
  below : ∀ g ∈ got, ∀ x ∈ R, g < x.1
  wf : ∀ g ∈ got, 0 < g ∧ g < 18446744073709551616
abbrev hOf (got : List Int) : List (Int × Int) := got.map fun g => (g, 1)

theorem Took.take {R : List (Int × (Int × Bool))} {got : List Int} (t : Took R got) {k i : Int} {b : Bool} (hm : (k, (i, b)) ∈ R) (hle : ∀ x ∈ R, k ≤ x.1) :
    i = k ∧ b = false ∧ Took (del R k) (got ++ [k]) ∧ upd (hOf got) k 1 = hOf (got ++ [k]) ∧ (del R k).length + 1 = R.length := by
  obtain ⟨f1, f2, f3⟩ := t.f.take hm
  obtain ⟨e1, e2, e3⟩ := t.f.all _ hm
  have hn : k ∉ (hOf got).map Prod.fst := fun h => by
    simp only [List.map_map, List.mem_map, Function.comp] at h
    obtain ⟨g, hg, rfl⟩ := h
    have := t.below g hg _ hm
    simp at this
  refine ⟨by simpa using congrArg Prod.fst e1, by simpa using congrArg Prod.snd e1, ⟨f1, ?_, fun g hg x hx => ?_, fun g hg => ?_⟩, by rw [upd_none hn]; simp, f2⟩
  · rw [List.pairwise_append]
    exact ⟨t.up, by simp, fun a ha c hc => by simp at hc; subst hc; exact t.below a ha _ hm⟩
  · have hx' := del_mem hx
    rcases List.mem_append.1 hg with hg | hg
    · exact t.below g hg x hx'
    · simp at hg; subst hg
      have h1 := hle x hx'
      have h2 := f3 x hx
      omega
  · rcases List.mem_append.1 hg with hg | hg
    · exact t.wf g hg
    · simp at hg; subst hg; exact ⟨e2, e3⟩

theorem sl_u64 : SlT P T.sl_uint64 T.uint64 1 8 [.int .u64 0] := slT (by kernel_rfl) (by kernel_rfl)
theorem u_slu : P.underlying T.sl_uint64 = some (.slice T.uint64) := by kernel_rfl

theorem lo_take {n : Nat} (hn : n ≤ 60) (hK : ∀ h' o got, got.length = n → Took [] got → St (LnA l mr mh [] (hOf got) (Ow 1 o (got.map kkU) :: L)) h' → waybilllaw17_LineOrder.j3 K t.1 t.2.1 t.2.2 (some l) n o.1 o.2.1 o.2.2 h') :
    ∀ (fuel : Nat) (R : List (Int × (Int × Bool))) (got : List Int) (o : SV) (h : Heap), R.length < fuel → got.length + R.length = n → Took R got → St (LnA l mr mh R (hOf got) (Ow 1 o (got.map kkU) :: L)) h → waybilllaw17_LineOrder.L12 K fuel t.1 t.2.1 t.2.2 (some l) n o.1 o.2.1 o.2.2 (got.length : Nat) h
  | 0, _, _, _, _, hf, _, _, _ => absurd hf (Nat.not_lt_zero _)
  | fuel + 1, R, got, o, h, hf, hl, tk, S => by
    unfold waybilllaw17_LineOrder.L12
    by_cases hlt : got.length < n
    · refine ifT (by simp; omega) (takeLineS S (fun x hx => (tk.f.all x hx).2.1) (fun e => by subst e; simp at hl; omega) fun k i b hm hle h1 S1 => ?_)
      obtain ⟨rfl, rfl, tk2, e2, e3⟩ := tk.take hm hle
      rw [e2] at S1
      refine ⟨[.int .u64 i, .bool false], true, rfl, rfl, ?_⟩
      have S2 := S1.al [.int .u64 0, .bool false] T.api_Entry
      refine S2.wrA (ws := [.int .u64 i, .bool false]) rfl (by simp [one]) fun h3 S3 => ?_
      refine ifF' rfl ⟨false, S3.c 1 rfl, ifF' rfl ?_⟩
      have j13 : waybilllaw17_LineOrder.j13 K (waybilllaw17_LineOrder.L12 K fuel) t.1 t.2.1 t.2.2 (some l) n o.1 o.2.1 o.2.2 (got.length : Nat) (top h1) false h3 := by
        unfold waybilllaw17_LineOrder.j13
        refine ifF rfl ⟨i, S3.c 0 rfl, ?_⟩
        simp only [bd]
        have S4 := S3.al [.int .u64 i] T.uint64
        have sa : Sl 1 (al h3 [Value.int .u64 i].toArray T.uint64) (some (top h3)) 1 [.int .u64 i] := ⟨rfl, S4.mem.1⟩
        have ho : o.2.1 = got.length := by have h9 := S4.p5.ow.1; rw [List.length_map] at h9; omega
        refine S4.p5.app sl_u64 rfl u_slu (fun k e => by cases e) (Src.slice (n := 1) (c := 1) sa (by simp [one])) (by omega) (by omega) fun p' c' h' S' => ⟨_, _, _, rfl, ?_⟩
        have S5 : St (LnA l mr mh (del R i) (hOf (got ++ [i])) (Ow 1 (p', o.2.1 + 1, c') ((got ++ [i]).map kkU) :: L)) h' := by
          rw [List.map_append]
          exact S'.d1.d1.p3.p3.p3
        rw [show IntKind.i64.wrap ((got.length : Int) + 1) = (((got ++ [i]).length : Nat) : Int) by rw [wrapI (by omega) (by omega), List.length_append]; rfl]
        exact lo_take hn hK fuel (del R i) (got ++ [i]) (p', o.2.1 + 1, c') h' (by omega) (by simp; omega) tk2 S5
      by_cases h0 : 0 < got.length
      · have ho : o.2.1 = got.length := by have h9 := S3.p4.ow.1; rw [List.length_map] at h9; omega
        refine ifT (by simp; omega) ?_
        rw [sort_uint64.wm1 (n := 60) (k := got.length) (by omega) (by omega) (by omega)]
        refine ixV (n := got.length - 1) (w := .int .u64 (got[got.length - 1]'(by omega))) S3.p4.sl rfl (by simp) fun p ep cp => ⟨_, cp, _, S3.c 0 rfl, ?_⟩
        have hb := tk.below (got[got.length - 1]'(by omega)) (List.getElem_mem _) _ hm
        rw [show decide (got[got.length - 1]'(by omega) ≥ i) = false by simp; omega]
        exact j13
      · exact ifF (decide_eq_false (by omega)) j13
    · refine ifF (by simp; omega) ?_
      have : R = [] := List.eq_nil_of_length_eq_zero (by omega)
      subst this
      exact hK h o got (by simpa using hl) tk S

/-! ### Given back, and taken again -/

theorem rw_const {ν : Type} (got : List Int) (c : ν) : (got.map fun g => (g, c)) = rw' got.length (fun j => got.getD j 0) fun _ => c := by
  conv => lhs; rw [← rowF_of got 0]
  unfold rw' rowF
  rw [List.map_map]; rfl
theorem get?_const {ν : Type} (c : ν) : ∀ (got : List Int) (k : Int), get? (got.map fun g => (g, c)) k = if k ∈ got then some c else none := by
  intro got k
  cases h : get? (got.map fun g => (g, c)) k with
  | none =>
    have := get?_none.1 h
    rw [List.map_map] at this
    rw [if_neg fun hm => this (List.mem_map.2 ⟨k, hm, rfl⟩)]
  | some v =>
    have := get?_mem h
    obtain ⟨g, hg, e⟩ := List.mem_map.1 this
    cases e
    rw [if_pos hg]
theorem Took.rel {got : List Int} (t : Took [] got) : LRel (got.map fun g => (g, (false, true))) [] (hOf got) := by
  have u : Up (got.map fun g => (g, (false, true))) := by rw [Up, List.pairwise_map]; exact t.up
  refine ⟨u, fun x hx => ?_, by simp, ?_, fun k => ?_, fun k => ?_⟩
  · obtain ⟨g, hg, rfl⟩ := List.mem_map.1 hx
    exact t.wf g hg
  · have := u.nodup
    rw [List.map_map] at this ⊢
    exact this
  · rw [get?_const]
    split <;> rfl
  · rw [get?_const, get?_const]
    split <;> rfl
theorem Took.mono {R : List (Int × (Int × Bool))} {got : List Int} (t : Took R got) : Mono got.length fun j => got.getD j 0 := by
  intro i j hij hj
  have := List.pairwise_iff_getElem.1 t.up i j (by omega) hj hij
  simpa [List.getD, hj, show i < got.length by omega] using this

abbrev wasA (n : Nat) (w : Nat → Bool) : List Value := rowF n fun j => .bool (w j)

theorem lo_j5 {n : Nat} {W : LRow} {h : Heap} (hW : ∀ x ∈ W, x.2.2 = true) (hl : W.length = n) (hn : n ≤ 60) (S : St (LnW l W :: L) h) (hK : ∀ h', St L h' → K (.bool true) h') : waybilllaw17_LineOrder.j5 K (some l) n h := by
  unfold waybilllaw17_LineOrder.j5
  refine takeLineW S (fun _ h1 S1 => ⟨[.int .u64 0, .bool false], false, rfl, rfl, ?_⟩) fun k a hm _ => by have := hW _ hm; cases this
  have S2 := S1.al [.int .u64 0, .bool false] T.api_Entry
  refine S2.wrA (ws := [.int .u64 0, .bool false]) rfl (by simp [one]) fun h3 S3 => ?_
  refine ifT rfl (heldLineW S3.tl (by omega) fun h4 s S4 => ⟨_, _, _, rfl, ?_⟩)
  have e : s.2.1 = n := by
    have := S4.ow.1
    rw [List.length_map, List.length_map, List.filter_eq_self.2 (fun x hx => hW x hx), hl] at this
    omega
  rw [show (((s.2.1 : Nat) : Int) == (n : Int)) = true by simp [e]]
  exact hK h4 S4.tl.tl

variable {n : Nat} {g : Nat → Int} {o q : SV} {w : Nat → Bool}
abbrev finW (n : Nat) (g : Nat → Int) (w : Nat → Bool) (k : Nat) : LRow := rw' n g fun j => (w j, if j < k then true else !w j)

theorem lo_fin (hm : Mono n g) (hn : n ≤ 60) (hK : ∀ h', St L h' → K (.bool true) h') : ∀ (fuel k : Nat) (h : Heap), n - k < fuel → k ≤ n → St (LnW l (finW n g w k) :: Ow 1 o (rowF n fun j => kkU (g j)) :: Ow 1 q (wasA n w) :: L) h →
    waybilllaw17_LineOrder.L6 K fuel (some l) n o.1 o.2.1 o.2.2 q.1 q.2.1 q.2.2 k h
  | 0, _, _, hf, _, _ => absurd hf (Nat.not_lt_zero _)
  | fuel + 1, k, h, hf, hk, S => by
    unfold waybilllaw17_LineOrder.L6
    by_cases hlt : k < n
    · have j7 : ∀ h', St (LnW l (finW n g w (k + 1)) :: Ow 1 o (rowF n fun j => kkU (g j)) :: Ow 1 q (wasA n w) :: L) h' → waybilllaw17_LineOrder.j7 K (waybilllaw17_LineOrder.L6 K fuel) (some l) n o.1 o.2.1 o.2.2 q.1 q.2.1 q.2.2 k h' := fun h' S' => by
        unfold waybilllaw17_LineOrder.j7
        simp only [bd]
        rw [show IntKind.i64.wrap ((k : Int) + 1) = ((k + 1 : Nat) : Int) by rw [wrapI (by omega) (by omega)]; omega]
        exact lo_fin hm hn hK fuel (k + 1) h' (by omega) (by omega) S'
      refine ifT (by simp; omega) (ixV (n := k) (w := .bool (w k)) S.p2.sl rfl (rowF_get _ hlt) fun p ep cp => ⟨w k, cp, ?_⟩)
      cases hw : w k with
      | false =>
        refine ifT rfl (j7 h ?_)
        rw [show finW n g w (k + 1) = finW n g w k from rw_congr fun j hj => by
          by_cases e : j = k
          · subst e; simp [hw]
          · have : j < k + 1 ↔ j < k := by omega
            simp [this]]
        exact S
      | true =>
        refine ifF rfl (takeLineW S (fun hall => ?_) fun k' a hmem hle h1 S1 => ?_)
        · have := hall _ (rw_mem.2 ⟨k, hlt, rfl⟩)
          simp [hw] at this
        · obtain ⟨j, hj, e⟩ := rw_mem.1 hmem
          simp only [Prod.mk.injEq] at e
          obtain ⟨e1, e2, e3⟩ := e
          have hjk : j = k := by
            rcases Nat.lt_trichotomy j k with hlt2 | heq | hgt
            · rw [if_pos hlt2] at e3; cases e3
            · exact heq
            · have h3 := hle _ (rw_mem.2 ⟨k, hlt, rfl⟩) (by rw [e1]; exact hm k j hgt hj)
              simp [hw] at h3
          subst hjk
          subst e1
          rw [hw] at e2
          subst e2
          rw [hm.upd _ hj] at S1
          refine ⟨[.int .u64 (g j), .bool true], true, rfl, rfl, ?_⟩
          have S2 := S1.al [.int .u64 0, .bool false] T.api_Entry
          refine S2.wrA (ws := [.int .u64 (g j), .bool true]) rfl (by simp [one]) fun h3 S3 => ?_
          refine ifF' rfl (ixV (n := j) (w := .int .u64 (g j)) S3.p2.sl rfl (rowF_get _ hj) fun p2 ep2 cp2 => ⟨_, cp2, ?_⟩)
          refine S3.rdA (n := 2) rfl ?_
          refine entNeqS (a := (g j, true)) (b := (g j, true)) _ _ ⟨_, rfl, ?_⟩
          unfold waybilllaw17_LineOrder.j8
          refine ifF (by simp) (j7 h3 ?_)
          rw [show finW n g w (j + 1) = rw' n g (fun i => if i = j then (true, true) else (w i, if i < j then true else !w i)) from rw_congr fun i hi => by
            by_cases e : i = j
            · subst e; simp [hw]
            · have : i < j + 1 ↔ i < j := by omega
              simp [this, e]]
          exact S3.tl
    · have : k = n := by omega
      subst this
      refine ifF (by simp) (lo_j5 (fun x hx => ?_) (rw_len ..) hn S fun h' S' => hK h' S'.tl.tl)
      obtain ⟨j, hj, rfl⟩ := rw_mem.1 hx
      simp [hj]

abbrev backW (n : Nat) (g : Nat → Int) (w : Nat → Bool) : LRow := rw' n g fun j => (w j, !w j)
theorem tmod_lt {a : Int} {n : Nat} (ha : 0 ≤ a) (hn : 0 < n) : ∃ j : Nat, j < n ∧ Int.tmod a n = j := by
  refine ⟨(Int.tmod a n).toNat, ?_, ?_⟩
  · have h1 := Int.tmod_lt_of_pos a (show (0 : Int) < n by omega)
    have h2 := Int.tmod_nonneg (n : Int) ha
    omega
  · have h2 := Int.tmod_nonneg (n : Int) ha
    omega

theorem lo_back {xs : List Int} [In (Im 1 t) L (xs.map fun n => .int .i64 n)] (ht : t.2.1 = xs.length) (hm : Mono n g) (hn : n ≤ 60) (hK : ∀ h', St L h' → K (.bool true) h') :
    ∀ (fuel i : Nat) (w : Nat → Bool) (h : Heap), xs.length - i < fuel → i ≤ xs.length → St (LnW l (backW n g w) :: Ow 1 o (rowF n fun j => kkU (g j)) :: Ow 1 q (wasA n w) :: L) h →
    waybilllaw17_LineOrder.L9 K fuel t.1 t.2.1 t.2.2 (some l) n o.1 o.2.1 o.2.2 q.1 q.2.1 q.2.2 i h
  | 0, _, _, _, hf, _, _ => absurd hf (Nat.not_lt_zero _)
  | fuel + 1, i, w, h, hf, hi, S => by
    unfold waybilllaw17_LineOrder.L9
    have j4 : waybilllaw17_LineOrder.j4 K (some l) n o.1 o.2.1 o.2.2 q.1 q.2.1 q.2.2 h := by
      unfold waybilllaw17_LineOrder.j4
      refine ⟨n + 1, lo_fin (w := w) hm hn hK _ 0 h (by omega) (by omega) ?_⟩
      rw [show finW n g w 0 = backW n g w from rw_congr fun j hj => by simp]
      exact S
    have jF : waybilllaw17_LineOrder.j10 K (waybilllaw17_LineOrder.L9 K fuel) t.1 t.2.1 t.2.2 (some l) n o.1 o.2.1 o.2.2 q.1 q.2.1 q.2.2 i false h := by
      unfold waybilllaw17_LineOrder.j10
      exact ifF rfl j4
    by_cases hlt : i < xs.length
    · refine ifT (by simp [ht]; omega) ?_
      by_cases h0 : 0 < n
      · refine ifT (by simp; omega) ?_
        by_cases h30 : i < 30
        · rw [show decide ((i : Int) < 30) = true by simp; omega]
          unfold waybilllaw17_LineOrder.j10
          refine ifT rfl (ixV (n := i) (w := .int .i64 xs[i]) (S.isl 1 t) rfl (by simp [hlt]) fun p ep cp => ⟨xs[i], cp, by omega, ?_⟩)
          obtain ⟨j, hj, ej⟩ := tmod_lt (a := bitsI .and .i64 xs[i] 255) (n := n) (by rw [m255]; omega) h0
          rw [ej]
          simp only [bd]
          have hg : get? (backW n g w) (g j) = some (w j, !w j) := hm.get _ hj
          refine ixV (n := j) (w := .int .u64 (g j)) S.p1.sl rfl (rowF_get _ hj) fun p2 ep2 cp2 => ?_
          refine ixV (n := j) (w := .bool (w j)) S.p2.sl rfl (rowF_get _ hj) fun p3 ep3 cp3 => ⟨g j, cp2, ?_⟩
          have j11 : ∀ (b : Bool) (h1 : Heap), b = !w j → St (LnW l (backW n g fun i => if i = j then true else w i) :: Ow 1 o (rowF n fun j => kkU (g j)) :: Ow 1 q (wasA n w) :: L) h1 →
              waybilllaw17_LineOrder.j11 K (waybilllaw17_LineOrder.L9 K fuel) t.1 t.2.1 t.2.2 (some l) n o.1 o.2.1 o.2.2 q.1 q.2.1 q.2.2 i j (b == w j) h1 := fun b h1 eb S1 => by
            unfold waybilllaw17_LineOrder.j11
            refine ifF (by subst eb; cases w j <;> rfl) (St.owSet (n := j) S1.p2 rfl (by rw [rowF_len]; exact hj) rfl fun h2 S2 => ?_)
            simp only [bd]
            rw [show IntKind.i64.wrap ((i : Int) + 1) = ((i + 1 : Nat) : Int) by rw [wrapI (by omega) (by omega)]; omega]
            rw [rowF_set _ hj] at S2
            refine lo_back ht hm hn hK fuel (i + 1) (fun i => if i = j then true else w i) h2 (by omega) (by omega) ?_
            rw [show (wasA n fun i => if i = j then true else w i) = rowF n (fun i => if i = j then Value.bool true else Value.bool (w i)) from rowF_congr fun i hi => by by_cases e : i = j <;> simp [e]]
            exact S2.p2.p2
          have same : w j = true → (backW n g fun i => if i = j then true else w i) = backW n g w := fun hw => rw_congr fun i hi => by
            by_cases e : i = j
            · subst e; simp [hw]
            · simp [e]
          have other : w j = false → (backW n g fun i => if i = j then true else w i) = upd (backW n g w) (g j) (true, false) := fun hw => by
            rw [hm.upd _ hj]
            exact rw_congr fun i hi => by
              by_cases e : i = j
              · subst e; simp
              · simp [e]
          have back : ∀ (Q : Bool → Heap → Prop), (∀ b h1, b = (!w j) → St (LnW l (backW n g fun i => if i = j then true else w i) :: Ow 1 o (rowF n fun j => kkU (g j)) :: Ow 1 q (wasA n w) :: L) h1 → Q b h1) → CallsH P F.line_Line_Back [.pointer (some l), .int .u64 (g j)] (fun v h1 => ∃ b, v = .bool b ∧ Q b h1) h := fun Q hQ => by
            refine backLineW S (fun hno h1 S1 => ⟨false, rfl, ?_⟩) fun a ha h1 S1 => ⟨true, rfl, ?_⟩
            · have hw : w j = true := by
                cases hw : w j with
                | true => rfl
                | false => exact absurd (rw_mem.2 ⟨j, hj, by rw [hw]; rfl⟩) (hno false)
              exact hQ false h1 (by rw [hw]; rfl) (by rw [same hw]; exact S1)
            · have hw : w j = false := by
                have := (get?_iff (hm.up _).nodup).2 ha
                rw [hg] at this
                cases hw : w j with
                | false => rfl
                | true => rw [hw] at this; simp at this
              exact hQ true h1 (by rw [hw]; rfl) (by rw [other hw]; exact S1)
          with_reducible refine And.intro ?_ ?_
          · refine back _ fun b h1 eb S1 => ?_
            refine ⟨w j, ?_, j11 b h1 eb S1⟩
            have m2 := S1.p2.sl.2
            rw [ep3] at m2
            have := m2.get (i := j) (v := .bool (w j)) (rowF_get _ hj)
            simpa using this
          · refine ⟨w j, cp3, back _ fun b h1 eb S1 => j11 b h1 eb S1⟩
        · rw [show decide ((i : Int) < 30) = false by simp; omega]
          exact jF
      · exact ifF (by simp; omega) jF
    · exact ifF (by simp [ht]; omega) jF

theorem row_of_got (got : List Int) : got.map kkU = rowF got.length (fun j => kkU (got.getD j 0)) := by
  conv => lhs; rw [← rowF_of got 0]
  unfold rowF
  rw [List.map_map]; rfl
theorem sl_bool : SlT P T.sl_bool T.bool 1 1 [.bool false] := slT (by kernel_rfl) (by kernel_rfl)
theorem LineOrder.law {h : Heap} (s : SV) (xs : List Int) (sl : Sl 1 h s.1 s.2.1 (xs.map fun n => .int .u64 n)) (le : s.2.1 ≤ s.2.2) (mx : s.2.2 ≤ maxLen) (wx : ∀ x ∈ xs, (Lit.int .u64 x).wf = true)
    (t : SV) (ys : List Int) (tl : Sl 1 h t.1 t.2.1 (ys.map fun n => .int .i64 n)) (te : t.2.1 ≤ t.2.2) (my : t.2.2 ≤ maxLen) (wy : ∀ y ∈ ys, (Lit.int .i64 y).wf = true) :
    CallsH P F.waybilllaw17_LineOrder [s.v, t.v] (fun v h' => v = .bool true ∧ Kept h h') h := by
  refine waybilllaw17_LineOrder.ok ?_
  unfold waybilllaw17_LineOrder.p0
  have fin : ∀ h1, St [Old h] h1 → (Value.bool true = .bool true ∧ Kept h h1) := fun h1 S => ⟨rfl, S.keptOld (List.mem_cons_self ..)⟩
  have ls : s.2.1 = xs.length := by have := sl.1; simpa using this.symm
  have lt : t.2.1 = ys.length := by have := tl.1; simpa using this.symm
  have S0 : St (Im 1 s (xs.map kkU) :: Im 1 t (ys.map fun n => .int .i64 n) :: [Old h]) h := ((St.old h).imOld (List.mem_cons_self ..) tl te).imOld (List.mem_cons_of_mem _ (List.mem_cons_self ..)) sl le
  refine newLineS S0 fun h1 l mr mh S1 => ⟨_, rfl, ifF' rfl (awake17S S1 fun h2 S2 => ⟨_, rfl, ?_⟩)⟩
  unfold waybilllaw17_LineOrder.j1
  refine ifF rfl ⟨xs.length + 1, lo_put (K := _) ls (fun x hx => wf_u64 (wx x hx)) (fun h3 R f hR S3 => ?_) _ 0 [] h2 (by omega) (by omega) (by simp) (by omega) ⟨by simp, by simp⟩ S2⟩
  unfold waybilllaw17_LineOrder.j2
  refine ⟨R.length + 1, lo_take (L := Im 1 s (xs.map kkU) :: Im 1 t (ys.map fun n => .int .i64 n) :: [Old h]) (mr := mr) (mh := mh) (n := R.length) hR (fun h4 o got hl tk S4 => ?_) _ R [] (none, 0, 0) h3 (by omega) (by simp) ⟨f, List.Pairwise.nil, by simp, by simp⟩ ?_⟩
  · unfold waybilllaw17_LineOrder.j3
    have S5 := LnW.inn tk.rel S4
    rw [rw_const] at S5
    rw [row_of_got] at S5
    rw [← hl]
    refine takeLineW S5 (fun _ h5 S6 => ⟨[.int .u64 0, .bool false], false, rfl, rfl, ?_⟩) fun k a hm _ => by
      obtain ⟨j, hj, e⟩ := rw_mem.1 hm
      cases e
    have S7 := S6.al [.int .u64 0, .bool false] T.api_Entry
    refine S7.wrA (ws := [.int .u64 0, .bool false]) rfl (by simp [one]) fun h6 S8 => ?_
    refine ifF rfl (S8.tl.make1 sl_bool (n := (got.length : Nat)) rfl (by omega) (by omega) fun h7 S9 => ⟨_, _, _, rfl, ys.length + 1, ?_⟩)
    rw [← rowF_const] at S9
    exact lo_back (t := t) (o := o) (q := (some (top h6), got.length, got.length)) (w := fun _ => false) lt tk.mono (by omega) (fun h' S' => fin h' S'.tl.tl) _ 0 h7 (by omega) (by omega) (S9.p2.p2)
  · exact (S3.owNil 1).p3.p3.p3
end
end Go.Proofs.Ytechpnlbkkfplaa.Pr
