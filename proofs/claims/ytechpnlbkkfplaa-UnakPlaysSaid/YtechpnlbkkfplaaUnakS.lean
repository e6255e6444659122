/- unak: what its functions do, as one rising row of tags. -/
import Derived.Test.YtechpnlbkkfplaaLineW
import Derived.Test.YtechpnlbkkfplaaPrUnak
set_option linter.unusedVariables false
set_option linter.unusedSimpArgs false
namespace Go.Proofs.Ytechpnlbkkfplaa.Pr
open Go Go.Lift Go.Proofs

/-- A hold: its queue, its number. -/
abbrev Hld := List UInt8 × Int
abbrev hdc (x : Hld) : List Value := [.string (mkS x.1), .int .u64 x.2]
abbrev vvH : Hld → Value := fun x => .agg #[.string (mkS x.1), .int .u64 x.2]
theorem umH : P.underlying T.map_uint64_api_Hold = some (.map T.uint64 T.api_Hold) := by kernel_rfl
theorem zH : (P.info? T.api_Hold).bind (·.zero) = some (.agg #[.string (mkS []), .int .u64 0]) := by kernel_rfl
theorem hdc2 : ∀ x : Hld, (hdc x).length = 2 := fun _ => rfl
theorem hdc_one (x : Hld) : ∀ w ∈ hdc x, one w = true := by simp [one]
theorem sl_hold : SlT P T.sl_api_Hold T.api_Hold 2 24 [.string (mkS []), .int .u64 0] := slT (by kernel_rfl) (by kernel_rfl)
theorem u_slh : P.underlying T.sl_api_Hold = some (.slice T.api_Hold) := by kernel_rfl
theorem bld_hold' : (fun a b : Value => Instr.fill (Lift.places P (P.underlying T.sl_api_Hold)) (zrow (zcl P T.api_Hold).toList 1 (P.cellsOf T.api_Hold)).toArray [(0, .agg (List.toArray [a, b]))]) = fun a b => some (List.toArray [a, b]) := by kernel_rfl
theorem bld_hold (a b : Value) : bldS P T.sl_api_Hold T.api_Hold 1 [(0, .agg (List.toArray [a, b]))] [a, b] := congrFun (congrFun bld_hold' a) b
theorem sl_u64' : SlT P T.sl_uint64 T.uint64 1 8 [.int .u64 0] := slT (by kernel_rfl) (by kernel_rfl)
theorem u_slu' : P.underlying T.sl_uint64 = some (.slice T.uint64) := by kernel_rfl

/-- A row: the tag; its hold; marked. -/
abbrev URow := List (Int × (Hld × Bool))
structure URel (W : URow) (last : Int) (H : List (Int × Hld)) (M : List (Int × Int)) : Prop where
  up : Up W
  pos : ∀ x ∈ W, 0 < x.1 ∧ x.1 ≤ last
  nd : (H.map Prod.fst).Nodup
  ndM : (M.map Prod.fst).Nodup
  hh : ∀ k, get? H k = (get? W k).map (·.1)
  mm : ∀ k, get? M k = (get? W k).bind fun x => if x.2 then some 1 else none

theorem URel.permH {W last H M} (q : URel W last H M) : (H.map Prod.fst).Perm (W.map Prod.fst) := by
  rw [List.perm_ext_iff_of_nodup q.nd q.up.nodup]
  intro k
  have e := q.hh k
  by_cases hk : k ∈ H.map Prod.fst
  · refine ⟨fun _ => ?_, fun _ => hk⟩
    apply Classical.byContradiction
    intro hn
    rw [get?_none.2 hn] at e
    exact get?_none.1 e hk
  · refine ⟨fun h => absurd h hk, fun h => ?_⟩
    rw [get?_none.2 hk] at e
    cases hg : get? W k with
    | none => exact absurd h (get?_none.1 hg)
    | some x => rw [hg] at e; cases e
theorem URel.add {W last H M} (q : URel W last H M) (h0 : 0 ≤ last) (x : Hld) : URel (W ++ [(last + 1, (x, false))]) (last + 1) (upd H (last + 1) x) M := by
  have hn : last + 1 ∉ W.map Prod.fst := fun hm => by
    obtain ⟨y, hy, e⟩ := List.mem_map.1 hm
    have := q.pos y hy
    omega
  have eu : W ++ [(last + 1, (x, false))] = upd W (last + 1) (x, false) := (upd_none hn).symm
  have up' : Up (W ++ [(last + 1, (x, false))]) := by
    rw [Up, List.pairwise_append]
    exact ⟨q.up, List.pairwise_singleton .., fun a ha b hb => by simp at hb; subst hb; have := q.pos a ha; show a.1 < last + 1; omega⟩
  refine ⟨up', fun y hy => ?_, (upd_keys q.nd).1, q.ndM, fun k => ?_, fun k => ?_⟩
  · rcases List.mem_append.1 hy with hy | hy
    · have := q.pos y hy; omega
    · simp at hy; subst hy; show 0 < last + 1 ∧ last + 1 ≤ last + 1; omega
  · rw [eu, get?_upd, get?_upd, q.hh]
    by_cases e : k = last + 1 <;> simp [e]
  · rw [eu, get?_upd, q.mm]
    by_cases e : k = last + 1
    · subst e; rw [get?_none.2 hn]; simp
    · simp [e]
theorem URel.last {W last last' H M} (q : URel W last H M) (h : last ≤ last') : URel W last' H M := ⟨q.up, fun x hx => by have := q.pos x hx; omega, q.nd, q.ndM, q.hh, q.mm⟩
theorem map_fst_up {W : URow} {f : Int × (Hld × Bool) → Int × (Hld × Bool)} (u : Up W) (hf : ∀ x, (f x).1 = x.1) : Up (W.map f) := by
  rw [Up, List.pairwise_map]; exact u.imp fun {a b} h => by rw [hf, hf]; exact h
abbrev markU (W : URow) (p : Int → Bool) : URow := W.map fun x => (x.1, (x.2.1, x.2.2 || p x.1))
theorem get?_mark (W : URow) (p : Int → Bool) (k : Int) : get? (markU W p) k = (get? W k).map fun y => (y.1, y.2 || p k) := by
  have go : ∀ (W : URow) (i : Nat), (fnd (markU W p) k i).map (·.2) = ((fnd W k i).map (·.2)).map fun y => (y.1, y.2 || p k) := by
    intro W
    induction W with
    | nil => intro i; rfl
    | cons x t ih =>
      intro i
      obtain ⟨k', v⟩ := x
      simp only [markU, List.map_cons, fnd]
      by_cases e : k = k'
      · subst e; rw [if_pos rfl, if_pos rfl]; rfl
      · rw [if_neg e, if_neg e]; exact ih _
  exact go W 0
theorem URel.clear {W last H M} (q : URel W last H M) : URel (W.map fun x => (x.1, (x.2.1, false))) last H [] := by
  refine ⟨map_fst_up q.up fun _ => rfl, fun x hx => ?_, q.nd, by simp, fun k => ?_, fun k => ?_⟩
  · obtain ⟨y, hy, rfl⟩ := List.mem_map.1 hx; exact q.pos y hy
  · rw [get?_mapv (fun y : Hld × Bool => (y.1, false)), q.hh]; cases get? W k <;> rfl
  · rw [get?_mapv (fun y : Hld × Bool => (y.1, false))]; cases get? W k <;> rfl
theorem URel.mark {W last H M} (q : URel W last H M) {k : Int} (h : k ∈ W.map Prod.fst) : URel (markU W fun j => decide (j = k)) last H (upd M k 1) := by
  refine ⟨map_fst_up q.up fun _ => rfl, fun x hx => ?_, q.nd, (upd_keys q.ndM).1, fun j => ?_, fun j => ?_⟩
  · obtain ⟨y, hy, rfl⟩ := List.mem_map.1 hx; exact q.pos y hy
  · rw [get?_mark, q.hh]; cases get? W j <;> rfl
  · rw [get?_upd, get?_mark, q.mm]
    by_cases e : j = k
    · subst e
      cases hg : get? W j with
      | none => exact absurd h (get?_none.1 hg)
      | some y => simp
    · cases hg : get? W j <;> simp [e]
theorem URel.take {W last H M} (q : URel W last H M) (k : Int) : URel (W.filter fun x => decide (x.1 ≠ k)) last (del H k) (del M k) := by
  have e : (W.filter fun x => decide (x.1 ≠ k)) = del W k := by
    refine Up.ext (q.up.sublist List.filter_sublist) q.up.del fun x => ?_
    rw [List.mem_filter, del_mem_iff q.up.nodup]; simp
  rw [e]
  refine ⟨q.up.del, fun x hx => q.pos x (del_mem hx), del_keys q.nd, del_keys q.ndM, fun j => ?_, fun j => ?_⟩
  · rw [get?_del _ _ _ q.nd, get?_del _ _ _ q.up.nodup, q.hh]
    by_cases e : j = k <;> simp [e]
  · rw [get?_del _ _ _ q.ndM, get?_del _ _ _ q.up.nodup, q.mm]
    by_cases e : j = k <;> simp [e]

abbrev UnA (u : Addr) (mh mm : Nat) (last : Int) (H : List (Int × Hld)) (M : List (Int × Int)) (L : List Asr) : List Asr := Bx u [.int .u64 last, .map (some mh), .map (some mm)] :: Mq kkU vvH mh H :: Mq kkU vvI mm M :: L
/-- What is not acknowledged, that stands for a row. -/
def UnW (u : Addr) (W : URow) (last : Int) : Asr := ex fun x : Nat × Nat × List (Int × Hld) × List (Int × Int) => sep (fact (URel W last x.2.2.1 x.2.2.2)) (stars [Bx u [.int .u64 last, .map (some x.1), .map (some x.2.1)], Mq kkU vvH x.1 x.2.2.1, Mq kkU vvI x.2.1 x.2.2.2])

abbrev openU (W : URow) (tag : Int) : Bool := (get? W tag).any (!·.2)
abbrev findU (W : URow) (tag : Int) : List Int := (W.filter fun x => !x.2.2 && (tag == 0 || decide (x.1 ≤ tag))).map Prod.fst
def findO (W : URow) (tag : Int) (many : Bool) : Option (List Int) := if openU W tag || (many && tag == 0) then some (if many then findU W tag else [tag]) else none

section
variable {K : KT} {L : List Asr} {h : Heap} {u : Addr} {W : URow} {last : Int}
theorem UnW.out (S : St (UnW u W last :: L) h) : ∃ mh mm H M, URel W last H M ∧ St (UnA u mh mm last H M L) h := by
  obtain ⟨⟨mh, mm, H, M⟩, S1⟩ := St.ex S
  obtain ⟨q, S2⟩ := S1.split.fact
  exact ⟨mh, mm, H, M, q, S2.open⟩
theorem UnW.inn {mh mm : Nat} {H : List (Int × Hld)} {M : List (Int × Int)} (q : URel W last H M) (S : St (UnA u mh mm last H M L) h) : St (UnW u W last :: L) h :=
  St.ex' (mh, mm, H, M) (St.join (St.fact' q (St.close (As := [Bx u [.int .u64 last, .map (some mh), .map (some mm)], Mq kkU vvH mh H, Mq kkU vvI mm M]) S)))
theorem UnW.up (S : St (UnW u W last :: L) h) : Up W ∧ ∀ x ∈ W, 0 < x.1 ∧ x.1 ≤ last := by
  obtain ⟨_, _, _, _, q, _⟩ := UnW.out S
  exact ⟨q.up, q.pos⟩

theorem newUnakW (S : St L h) (hK : ∀ h' u, St (UnW u [] 0 :: L) h' → K (.pointer (some u)) h') : CallsH P F.unak_New [] K h := by
  refine unak_New.ok ?_
  unfold unak_New.p0
  simp only [bd]
  have S1 := S.mqNew kkU vvH
  have S2 := S1.mqNew kkU vvI
  have S3 := S2.al [.int .u64 0, .map (some h.size), .map (some (h.push (.map #[] 0)).size)] T.unak_Unak
  exact hK _ _ (UnW.inn ⟨List.Pairwise.nil, by simp, by simp, by simp, fun _ => rfl, fun _ => rfl⟩ S3.p2.p1)

theorem addUnakW {x : Hld} (S : St (UnW u W last :: L) h) (h0 : 0 ≤ last ∧ last < 18446744073709551615) (hK : ∀ h', St (UnW u (W ++ [(last + 1, (x, false))]) (last + 1) :: L) h' → K (.int .u64 (last + 1)) h') :
    CallsH P F.unak_Unak_Add [.pointer (some u), .agg (List.toArray (hdc x))] K h := by
  obtain ⟨mh, mm, H, M, q, S0⟩ := UnW.out S
  refine unak_Unak_Add.ok ?_
  unfold unak_Unak_Add.p0
  simp only [bd]
  have S1 : St (Bx (top h) (hdc x) :: UnA u mh mm last H M L) (al h (hdc x).toArray T.api_Hold) := S0.al _ _
  have e : IntKind.u64.wrap (last + 1) = last + 1 := by rw [IntKind.wrap_u64]; omega
  refine ⟨u, rfl, last, S1.p1.c 0 rfl, u, rfl, ?_⟩
  rw [e]
  refine S1.p1.wr 0 (by simp) rfl fun h2 S2 => ⟨u, rfl, u, rfl, some mh, S2.c 1 rfl, last + 1, S2.c 0 rfl, ?_⟩
  refine S2.p1.rdA (n := 2) rfl ?_
  refine St.update (k := last + 1) (v := x) klU umH S2.p2 fun v h3 S3 => ⟨u, rfl, last + 1, S3.p1.c 0 rfl, hK h3 (UnW.inn (mh := mh) (mm := mm) (q.add h0.1 x) S3.p2.tl.p1)⟩

theorem tagUnakW (S : St (UnW u W last :: L) h) (h0 : 0 ≤ last ∧ last < 18446744073709551615) (hK : ∀ h', St (UnW u W (last + 1) :: L) h' → K (.int .u64 (last + 1)) h') :
    CallsH P F.unak_Unak_Tag [.pointer (some u)] K h := by
  obtain ⟨mh, mm, H, M, q, S0⟩ := UnW.out S
  refine unak_Unak_Tag.ok ?_
  unfold unak_Unak_Tag.p0
  have e : IntKind.u64.wrap (last + 1) = last + 1 := by rw [IntKind.wrap_u64]; omega
  refine ⟨u, rfl, last, S0.c 0 rfl, u, rfl, ?_⟩
  rw [e]
  refine S0.wr 0 (by simp) rfl fun h2 S2 => ⟨u, rfl, last + 1, S2.c 0 rfl, hK h2 (UnW.inn (q.last (by omega)) S2)⟩

theorem zHold {H : List (Int × Hld)} (k : Int) : ∃ x : Hld, (get? H k).elim (.agg #[.string (mkS []), .int .u64 0]) vvH = .agg (hdc x).toArray ∧ ∀ y, get? H k = some y → x = y := by
  cases get? H k with
  | none => exact ⟨([], 0), rfl, fun y e => by cases e⟩
  | some x => exact ⟨x, rfl, fun y e => by cases e; rfl⟩

theorem openUnakA {mh mm : Nat} {H : List (Int × Hld)} {M : List (Int × Int)} (q : URel W last H M) (S : St (UnA u mh mm last H M L) h) {tag : Int} (hK : ∀ h', St (UnA u mh mm last H M L) h' → K (.bool (openU W tag)) h') :
    CallsH P F.unak_Unak_open [.pointer (some u), .int .u64 tag] K h := by
  refine unak_Unak_open.ok ?_
  unfold unak_Unak_open.p0
  refine ⟨u, rfl, some mh, S.c 1 rfl, ?_⟩
  refine St.lookup (k := tag) klU umH zH S.p1 ?_
  simp only [if_true, bd]
  obtain ⟨x, ex, _⟩ := zHold (H := H) tag
  rw [ex]
  refine ⟨hdc x, _, rfl, rfl, ?_⟩
  have S1 : St (Bx (top h) [.string (mkS []), .int .u64 0] :: UnA u mh mm last H M L) (al h #[.string (mkS []), .int .u64 0] T.api_Hold) := S.al [.string (mkS []), .int .u64 0] T.api_Hold
  refine S1.wrA (ws := hdc x) rfl (hdc_one x) fun h2 S2 => ?_
  have S3 := S2.tl
  have eo := q.hh tag
  cases hg : get? W tag with
  | none =>
    rw [hg] at eo
    refine ifF (by rw [eo]; rfl) ?_
    have := hK h2 S3
    rw [openU, hg] at this
    exact this
  | some y =>
    rw [hg] at eo
    refine ifT (by rw [eo]; rfl) ⟨u, rfl, some mm, S3.c 2 rfl, ?_⟩
    refine St.lookup (k := tag) klU umI zI S3.p2 ?_
    have em := q.mm tag
    rw [hg] at em
    have : (get? M tag).elim (.int .i64 0) vvI = .int .i64 (if y.2 then 1 else 0) := by
      rw [em]; cases hy : y.2 <;> simp [hy]
    simp only [Bool.false_eq_true, if_false]
    rw [this]
    refine ⟨_, rfl, ?_⟩
    have := hK h2 S3
    rw [openU, hg] at this
    cases hy : y.2 <;> simpa [hy] using this

theorem openUnakW (S : St (UnW u W last :: L) h) {tag : Int} (hK : ∀ h', St (UnW u W last :: L) h' → K (.bool (openU W tag)) h') : CallsH P F.unak_Unak_open [.pointer (some u), .int .u64 tag] K h := by
  obtain ⟨mh, mm, H, M, q, S0⟩ := UnW.out S
  exact openUnakA q S0 fun h' S' => hK h' (UnW.inn q S')

theorem keyU {H : List (Int × Hld)} {M : List (Int × Int)} (q : URel W last H M) (hl : last < 18446744073709551616) : ∀ k ∈ H.map Prod.fst, keyOf P T.uint64 (.int .u64 k) = some (.int .u64 k) := fun k hk => by
  have hm := q.permH.mem_iff.1 hk
  obtain ⟨x, hx, rfl⟩ := List.mem_map.1 hm
  have := q.pos x hx
  exact keyOf_i (by kernel_rfl) (by
    have e1 : IntKind.u64.min = 0 := by decide
    have e2 : IntKind.u64.max = 18446744073709551615 := by decide
    simp [Lit.wf, e1, e2]; omega)

theorem findU_step {W : URow} {tag : Int} {i : Nat} (hlt : i < W.length) (u : Up W) : findU (W.take (i + 1)) tag = findU (W.take i) tag ++ (if openU W W[i].1 && (tag == 0 || decide (W[i].1 ≤ tag)) then [W[i].1] else []) := by
  have e : W.take (i + 1) = W.take i ++ [W[i]] := by rw [List.take_add_one, List.getElem?_eq_getElem hlt]; rfl
  have hg : get? W W[i].1 = some W[i].2 := (get?_iff u.nodup).2 (List.getElem_mem hlt)
  unfold findU openU
  rw [e, List.filter_append, List.map_append, hg]
  congr 1
  simp only [Option.any_some]
  generalize W[i] = y
  by_cases h : (!y.2.2 && (tag == 0 || decide (y.1 ≤ tag))) = true
  · rw [if_pos h, List.filter_cons_of_pos (p := fun x : Int × (Hld × Bool) => !x.2.2 && (tag == 0 || decide (x.1 ≤ tag))) h]; rfl
  · rw [if_neg h, List.filter_cons_of_neg (p := fun x : Int × (Hld × Bool) => !x.2.2 && (tag == 0 || decide (x.1 ≤ tag))) h]; rfl

theorem find_loop {tag : Int} {s : SV} (hl : W.length < 4398046511104) (hK : ∀ h' o, St (Ow 1 o ((findU W tag).map kkU) :: UnW u W last :: L) h' → K (.tuple #[.slice o.1 o.2.1 o.2.2, .bool true]) h') :
    ∀ (fuel i : Nat) (o : SV) (h : Heap), W.length - i < fuel → i ≤ W.length → o.2.1 ≤ i → St (Ow 1 o ((findU (W.take i) tag).map kkU) :: UnW u W last :: Ow 1 s ((W.map Prod.fst).map kkU) :: L) h → unak_Unak_Find.L2 K fuel (some u) tag o.1 o.2.1 o.2.2 s.1 s.2.1 s.2.2 ((s.2.1 : Nat) : Int) i h
  | 0, _, _, _, hf, _, _, _ => absurd hf (Nat.not_lt_zero _)
  | fuel + 1, i, o, h, hf, hi, ho, S => by
    have el : s.2.1 = W.length := by have := S.p2.ow.1; simp at this; omega
    have up := (UnW.up S.p1).1
    unfold unak_Unak_Find.L2
    by_cases hlt : i < W.length
    · refine ifT (by simp; omega) (ixV (n := i) (w := .int .u64 W[i].1) S.p2.sl rfl (by simp [hlt]) fun p ep cp => ⟨_, cp, ?_⟩)
      have st := findU_step (tag := tag) hlt up
      have next : ∀ (o' : SV) (h' : Heap), o'.2.1 ≤ i + 1 → St (Ow 1 o' ((findU (W.take (i + 1)) tag).map kkU) :: UnW u W last :: Ow 1 s ((W.map Prod.fst).map kkU) :: L) h' → unak_Unak_Find.j3 K (unak_Unak_Find.L2 K fuel) (some u) tag o'.1 o'.2.1 o'.2.2 s.1 s.2.1 s.2.2 ((s.2.1 : Nat) : Int) i h' := fun o' h' ho' S' => by
        unfold unak_Unak_Find.j3
        rw [show IntKind.i64.wrap ((i : Int) + 1) = ((i + 1 : Nat) : Int) by rw [wrapI (by omega) (by omega)]; omega]
        exact find_loop hl hK fuel (i + 1) o' h' (by omega) (by omega) ho' S'
      have j4 : ∀ (b : Bool) (h' : Heap), b = (openU W W[i].1 && (tag == 0 || decide (W[i].1 ≤ tag))) → St (UnW u W last :: Ow 1 o ((findU (W.take i) tag).map kkU) :: Ow 1 s ((W.map Prod.fst).map kkU) :: L) h' →
          unak_Unak_Find.j4 K (unak_Unak_Find.L2 K fuel) (some u) tag o.1 o.2.1 o.2.2 W[i].1 s.1 s.2.1 s.2.2 ((s.2.1 : Nat) : Int) i b h' := fun b h' eb S' => by
        unfold unak_Unak_Find.j4
        rw [← eb] at st
        cases b with
        | false =>
          rw [if_neg (by simp), List.append_nil] at st
          exact ifF rfl (next o h' (by omega) (by rw [st]; exact S'.p1))
        | true =>
          refine ifT rfl ?_
          simp only [bd]
          have S4 := S'.al [.int .u64 W[i].1] T.uint64
          have sa : Sl 1 (al h' [Value.int .u64 W[i].1].toArray T.uint64) (some (top h')) 1 [.int .u64 W[i].1] := ⟨rfl, S4.mem.1⟩
          refine S4.p2.app sl_u64' rfl u_slu' (fun k e => by cases e) (Src.slice (n := 1) (c := 1) sa (by simp [one])) (by omega) (by omega) fun p' c' h2 S2 => ⟨_, _, _, rfl, ?_⟩
          refine next (p', o.2.1 + 1, c') h2 (by show o.2.1 + 1 ≤ i + 1; omega) ?_
          rw [st, if_pos rfl, List.map_append]
          exact S2.d1
      refine openUnakW S.p1 fun h1 S1 => ⟨_, rfl, ?_⟩
      cases ho2 : openU W W[i].1 with
      | false => exact ifF rfl (j4 false h1 (by rw [ho2]; rfl) S1)
      | true =>
        refine ifT rfl ?_
        by_cases h0 : tag = 0
        · exact ifT' (by simp [h0]) (j4 true h1 (by rw [ho2]; simp [h0]) S1)
        · exact ifF' (by simp [h0]) (j4 _ h1 (by rw [ho2]; simp [h0]) S1)
    · refine ifF (by simp; omega) (hK h o ?_)
      rw [List.take_of_length_le (by omega)] at S
      exact S.p2.tl

theorem findUnakW {tag : Int} {many : Bool} (S : St (UnW u W last :: L) h) (hl : W.length < 4398046511104) (hlast : last < 18446744073709551616)
    (hK : ∀ h' s, St (Ow 1 s (((findO W tag many).getD []).map kkU) :: UnW u W last :: L) h' → K (.tuple #[.slice s.1 s.2.1 s.2.2, .bool (findO W tag many).isSome]) h') :
    CallsH P F.unak_Unak_Find [.pointer (some u), .int .u64 tag, .bool many] K h := by
  refine unak_Unak_Find.ok ?_
  unfold unak_Unak_Find.p0
  refine openUnakW S fun h1 S1 => ⟨_, rfl, ?_⟩
  have j1 : ∀ b : Bool, b = !(openU W tag || (many && tag == 0)) → unak_Unak_Find.j1 K (some u) tag many b h1 := fun b eb => by
    unfold unak_Unak_Find.j1
    unfold findO at hK
    cases hc : (openU W tag || (many && tag == 0)) with
    | false =>
      rw [hc] at eb hK
      subst eb
      refine ifT rfl ?_
      have := hK h1 (none, 0, 0)
      simp only [Bool.false_eq_true, if_false, Option.getD_none, List.map_nil, Option.isSome_none] at this
      exact this (S1.owNil 1)
    | true =>
      rw [hc] at eb hK
      subst eb
      refine ifF rfl ?_
      simp only [if_true, Option.getD_some, Option.isSome_some] at hK
      cases many with
      | false =>
        refine ifT rfl ?_
        simp only [bd]
        have S4 := S1.al [.int .u64 tag] T.uint64
        exact hK _ (some (top h1), 1, 1) (S4.bxOw (sz := 1) rfl)
      | true =>
        simp only [if_true] at hK
        obtain ⟨mh, mm, H, M, q, S2⟩ := UnW.out S1
        refine ifF rfl ⟨u, rfl, some mh, S2.c 1 rfl, ?_⟩
        have hlen : H.length = W.length := by have := q.permH.length_eq; simpa using this
        refine keys.sortedKeys_map_uint64_api_Hold_uint64_api_Hold (vv := vvH) S2.p1 (keyU q hlast) (by omega) 0 fun h' s ks p o S' => ⟨_, _, _, rfl, W.length + 1, ?_⟩
        have e : ks = W.map Prod.fst := perm_le (p.trans q.permH) (o.imp fun h => by simpa [Lift.Ord.le, sort_uint64.o] using h) q.up.keys_le
        subst e
        have S5 := UnW.inn q (show St (UnA u mh mm last H M (Ow 1 s ((W.map Prod.fst).map kkU) :: L)) h' from S'.to)
        exact find_loop hl hK _ 0 (none, 0, 0) h' (by omega) (by omega) (by simp) (S5.owNil 1)
  cases ho : openU W tag with
  | true => exact ifF rfl (j1 false (by rw [ho]; simp))
  | false =>
    refine ifT rfl ?_
    cases many with
    | true => exact ifT rfl (j1 _ (by rw [ho]; simp))
    | false => exact ifF rfl (j1 _ (by rw [ho]; simp))

theorem lenUnakW (S : St (UnW u W last :: L) h) (hK : ∀ h', St (UnW u W last :: L) h' → K (.int .i64 (W.length : Nat)) h') : CallsH P F.unak_Unak_Len [.pointer (some u)] K h := by
  obtain ⟨mh, mm, H, M, q, S0⟩ := UnW.out S
  refine unak_Unak_Len.ok ?_
  unfold unak_Unak_Len.p0
  refine ⟨u, rfl, some mh, S0.c 1 rfl, ?_⟩
  have hlen : H.length = W.length := by have := q.permH.length_eq; simpa using this
  refine St.lenMap umH S0.p1 ⟨_, rfl, ?_⟩
  rw [hlen]
  exact hK h S

theorem clearUnakW (S : St (UnW u W last :: L) h) (hK : ∀ h', St (UnW u (W.map fun x => (x.1, (x.2.1, false))) last :: L) h' → K (.tuple #[]) h') : CallsH P F.unak_Unak_Clear [.pointer (some u)] K h := by
  obtain ⟨mh, mm, H, M, q, S0⟩ := UnW.out S
  refine unak_Unak_Clear.ok ?_
  unfold unak_Unak_Clear.p0
  simp only [bd]
  have S1 := S0.mqNew kkU vvI
  refine ⟨u, rfl, St.wr (i := 2) S1.p1 (by simp) rfl fun h2 S2 => hK h2 (UnW.inn (mh := mh) (mm := h.size) q.clear ?_)⟩
  have S3 : St (Bx u [.int .u64 last, .map (some mh), .map (some h.size)] :: Mq kkU vvI h.size [] :: Mq kkU vvH mh H :: Mq kkU vvI mm M :: L) h2 := S2
  exact S3.to

theorem mark_loop {s : SV} {ts : List Int} [In (Im 1 s) L (ts.map kkU)] (hK : ∀ h', St (UnW u (markU W fun k => decide (k ∈ ts)) last :: L) h' → K (.tuple #[]) h') :
    ∀ (fuel i : Nat) (h : Heap), ts.length - i < fuel → i ≤ ts.length → i ≤ 4611686018427387904 → ts.length < 4611686018427387904 → St (UnW u (markU W fun k => decide (k ∈ ts.take i)) last :: L) h → unak_Unak_Mark.L1 K fuel (some u) s.1 s.2.1 s.2.2 ((s.2.1 : Nat) : Int) i h
  | 0, _, _, hf, _, _, _, _ => absurd hf (Nat.not_lt_zero _)
  | fuel + 1, i, h, hf, hi, hb, hb2, S => by
    have el : s.2.1 = ts.length := by have := (S.isl 1 s).1; simpa using this.symm
    unfold unak_Unak_Mark.L1
    by_cases hlt : i < ts.length
    · refine ifT (by simp; omega) (ixV (n := i) (w := .int .u64 ts[i]) (S.isl 1 s) rfl (by simp [hlt]) fun p ep cp => ⟨_, cp, ?_⟩)
      obtain ⟨mh, mm, H, M, q, S0⟩ := UnW.out S
      have et : ts.take (i + 1) = ts.take i ++ [ts[i]] := by rw [List.take_add_one, List.getElem?_eq_getElem hlt]; rfl
      have next : ∀ h', St (UnW u (markU W fun k => decide (k ∈ ts.take (i + 1))) last :: L) h' → unak_Unak_Mark.j2 K (unak_Unak_Mark.L1 K fuel) (some u) s.1 s.2.1 s.2.2 ((s.2.1 : Nat) : Int) i h' := fun h' S' => by
        unfold unak_Unak_Mark.j2
        rw [show IntKind.i64.wrap ((i : Int) + 1) = ((i + 1 : Nat) : Int) by rw [wrapI (by omega) (by omega)]; omega]
        exact mark_loop hK fuel (i + 1) h' (by omega) (by omega) (by omega) hb2 S'
      have two : markU (markU W fun k => decide (k ∈ ts.take i)) (fun j => decide (j = ts[i])) = markU W fun k => decide (k ∈ ts.take (i + 1)) := by
        rw [et]
        unfold markU
        rw [List.map_map]
        refine List.map_congr_left fun x _ => ?_
        show (x.1, x.2.1, (x.2.2 || decide (x.1 ∈ List.take i ts)) || decide (x.1 = ts[i])) = _
        rw [Bool.or_assoc, ← Bool.decide_or]
        simp only [List.mem_append, List.mem_singleton]
      refine ⟨u, rfl, some mh, S0.c 1 rfl, St.lookup (k := ts[i]) klU umH zH S0.p1 ?_⟩
      simp only [if_true, bd]
      obtain ⟨x, ex, _⟩ := zHold (H := H) ts[i]
      rw [ex]
      refine ⟨hdc x, _, rfl, rfl, ?_⟩
      have S1 : St (Bx (top h) [.string (mkS []), .int .u64 0] :: UnA u mh mm last H M L) (al h #[.string (mkS []), .int .u64 0] T.api_Hold) := S0.al [.string (mkS []), .int .u64 0] T.api_Hold
      refine S1.wrA (ws := hdc x) rfl (hdc_one x) fun h2 S2 => ?_
      have S3 := S2.tl
      have eh := q.hh ts[i]
      cases hg : get? (markU W fun k => decide (k ∈ ts.take i)) ts[i] with
      | none =>
        rw [hg] at eh
        refine ifF (by rw [eh]; rfl) (next h2 ?_)
        have same : markU (markU W fun k => decide (k ∈ ts.take i)) (fun j => decide (j = ts[i])) = markU W fun k => decide (k ∈ ts.take i) := by
          have hn := get?_none.1 hg
          conv => rhs; rw [← List.map_id (markU W fun k => decide (k ∈ ts.take i))]
          refine List.map_congr_left fun x hx => ?_
          have : x.1 ≠ ts[i] := fun e => hn (List.mem_map.2 ⟨x, hx, e⟩)
          simp [this]
        rw [← two, same]
        exact UnW.inn q S3
      | some y =>
        rw [hg] at eh
        refine ifT (by rw [eh]; rfl) ⟨u, rfl, some mm, S3.c 2 rfl, St.update (k := ts[i]) (v := 1) klU umI S3.p2 fun v h3 S4 => next h3 ?_⟩
        rw [← two]
        have hm : ts[i] ∈ (markU W fun k => decide (k ∈ ts.take i)).map Prod.fst := List.mem_map.2 ⟨_, get?_mem hg, rfl⟩
        exact UnW.inn (mh := mh) (mm := mm) (q.mark hm) S4.to
    · refine ifF (by simp; omega) (hK h ?_)
      rw [List.take_of_length_le (by omega)] at S
      exact S

theorem markUnakW {s : SV} {ts : List Int} [In (Im 1 s) L (ts.map kkU)] (S : St (UnW u W last :: L) h) (hl : ts.length < 4611686018427387904) (hK : ∀ h', St (UnW u (markU W fun k => decide (k ∈ ts)) last :: L) h' → K (.tuple #[]) h') :
    CallsH P F.unak_Unak_Mark [.pointer (some u), s.v] K h := by
  refine unak_Unak_Mark.ok ?_
  unfold unak_Unak_Mark.p0
  refine ⟨ts.length + 1, mark_loop hK _ 0 h (by omega) (by omega) (by omega) hl ?_⟩
  rw [show (markU W fun k => decide (k ∈ ts.take 0)) = W by
    conv => rhs; rw [← List.map_id W]
    exact List.map_congr_left fun x _ => by simp]
  exact S

theorem sl_nil {s : SV} {vs : List Value} {h : Heap} (m : Sl 1 h s.1 s.2.1 vs) (e : s.1 = none) : vs = [] := by
  have := m.2
  rw [e] at this
  exact this

theorem cloneU {s : SV} {ts : List Int} [In (Im 1 s) L (ts.map kkU)] (S : St L h) (hl : ts.length < 4398046511104) (hK : ∀ h' o, St (Ow 1 o (ts.map kkU) :: L) h' → K (.slice o.1 o.2.1 o.2.2) h') : CallsH P F.slices_Clone_uint64_uint64 [s.v] K h := by
  have el : s.2.1 = ts.length := by have := (S.isl 1 s).1; simpa using this.symm
  refine slices_Clone_uint64_uint64.ok ?_
  unfold slices_Clone_uint64_uint64.p0
  cases e : s.1 with
  | none =>
    refine ifT rfl ?_
    have e2 := sl_nil (S.isl 1 s) e
    refine hK h (none, 0, 0) ?_
    rw [e2]
    exact S.owNil 1
  | some a =>
    refine ifF rfl ?_
    simp only [bd]
    have S1 := (S.al [] T.uint64).bxOw (sz := 1) (n := 0) rfl
    have sa := St.isl (L := Ow 1 (some (top h), 0, 0) [] :: L) S1 1 s
    rw [← e]
    refine S1.app sl_u64' rfl u_slu' (fun k e => by cases e) (Src.slice (n := s.2.1) (c := s.2.2) sa ?_) (by show (0 + s.2.1) * 8 ≤ _; omega) (by show 0 + s.2.1 ≤ _; omega) fun p' c' h' S' => ⟨_, _, _, rfl, hK h' (p', 0 + s.2.1, c') S'⟩
    simp [one]

abbrev inU (W : URow) (S : List Int) : List Hld := (W.filter fun x => decide (x.1 ∈ S)).map fun x => x.2.1
abbrev outU (W : URow) (S : List Int) : URow := W.filter fun x => !decide (x.1 ∈ S)

theorem inU_snoc {W : URow} {S : List Int} {t : Int} {v : Hld × Bool} (u : Up W) (hm : (t, v) ∈ W) (hlt : ∀ s ∈ S, s < t) : inU W (S ++ [t]) = inU W S ++ [v.1] := by
  have e : (W.filter fun x => decide (x.1 ∈ S ++ [t])) = (W.filter fun x => decide (x.1 ∈ S)) ++ [(t, v)] := by
    refine Up.ext (u.sublist List.filter_sublist) ?_ fun x => ?_
    · rw [Up, List.pairwise_append]
      refine ⟨u.sublist List.filter_sublist, List.pairwise_singleton .., fun a ha b hb => ?_⟩
      simp at hb
      subst hb
      exact hlt _ (of_decide_eq_true (List.mem_filter.1 ha).2)
    · simp only [List.mem_filter, List.mem_append, List.mem_singleton, decide_eq_true_eq]
      constructor
      · rintro ⟨h1, h2 | h2⟩
        · exact .inl ⟨h1, h2⟩
        · right
          have a := (get?_iff u.nodup).2 hm
          have b := (get?_iff u.nodup).2 (show (x.1, x.2) ∈ W from h1)
          rw [h2, a] at b
          have b := Option.some.inj b
          rw [show x = (x.1, x.2) from rfl, h2, b]
      · rintro (⟨h1, h2⟩ | rfl)
        · exact ⟨h1, .inl h2⟩
        · exact ⟨hm, .inr rfl⟩
  unfold inU
  rw [e, List.map_append]; rfl

theorem take_loop' {s : SV} {ts : List Int} (hs : ts.Pairwise (· ≤ ·)) (hl : ts.length < 4398046511104) (hK : ∀ h' o, St (Ow 2 o ((inU W ts).flatMap hdc) :: UnW u (outU W ts) last :: L) h' → K (.slice o.1 o.2.1 o.2.2) h') :
    ∀ (fuel i : Nat) (o : SV) (h : Heap), ts.length - i < fuel → i ≤ ts.length → o.2.1 ≤ i → St (UnW u (outU W (ts.take i)) last :: Ow 2 o ((inU W (ts.take i)).flatMap hdc) :: Ow 1 s (ts.map kkU) :: L) h → Up W → unak_Unak_Take.L1 K fuel (some u) o.1 o.2.1 o.2.2 s.1 s.2.1 s.2.2 ((s.2.1 : Nat) : Int) i h
  | 0, _, _, _, hf, _, _, _, _ => absurd hf (Nat.not_lt_zero _)
  | fuel + 1, i, o, h, hf, hi, ho, S, up => by
    have el : s.2.1 = ts.length := by have := S.p2.ow.1; simp at this; omega
    unfold unak_Unak_Take.L1
    by_cases hlt : i < ts.length
    · refine ifT (by simp; omega) (ixV (n := i) (w := .int .u64 ts[i]) S.p2.sl rfl (by simp [hlt]) fun p ep cp => ⟨_, cp, ?_⟩)
      obtain ⟨mh, mm, H, M, q, S0⟩ := UnW.out S
      have et : ts.take (i + 1) = ts.take i ++ [ts[i]] := by rw [List.take_add_one, List.getElem?_eq_getElem hlt]; rfl
      have next : ∀ (o' : SV) (h' : Heap), o'.2.1 ≤ i + 1 → St (UnW u (outU W (ts.take (i + 1))) last :: Ow 2 o' ((inU W (ts.take (i + 1))).flatMap hdc) :: Ow 1 s (ts.map kkU) :: L) h' → unak_Unak_Take.j2 K (unak_Unak_Take.L1 K fuel) (some u) o'.1 o'.2.1 o'.2.2 s.1 s.2.1 s.2.2 ((s.2.1 : Nat) : Int) i h' := fun o' h' ho' S' => by
        unfold unak_Unak_Take.j2
        rw [show IntKind.i64.wrap ((i : Int) + 1) = ((i + 1 : Nat) : Int) by rw [wrapI (by omega) (by omega)]; omega]
        exact take_loop' hs hl hK fuel (i + 1) o' h' (by omega) (by omega) ho' S' up
      have oute : outU W (ts.take (i + 1)) = (outU W (ts.take i)).filter fun x => decide (x.1 ≠ ts[i]) := by
        rw [et]
        unfold outU
        rw [List.filter_filter]
        refine List.filter_congr fun x _ => ?_
        have e3 : decide (x.1 ∈ ts.take i ++ [ts[i]]) = (decide (x.1 ∈ ts.take i) || decide (x.1 = ts[i])) := by rw [← Bool.decide_or]; simp only [List.mem_append, List.mem_singleton]
        rw [e3]
        cases decide (x.1 ∈ ts.take i) <;> by_cases h2 : x.1 = ts[i] <;> simp [h2]
      refine ⟨u, rfl, some mh, S0.c 1 rfl, St.lookup (k := ts[i]) klU umH zH S0.p1 ?_⟩
      simp only [if_true, bd]
      obtain ⟨x, ex, hx⟩ := zHold (H := H) ts[i]
      rw [ex]
      refine ⟨hdc x, _, rfl, rfl, ?_⟩
      have S1 : St (Bx (top h) [.string (mkS []), .int .u64 0] :: UnA u mh mm last H M _) (al h #[.string (mkS []), .int .u64 0] T.api_Hold) := S0.al [.string (mkS []), .int .u64 0] T.api_Hold
      refine S1.wrA (ws := hdc x) rfl (hdc_one x) fun h2 S2 => ?_
      have eh := q.hh ts[i]
      cases hg : get? (outU W (ts.take i)) ts[i] with
      | none =>
        rw [hg] at eh
        refine ifF (by rw [eh]; rfl) (next o h2 (by omega) ?_)
        have hn := get?_none.1 hg
        have e1 : outU W (ts.take (i + 1)) = outU W (ts.take i) := by
          rw [oute]
          exact List.filter_eq_self.2 fun x hx => decide_eq_true fun e => hn (List.mem_map.2 ⟨x, hx, e⟩)
        have e2 : inU W (ts.take (i + 1)) = inU W (ts.take i) := by
          unfold inU
          congr 1
          refine List.filter_congr fun x hx => ?_
          rw [et]
          by_cases e : x.1 = ts[i]
          · have : x.1 ∈ ts.take i := Classical.byContradiction fun hno => hn (List.mem_map.2 ⟨x, List.mem_filter.2 ⟨hx, by simp [hno]⟩, e⟩)
            simp only [List.mem_append, this, true_or]
          · simp only [List.mem_append, List.mem_singleton, e, or_false]
        rw [e1, e2]
        exact UnW.inn q S2.tl
      | some y =>
        rw [hg] at eh
        obtain ⟨hmem, hno⟩ := List.mem_filter.1 (get?_mem hg)
        have hno : ts[i] ∉ ts.take i := by simpa using hno
        have exy : x = y.1 := hx _ (by rw [eh]; rfl)
        refine ifT (by rw [eh]; rfl) ?_
        refine S2.rdA (n := 2) rfl ⟨_, bld_hold _ _, ?_⟩
        have S4 : St (Bx (top h2) (hdc x) :: Bx (top h) (hdc x) :: UnA u mh mm last H M _) (al h2 (hdc x).toArray T.api_Hold) := S2.al _ _
        have sa : Sl 2 (al h2 (hdc x).toArray T.api_Hold) (some (top h2)) 1 (hdc x) := ⟨rfl, S4.mem.1⟩
        refine S4.p5.app sl_hold rfl u_slh (fun k e => by cases e) (Src.slice (n := 1) (c := 1) sa (by simp [one])) (by omega) (by omega) fun p' c' h3 S5 => ⟨_, _, _, rfl, ?_⟩
        have S6 : St (UnA u mh mm last H M (Ow 2 (p', o.2.1 + 1, c') ((inU W (ts.take i)).flatMap hdc ++ hdc x) :: Ow 1 s (ts.map kkU) :: L)) h3 := S5.d1.d1.p3.p3.p3
        refine ⟨u, rfl, some mh, S6.c 1 rfl, St.delete (k := ts[i]) klU umH S6.p1 fun h4 S7 => ?_⟩
        refine ⟨u, rfl, some mm, S7.p1.c 2 rfl, St.delete (k := ts[i]) klU umI S7.p2 fun h5 S8 => ?_⟩
        refine next (p', o.2.1 + 1, c') h5 (by show o.2.1 + 1 ≤ i + 1; omega) ?_
        have hltS : ∀ s ∈ ts.take i, s < ts[i] := fun s hs' => by
          obtain ⟨j, hj, rfl⟩ := List.mem_iff_getElem.1 hs'
          simp only [List.length_take] at hj
          rw [List.getElem_take]
          have h1 := List.pairwise_iff_getElem.1 hs j i (by omega) hlt (by omega)
          have h2 : ts[j] ≠ ts[i] := fun e => hno (by rw [← e]; exact List.mem_take_iff_getElem.2 ⟨j, by omega, rfl⟩)
          omega
        rw [oute, et, inU_snoc up hmem hltS, List.flatMap_append]
        refine UnW.inn (mh := mh) (mm := mm) (q.take ts[i]) ?_
        rw [exy] at S8
        rw [List.flatMap_cons, List.flatMap_nil, List.append_nil]
        exact S8.p2.p2.p1
    · refine ifF (by simp; omega) (hK h o ?_)
      rw [List.take_of_length_le (by omega)] at S
      exact S.p2.tl.p1

theorem takeUnakW {s : SV} {ts : List Int} [In (Im 1 s) L (ts.map kkU)] (S : St (UnW u W last :: L) h) (hl : ts.length < 4398046511104) (hK : ∀ h' o, St (Ow 2 o ((inU W ts).flatMap hdc) :: UnW u (outU W ts) last :: L) h' → K (.slice o.1 o.2.1 o.2.2) h') :
    CallsH P F.unak_Unak_Take [.pointer (some u), s.v] K h := by
  refine unak_Unak_Take.ok ?_
  unfold unak_Unak_Take.p0
  refine cloneU (L := UnW u W last :: L) S hl fun h1 o1 S1 => ⟨_, _, _, rfl, ?_⟩
  refine sort_uint64.sortS S1 (by omega) 0 fun h2 ys py sy S2 => ⟨rfl, ts.length + 1, ?_⟩
  have sy' : ys.Pairwise (· ≤ ·) := sy.imp fun h => by simpa [Lift.Ord.le, sort_uint64.o] using h
  have hlen := py.length_eq
  have mem : ∀ x, decide (x ∈ ys) = decide (x ∈ ts) := fun x => by simp [py.mem_iff]
  have e1 : inU W ys = inU W ts := by unfold inU; rw [show (fun x : Int × (Hld × Bool) => decide (x.1 ∈ ys)) = fun x => decide (x.1 ∈ ts) from funext fun x => mem x.1]
  have e2 : outU W ys = outU W ts := by unfold outU; rw [show (fun x : Int × (Hld × Bool) => !decide (x.1 ∈ ys)) = fun x => !decide (x.1 ∈ ts) from funext fun x => by rw [mem x.1]]
  refine take_loop' (ts := ys) (W := W) sy' (by omega) (fun h' o S' => hK h' o (by rw [← e1, ← e2]; exact S')) _ 0 (none, 0, 0) h2 (by omega) (by omega) (by simp) ?_ (UnW.up S).1
  have z1 : outU W (ys.take 0) = W := List.filter_eq_self.2 fun x _ => by simp
  have z2 : inU W (ys.take 0) = [] := by unfold inU; simp
  rw [z1, z2]
  exact (S2.owNil 2).p2

theorem allUnakW (S : St (UnW u W last :: L) h) (hl : W.length < 4398046511104) (hlast : last < 18446744073709551616) (hK : ∀ h' o, St (Ow 2 o ((W.map fun x => x.2.1).flatMap hdc) :: UnW u [] last :: L) h' → K (.slice o.1 o.2.1 o.2.2) h') :
    CallsH P F.unak_Unak_All [.pointer (some u)] K h := by
  obtain ⟨mh, mm, H, M, q, S0⟩ := UnW.out S
  refine unak_Unak_All.ok ?_
  unfold unak_Unak_All.p0
  refine ⟨u, rfl, some mh, S0.c 1 rfl, ?_⟩
  have hlen : H.length = W.length := by have := q.permH.length_eq; simpa using this
  refine keys.collectKeys_map_uint64_api_Hold_uint64_api_Hold (vv := vvH) S0.p1 (keyU q hlast) (by omega) fun h' s ks p S' => ⟨_, _, _, rfl, ?_⟩
  have S5 : St (UnW u W last :: Ow 1 s (ks.map kkU) :: L) h' := UnW.inn q (show St (UnA u mh mm last H M (Ow 1 s (ks.map kkU) :: L)) h' from S'.to)
  have hall : ∀ x ∈ W, x.1 ∈ ks := fun x hx => (p.trans q.permH).mem_iff.2 (List.mem_map.2 ⟨x, hx, rfl⟩)
  have e1 : inU W ks = W.map fun x => x.2.1 := by
    unfold inU
    rw [List.filter_eq_self.2 fun x hx => decide_eq_true (hall x hx)]
  have e2 : outU W ks = [] := List.filter_eq_nil_iff.2 fun x hx => by simp [hall x hx]
  refine takeUnakW (L := Im 1 s (ks.map kkU) :: L) (s := s) (ts := ks) S5.p1.im.p1 (by rw [p.length_eq, List.length_map]; omega) fun h2 o S6 => ⟨_, _, _, rfl, hK h2 o ?_⟩
  rw [e1, e2] at S6
  exact S6.p2.tl
end
end Go.Proofs.Ytechpnlbkkfplaa.Pr
