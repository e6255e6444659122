/- The document's Unak: found, marked, taken. -/
import Derived.Test.YtechpnlbkkfplaaRefUnak
set_option linter.unusedVariables false
set_option linter.unusedSimpArgs false
namespace Go.Proofs.Ytechpnlbkkfplaa.Pr
open Go Go.Lift Go.Proofs

/-- What the document's Find passes on. -/
abbrev cD (tag : Int) (many : Bool) (x : Int × (Hld × Bool)) : Bool := !(x.2.2 || ((!many && x.1 != tag) || (many && (decide (tag > 0) && decide (x.1 > tag)))))
abbrev oD (W : URow) (tag : Int) (many : Bool) : List Int := (W.filter (cD tag many)).map Prod.fst
theorem oD_step {W : URow} {tag : Int} {many : Bool} {i : Nat} (hlt : i < W.length) : oD (W.take (i + 1)) tag many = oD (W.take i) tag many ++ (if cD tag many W[i] then [W[i].1] else []) := by
  have e : W.take (i + 1) = W.take i ++ [W[i]] := by rw [List.take_add_one, List.getElem?_eq_getElem hlt]; rfl
  unfold oD
  rw [e, List.filter_append, List.map_append]
  congr 1
  generalize W[i] = y
  by_cases h : cD tag many y = true
  · rw [if_pos h, List.filter_cons_of_pos h]; rfl
  · rw [if_neg h, List.filter_cons_of_neg h]; rfl
theorem oD_open {W : URow} (u : Up W) (tag : Int) (many : Bool) : openU W tag = decide (tag ∈ oD W tag many) := by
  rw [Bool.eq_iff_iff, decide_eq_true_eq]
  unfold openU
  constructor
  · intro h
    cases hg : get? W tag with
    | none => rw [hg] at h; cases h
    | some v =>
      rw [hg] at h
      obtain ⟨v1, v2⟩ := v
      have hv : v2 = false := by simpa using h
      subst hv
      refine List.mem_map.2 ⟨_, List.mem_filter.2 ⟨get?_mem hg, ?_⟩, rfl⟩
      simp [cD]
  · intro h
    obtain ⟨x, hx, e⟩ := List.mem_map.1 h
    obtain ⟨h1, h2⟩ := List.mem_filter.1 hx
    have hg : get? W tag = some x.2 := by rw [← e]; exact (get?_iff u.nodup).2 h1
    rw [hg]
    simp only [cD, Bool.not_or, Bool.and_eq_true] at h2
    exact h2.1
theorem findO_doc {W : URow} (u : Up W) {tag : Int} (h0 : 0 ≤ tag) (many : Bool) : findO W tag many = if decide (tag ∈ oD W tag many) || (many && tag == 0) then some (oD W tag many) else none := by
  unfold findO
  rw [oD_open u tag many]
  by_cases hc : (decide (tag ∈ oD W tag many) || (many && tag == 0)) = true
  · rw [if_pos hc, if_pos hc]
    congr 1
    cases many with
    | true =>
      rw [if_pos rfl]
      unfold findU oD
      congr 1
      refine List.filter_congr fun x _ => ?_
      unfold cD
      rw [Bool.eq_iff_iff]
      simp
      omega
    | false =>
      rw [if_neg (by simp)]
      simp only [Bool.false_and, Bool.or_false, decide_eq_true_eq] at hc
      have nd : (oD W tag false).Nodup := (List.filter_sublist.map _).nodup u.nodup
      have all : ∀ y ∈ oD W tag false, y = tag := fun y hy => by
        obtain ⟨x, hx, e⟩ := List.mem_map.1 hy
        have h2 := (List.mem_filter.1 hx).2
        simp [cD] at h2
        rw [← e]; exact h2.2
      generalize oD W tag false = Z at hc nd all
      cases Z with
      | nil => cases hc
      | cons z r =>
        cases r with
        | nil => rw [all z (by simp)]
        | cons y r =>
          rw [List.nodup_cons] at nd
          exact absurd (by rw [all z (by simp), all y (by simp)]; simp) nd.1
  · rw [if_neg hc, if_neg hc]

section
variable {K : KT} {L : List Asr} {h : Heap} {w : Addr} {W : URow} {s : SV} {last : Int}
theorem dTag_get {k : Nat} {x} (hx : W[k]? = some x) (S : St (DuL w s W last L) h) : ∃ p, s.1 = some p ∧ (0 : Int) ≤ (k : Int) ∧ (k : Int) < ((s.2.1 : Nat) : Int) ∧ (∀ i v, (dTag x)[i]? = some v → hcell h (Addr.add (Addr.add p (Int.toNat (k : Int) * 4)) i) = some v) :=
  ixF dTag4 (by decide) (S.isl 4 s) rfl hx

theorem findU_loop {tag : Int} {many : Bool} (hl : W.length < 1000000)
    (hK : ∀ h' o, St (Ow 1 o ((oD W tag many).map kkU) :: DuL w s W last L) h' → waybillref16_Unak_Find.j1 K tag many o.1 o.2.1 o.2.2 (decide (tag ∈ oD W tag many)) h') :
    ∀ (fuel i : Nat) (o : SV) (h : Heap), W.length - i < fuel → i ≤ W.length → o.2.1 ≤ i → St (Ow 1 o ((oD (W.take i) tag many).map kkU) :: DuL w s W last L) h → waybillref16_Unak_Find.L2 K fuel (some w) tag many o.1 o.2.1 o.2.2 (decide (tag ∈ oD (W.take i) tag many)) i h
  | 0, _, _, _, hf, _, _, _ => absurd hf (Nat.not_lt_zero _)
  | fuel + 1, i, o, h, hf, hi, ho, S => by
    obtain ⟨e1, e2⟩ := DuL.len S.tl
    unfold waybillref16_Unak_Find.L2
    refine ⟨w, rfl, _, _, _, S.p1.c 0 rfl, ?_⟩
    by_cases hlt : i < W.length
    · have hx : W[i]? = some W[i] := List.getElem?_eq_getElem hlt
      have st := oD_step (tag := tag) (many := many) hlt
      refine ifT (by simp; omega) ⟨w, rfl, _, _, _, S.p1.c 0 rfl, ixS dTag4 (by decide) (S.tl.isl 4 s) rfl hx ?_⟩
      refine St.bd1 (cs := [.int .u64 0, .string (mkS []), .int .u64 0, .bool false]) S fun S1 => ⟨rfl, S1.wrA (ws := dTag W[i]) rfl (dTag_one _) fun h2 S2 => ⟨_, S2.c 3 rfl, ?_⟩⟩
      generalize top h = bx at *
      have next : ∀ (o' : SV) (b : Bool) (h' : Heap), o'.2.1 ≤ i + 1 → b = decide (tag ∈ oD (W.take (i + 1)) tag many) → St (Ow 1 o' ((oD (W.take (i + 1)) tag many).map kkU) :: DuL w s W last L) h' → waybillref16_Unak_Find.j3 K (waybillref16_Unak_Find.L2 K fuel) (some w) tag many o'.1 o'.2.1 o'.2.2 b i h' := fun o' b h' ho' eb S' => by
        unfold waybillref16_Unak_Find.j3
        unfold bd
        rw [show IntKind.i64.wrap ((i : Int) + 1) = ((i + 1 : Nat) : Int) from wrapS (by omega) (by omega), eb]
        exact findU_loop hl hK fuel (i + 1) o' h' (by omega) (by omega) ho' S'
      have j4 : ∀ b : Bool, b = !cD tag many W[i] → waybillref16_Unak_Find.j4 K (waybillref16_Unak_Find.L2 K fuel) (some w) tag many o.1 o.2.1 o.2.2 (decide (tag ∈ oD (W.take i) tag many)) i bx b h2 := fun b eb => by
        unfold waybillref16_Unak_Find.j4
        cases hc : cD tag many W[i] with
        | false =>
          rw [hc] at eb
          subst eb
          rw [hc, if_neg (by simp), List.append_nil] at st
          exact ifT rfl (next o _ h2 (by omega) (by rw [st]) (by rw [st]; exact S2.tl))
        | true =>
          rw [hc] at eb
          subst eb
          rw [hc, if_pos rfl] at st
          refine ifF rfl ⟨_, S2.c 0 rfl, ?_⟩
          refine St.bd1 (cs := [.int .u64 W[i].1]) S2 fun S3 => ?_
          have sa : Sl 1 (al h2 [Value.int .u64 W[i].1].toArray T.uint64) (some (top h2)) 1 [.int .u64 W[i].1] := ⟨rfl, S3.mem.1⟩
          refine S3.p2.app sl_u64' rfl u_slu' (fun k e => by cases e) (Src.slice (n := 1) (c := 1) sa (by simp [one])) (by omega) (by omega) fun p' c' h' S' => ⟨_, _, _, rfl, ?_⟩
          have S5 : St (Ow 1 (p', o.2.1 + 1, c') ((oD (W.take (i + 1)) tag many).map kkU) :: DuL w s W last L) h' := by rw [st, List.map_append]; exact S'.d1.d1
          by_cases hw : tag ∈ oD (W.take i) tag many
          · refine ifT' (by simpa using hw) (next (p', o.2.1 + 1, c') true h' (by show o.2.1 + 1 ≤ i + 1; omega) ?_ S5)
            rw [st]; simp [hw]
          · refine ifF' (by simpa using hw) ⟨_, S'.p2.c 0 rfl, ?_⟩
            unfold bd
            refine next (p', o.2.1 + 1, c') _ h' (by show o.2.1 + 1 ≤ i + 1; omega) ?_ S5
            rw [st, Bool.eq_iff_iff]
            simp only [List.mem_append, List.mem_singleton, decide_eq_true_eq, beq_iff_eq]
            exact ⟨fun e => .inr e.symm, fun e => e.elim (fun e => absurd e hw) Eq.symm⟩
      have ec : (!cD tag many W[i]) = (W[i].2.2 || ((!many && W[i].1 != tag) || (many && (decide (tag > 0) && decide (W[i].1 > tag))))) := by unfold cD; rw [Bool.not_not]
      cases hm : W[i].2.2 with
      | true => exact ifT' rfl (j4 true (by rw [ec, hm]; rfl))
      | false =>
        refine ifF' rfl ?_
        cases many with
        | false =>
          refine ifT rfl ⟨_, S2.c 0 rfl, ?_⟩
          cases hn : (W[i].1 != tag) with
          | true => exact ifT' rfl (j4 true (by rw [ec, hm, hn]; rfl))
          | false => exact ifF' rfl (ifF rfl (j4 false (by rw [ec, hm, hn]; rfl)))
        | true =>
          refine ifF rfl (ifF' rfl (ifT rfl ?_))
          cases ht : decide (tag > 0) with
          | true => exact ifT rfl ⟨_, S2.c 0 rfl, j4 _ (by rw [ec, hm, ht]; simp)⟩
          | false => exact ifF rfl (j4 false (by rw [ec, hm, ht]; simp))
    · refine ifF (by simp; omega) ?_
      rw [List.take_of_length_le (by omega)] at S ⊢
      exact hK h o S

theorem findU16 {tag : Int} {many : Bool} (S : St (DuW w W last :: L) h) (u : Up W) (h0 : 0 ≤ tag) (hl : W.length < 1000000)
    (hK : ∀ h' o, St (Ow 1 o (((findO W tag many).getD []).map kkU) :: DuW w W last :: L) h' → K (.tuple #[.slice o.1 o.2.1 o.2.2, .bool (findO W tag many).isSome]) h') :
    CallsH P F.waybillref16_Unak_Find [.pointer (some w), .int .u64 tag, .bool many] K h := by
  obtain ⟨s, S⟩ := DuW.out S
  refine waybillref16_Unak_Find.ok ?_
  unfold waybillref16_Unak_Find.p0
  refine ⟨W.length + 1, findU_loop (many := many) hl (fun h' o S' => ?_) _ 0 (none, 0, 0) h (by omega) (by omega) (by simp) (S.owNil 1)⟩
  rw [findO_doc u h0] at hK
  have S2 : St (Ow 1 o ((oD W tag many).map kkU) :: DuW w W last :: L) h' := (DuW.inn (s := s) S'.p2.p2).p1
  have kN : (decide (tag ∈ oD W tag many) || (many && tag == 0)) = false → K (.tuple #[.slice none 0 0, .bool false]) h' := fun e => by
    rw [e] at hK
    have := hK h' (none, 0, 0)
    simp only [Bool.false_eq_true, if_false, Option.getD_none, List.map_nil, Option.isSome_none] at this
    exact this (S2.tl.owNil 1)
  have kS : (decide (tag ∈ oD W tag many) || (many && tag == 0)) = true → K (.tuple #[.slice o.1 o.2.1 o.2.2, .bool true]) h' := fun e => by
    rw [e] at hK
    have := hK h' o
    simp only [if_true, Option.getD_some, Option.isSome_some] at this
    exact this S2
  unfold waybillref16_Unak_Find.j1
  cases hw : decide (tag ∈ oD W tag many) with
  | true => exact ifF rfl (ifF rfl (kS (by rw [hw]; rfl)))
  | false =>
    rw [hw] at kN kS
    refine ifT rfl ?_
    cases many with
    | false => exact ifF rfl (ifT rfl (kN rfl))
    | true =>
      refine ifT rfl ?_
      cases hz : (tag == 0) with
      | true => exact ifF rfl (kS (by rw [hz]; rfl))
      | false => exact ifT rfl (kN (by rw [hz]; rfl))

theorem mark_loopU {nx t : SV} {ts : List Int} (hl : W.length < 1000000) (hlt : ts.length < 1000000) [In (Im 1 t) L (ts.map kkU)] (hK : ∀ h', St (DuW w (markU W fun k => decide (k ∈ ts)) last :: L) h' → K (.tuple #[]) h') :
    ∀ (fuel i : Nat) (h : Heap), W.length - i < fuel → i ≤ W.length → St (Ow 4 nx ((((W.take i).map fun x => (x.1, (x.2.1, x.2.2 || decide (x.1 ∈ ts)))) ++ W.drop i).flatMap dTag) :: DuL w s W last L) h → waybillref16_Unak_Mark.L2 K fuel (some w) t.1 t.2.1 t.2.2 nx.1 nx.2.1 nx.2.2 i h
  | 0, _, _, hf, _, _ => absurd hf (Nat.not_lt_zero _)
  | fuel + 1, i, h, hf, hi, S => by
    have el : nx.2.1 = W.length := by have := S.ow.1; rw [dTag_len, List.length_append, List.length_map, List.length_take, List.length_drop] at this; omega
    unfold waybillref16_Unak_Mark.L2
    by_cases hw : i < W.length
    · have hx : (((W.take i).map fun x => (x.1, (x.2.1, x.2.2 || decide (x.1 ∈ ts)))) ++ W.drop i)[i]? = some W[i] := by
        rw [List.getElem?_append_right (by simp; omega)]
        simp [Nat.min_eq_left (Nat.le_of_lt hw), hw]
      have m := S.sl
      obtain ⟨p, ep, p0, p1, pc⟩ := ixF dTag4 (by decide) m (i := (i : Int)) rfl hx
      have ms := map_set_step (fun x : Int × (Hld × Bool) => (x.1, (x.2.1, x.2.2 || decide (x.1 ∈ ts)))) W hw
      have next : ∀ h', St (Ow 4 nx (((((W.take i).map fun x => (x.1, (x.2.1, x.2.2 || decide (x.1 ∈ ts)))) ++ W.drop i).set i (W[i].1, (W[i].2.1, W[i].2.2 || decide (W[i].1 ∈ ts)))).flatMap dTag) :: DuL w s W last L) h' → waybillref16_Unak_Mark.j3 K (waybillref16_Unak_Mark.L2 K fuel) (some w) t.1 t.2.1 t.2.2 nx.1 nx.2.1 nx.2.2 i h' := fun h' S' => by
        unfold waybillref16_Unak_Mark.j3
        unfold bd
        rw [show IntKind.i64.wrap ((i : Int) + 1) = ((i + 1 : Nat) : Int) from wrapS (by omega) (by omega)]
        rw [ms] at S'
        exact mark_loopU hl hlt hK fuel (i + 1) h' (by omega) (by omega) S'
      refine ifT (by simp; omega) ⟨p, ep, p0, p1, _, pc 3 _ rfl, ?_⟩
      have put : ∀ b : Bool, b = (W[i].2.2 || decide (W[i].1 ∈ ts)) → ∃ p17, nx.1 = some p17 ∧ (0 : Int) ≤ (i : Int) ∧ (i : Int) < ((nx.2.1 : Nat) : Int) ∧ ∃ h18, stC h (Addr.add (Addr.add p17 (Int.toNat (i : Int) * 4)) 3) 0 [.bool b] = some h18 ∧ waybillref16_Unak_Mark.j3 K (waybillref16_Unak_Mark.L2 K fuel) (some w) t.1 t.2.1 t.2.2 nx.1 nx.2.1 nx.2.2 i h18 := fun b eb => by
        obtain ⟨a, a1, a2, a3, h', a4, S'⟩ := S.owSetF dTag4 (by decide) (i := (i : Int)) (n := i) rfl hx (x' := (W[i].1, (W[i].2.1, b))) (k := 3) (by decide) (v := .bool b) rfl rfl
        rw [eb] at S' a4
        exact ⟨a, a1, a2, a3, h', by rw [eb]; exact a4, next h' S'⟩
      cases hb : W[i].2.2 with
      | true => exact ifT' rfl (put true (by rw [hb]; rfl))
      | false =>
        refine ifF' rfl ⟨p, ep, p0, p1, _, pc 0 _ rfl, ?_⟩
        exact in16 hlt (S.tl.tl.tl.isl 1 t) ⟨_, rfl, put _ (by rw [hb]; rfl)⟩
    · refine ifF (by simp; omega) ?_
      unfold waybillref16_Unak_Mark.j1
      rw [List.take_of_length_le (by omega), List.drop_eq_nil_of_le (by omega), List.append_nil] at S
      exact ⟨w, rfl, finU (n := last) (L := L) S w rfl hK⟩
theorem markU16 {t : SV} {ts : List Int} [In (Im 1 t) L (ts.map kkU)] (S : St (DuW w W last :: L) h) (hl : W.length < 1000000) (hlt : ts.length < 1000000) (hK : ∀ h', St (DuW w (markU W fun k => decide (k ∈ ts)) last :: L) h' → K (.tuple #[]) h') :
    CallsH P F.waybillref16_Unak_Mark [.pointer (some w), t.v] K h := by
  obtain ⟨s, S⟩ := DuW.out S
  obtain ⟨e1, e2⟩ := DuL.len S
  refine waybillref16_Unak_Mark.ok ?_
  unfold waybillref16_Unak_Mark.p0
  refine St.bd0 (sz := 4) S fun S => ⟨w, rfl, _, _, _, S.rc w 0 rfl, ?_⟩
  refine tAppW (q := s.1) (l' := s.2.1) (c' := s.2.2) (X := W) S (by omega) fun p c h1 S => ⟨_, _, _, rfl, W.length + 1, ?_⟩
  exact mark_loopU (nx := (p, 0 + s.2.1, c)) (t := t) (s := s) hl hlt hK _ 0 h1 (by omega) (by omega) (by simpa using S)

theorem clear_loopU {nx : SV} (hl : W.length < 1000000) (hK : ∀ h', St (DuW w (W.map fun x => (x.1, (x.2.1, false))) last :: L) h' → K (.tuple #[]) h') :
    ∀ (fuel i : Nat) (h : Heap), W.length - i < fuel → i ≤ W.length → St (Ow 4 nx ((((W.take i).map fun x => (x.1, (x.2.1, false))) ++ W.drop i).flatMap dTag) :: DuL w s W last L) h → waybillref16_Unak_Clear.L2 K fuel (some w) nx.1 nx.2.1 nx.2.2 i h
  | 0, _, _, hf, _, _ => absurd hf (Nat.not_lt_zero _)
  | fuel + 1, i, h, hf, hi, S => by
    have el : nx.2.1 = W.length := by have := S.ow.1; rw [dTag_len, List.length_append, List.length_map, List.length_take, List.length_drop] at this; omega
    unfold waybillref16_Unak_Clear.L2
    by_cases hw : i < W.length
    · have hx : (((W.take i).map fun x => (x.1, (x.2.1, false))) ++ W.drop i)[i]? = some W[i] := by
        rw [List.getElem?_append_right (by simp; omega)]
        simp [Nat.min_eq_left (Nat.le_of_lt hw), hw]
      have ms := map_set_step (fun x : Int × (Hld × Bool) => (x.1, (x.2.1, false))) W hw
      obtain ⟨a, a1, a2, a3, h', a4, S'⟩ := S.owSetF dTag4 (by decide) (i := (i : Int)) (n := i) rfl hx (x' := (W[i].1, (W[i].2.1, false))) (k := 3) (by decide) (v := .bool false) rfl rfl
      refine ifT (by simp; omega) ⟨a, a1, a2, a3, h', a4, ?_⟩
      unfold bd
      rw [show IntKind.i64.wrap ((i : Int) + 1) = ((i + 1 : Nat) : Int) from wrapS (by omega) (by omega)]
      rw [ms] at S'
      exact clear_loopU hl hK fuel (i + 1) h' (by omega) (by omega) S'
    · refine ifF (by simp; omega) ?_
      unfold waybillref16_Unak_Clear.j1
      rw [List.take_of_length_le (by omega), List.drop_eq_nil_of_le (by omega), List.append_nil] at S
      exact ⟨w, rfl, finU (n := last) (L := L) S w rfl hK⟩
theorem clearU16 (S : St (DuW w W last :: L) h) (hl : W.length < 1000000) (hK : ∀ h', St (DuW w (W.map fun x => (x.1, (x.2.1, false))) last :: L) h' → K (.tuple #[]) h') :
    CallsH P F.waybillref16_Unak_Clear [.pointer (some w)] K h := by
  obtain ⟨s, S⟩ := DuW.out S
  obtain ⟨e1, e2⟩ := DuL.len S
  refine waybillref16_Unak_Clear.ok ?_
  unfold waybillref16_Unak_Clear.p0
  refine St.bd0 (sz := 4) S fun S => ⟨w, rfl, _, _, _, S.rc w 0 rfl, ?_⟩
  refine tAppW (q := s.1) (l' := s.2.1) (c' := s.2.2) (X := W) S (by omega) fun p c h1 S => ⟨_, _, _, rfl, W.length + 1, ?_⟩
  exact clear_loopU (nx := (p, 0 + s.2.1, c)) (s := s) hl hK _ 0 h1 (by omega) (by omega) (by simpa using S)

theorem hold_part {k : Nat} {x} (hx : W[k]? = some x) (m : Sl 4 h s.1 s.2.1 (W.flatMap dTag)) : ∃ p, s.1 = some p ∧ (0 : Int) ≤ (k : Int) ∧ (k : Int) < ((s.2.1 : Nat) : Int) ∧ rdC h (Addr.add (Addr.add p (Int.toNat (k : Int) * 4)) 1) 0 2 = some (hdc x.2.1) := by
  obtain ⟨p, ep, p0, p1, pc⟩ := ixF dTag4 (by decide) m (i := (k : Int)) rfl hx
  refine ⟨p, ep, p0, p1, ?_⟩
  obtain ⟨a, ea, ha, _⟩ := Sl.elem dTag4 m (by decide) hx
  rw [ep] at ea
  cases ea
  rw [Int.toNat_natCast]
  exact (((ha.drop 1).take 2).rd rfl)

theorem all_loopU (hl : W.length < 1000000) (hK : ∀ h' o, St (Ow 2 o ((W.map fun x => x.2.1).flatMap hdc) :: DuW w [] last :: L) h' → K (.slice o.1 o.2.1 o.2.2) h') :
    ∀ (fuel i : Nat) (o : SV) (h : Heap), W.length - i < fuel → i ≤ W.length → o.2.1 = i → St (Ow 2 o (((W.take i).map fun x => x.2.1).flatMap hdc) :: DuL w s W last L) h → waybillref16_Unak_All.L2 K fuel (some w) o.1 o.2.1 o.2.2 i h
  | 0, _, _, _, hf, _, _, _ => absurd hf (Nat.not_lt_zero _)
  | fuel + 1, i, o, h, hf, hi, ho, S => by
    obtain ⟨e1, e2⟩ := DuL.len S.tl
    unfold waybillref16_Unak_All.L2
    refine ⟨w, rfl, _, _, _, S.p1.c 0 rfl, ?_⟩
    by_cases hw : i < W.length
    · have hx : W[i]? = some W[i] := List.getElem?_eq_getElem hw
      obtain ⟨p, ep, p0, p1, rd⟩ := hold_part hx (S.tl.isl 4 s)
      refine ifT (by simp; omega) ⟨w, rfl, _, _, _, S.p1.c 0 rfl, p, ep, p0, p1, _, rd, hdc W[i].2.1, bld_hold _ _, ?_⟩
      refine St.bd1 (cs := hdc W[i].2.1) S fun S1 => ?_
      have sa : Sl 2 (al h (hdc W[i].2.1).toArray T.api_Hold) (some (top h)) 1 (hdc W[i].2.1) := ⟨rfl, S1.mem.1⟩
      refine S1.p1.app sl_hold rfl u_slh (fun k e => by cases e) (Src.slice (n := 1) (c := 1) sa (by simp [one])) (by omega) (by omega) fun p' c' h' S' => ⟨_, _, _, rfl, ?_⟩
      unfold bd
      rw [show IntKind.i64.wrap ((i : Int) + 1) = ((i + 1 : Nat) : Int) from wrapS (by omega) (by omega)]
      refine all_loopU hl hK fuel (i + 1) (p', o.2.1 + 1, c') h' (by omega) (by omega) (by show o.2.1 + 1 = i + 1; omega) ?_
      rw [show W.take (i + 1) = W.take i ++ [W[i]] by rw [List.take_add_one, hx]; rfl, List.map_append, List.flatMap_append, show ([W[i]].map fun x => x.2.1).flatMap hdc = hdc W[i].2.1 by simp]
      exact S'.d1
    · refine ifF (by simp; omega) ?_
      unfold waybillref16_Unak_All.j1
      rw [List.take_of_length_le (by omega)] at S
      refine ⟨w, rfl, S.p1.wr 0 (by simp) rfl fun h2 S2 => hK h2 o ?_⟩
      have S3 : St (Bx w [.slice none 0 0, .int .u64 last] :: Ow 2 o ((W.map fun x => x.2.1).flatMap hdc) :: Im 4 s (W.flatMap dTag) :: L) h2 := S2
      exact (DuW.inn (s := (none, 0, 0)) (W := []) (S3.p2.tl.imNil 4 0).p1).p1
theorem allU16 (S : St (DuW w W last :: L) h) (hl : W.length < 1000000) (hK : ∀ h' o, St (Ow 2 o ((W.map fun x => x.2.1).flatMap hdc) :: DuW w [] last :: L) h' → K (.slice o.1 o.2.1 o.2.2) h') : CallsH P F.waybillref16_Unak_All [.pointer (some w)] K h := by
  obtain ⟨s, S⟩ := DuW.out S
  refine waybillref16_Unak_All.ok ?_
  unfold waybillref16_Unak_All.p0
  exact ⟨W.length + 1, all_loopU (s := s) hl hK _ 0 (none, 0, 0) h (by omega) (by omega) rfl (S.owNil 2)⟩

theorem take_loopU {t : SV} {ts : List Int} (hl : W.length < 1000000) (hlt : ts.length < 1000000) [In (Im 1 t) L (ts.map kkU)] (hK : ∀ h' o, St (Ow 2 o ((inU W ts).flatMap hdc) :: DuW w (outU W ts) last :: L) h' → K (.slice o.1 o.2.1 o.2.2) h') :
    ∀ (fuel i : Nat) (o r : SV) (h : Heap), W.length - i < fuel → i ≤ W.length → o.2.1 ≤ i → r.2.1 ≤ i → St (Ow 2 o ((inU (W.take i) ts).flatMap hdc) :: Ow 4 r ((outU (W.take i) ts).flatMap dTag) :: DuL w s W last L) h → waybillref16_Unak_Take.L2 K fuel (some w) t.1 t.2.1 t.2.2 o.1 o.2.1 o.2.2 r.1 r.2.1 r.2.2 i h
  | 0, _, _, _, _, hf, _, _, _, _ => absurd hf (Nat.not_lt_zero _)
  | fuel + 1, i, o, r, h, hf, hi, ho, hr, S => by
    obtain ⟨e1, e2⟩ := DuL.len S.tl.tl
    unfold waybillref16_Unak_Take.L2
    refine ⟨w, rfl, _, _, _, S.p2.c 0 rfl, ?_⟩
    by_cases hw : i < W.length
    · have hx : W[i]? = some W[i] := List.getElem?_eq_getElem hw
      have et : W.take (i + 1) = W.take i ++ [W[i]] := by rw [List.take_add_one, hx]; rfl
      obtain ⟨p, ep, p0, p1, pc⟩ := dTag_get hx S.tl.tl
      refine ifT (by simp; omega) ⟨w, rfl, _, _, _, S.p2.c 0 rfl, p, ep, p0, p1, _, pc 0 _ rfl, ?_⟩
      have next : ∀ (o' r' : SV) (h' : Heap), o'.2.1 ≤ i + 1 → r'.2.1 ≤ i + 1 → St (Ow 2 o' ((inU (W.take (i + 1)) ts).flatMap hdc) :: Ow 4 r' ((outU (W.take (i + 1)) ts).flatMap dTag) :: DuL w s W last L) h' → waybillref16_Unak_Take.j3 K (waybillref16_Unak_Take.L2 K fuel) (some w) t.1 t.2.1 t.2.2 o'.1 o'.2.1 o'.2.2 r'.1 r'.2.1 r'.2.2 i h' := fun o' r' h' ho' hr' S' => by
        unfold waybillref16_Unak_Take.j3
        unfold bd
        rw [show IntKind.i64.wrap ((i : Int) + 1) = ((i + 1 : Nat) : Int) from wrapS (by omega) (by omega)]
        exact take_loopU hl hlt hK fuel (i + 1) o' r' h' (by omega) (by omega) ho' hr' S'
      refine in16 hlt (S.tl.tl.tl.tl.isl 1 t) ⟨_, rfl, ?_⟩
      by_cases hm : W[i].1 ∈ ts
      · obtain ⟨q, eq, q0, q1, rd⟩ := hold_part hx (S.tl.tl.isl 4 s)
        refine ifT (by simpa using hm) ⟨w, rfl, _, _, _, S.p2.c 0 rfl, q, eq, q0, q1, _, rd, hdc W[i].2.1, bld_hold _ _, ?_⟩
        refine St.bd1 (cs := hdc W[i].2.1) S fun S1 => ?_
        have sa : Sl 2 (al h (hdc W[i].2.1).toArray T.api_Hold) (some (top h)) 1 (hdc W[i].2.1) := ⟨rfl, S1.mem.1⟩
        refine S1.p1.app sl_hold rfl u_slh (fun k e => by cases e) (Src.slice (n := 1) (c := 1) sa (by simp [one])) (by omega) (by omega) fun p' c' h' S' => ⟨_, _, _, rfl, ?_⟩
        refine next (p', o.2.1 + 1, c') r h' (by show o.2.1 + 1 ≤ i + 1; omega) (by omega) ?_
        have i1 : inU (W.take (i + 1)) ts = inU (W.take i) ts ++ [W[i].2.1] := by unfold inU; rw [et, List.filter_append, List.filter_cons_of_pos (by simpa using hm), List.map_append]; rfl
        have i2 : outU (W.take (i + 1)) ts = outU (W.take i) ts := by unfold outU; rw [et, List.filter_append, List.filter_cons_of_neg (by simpa using hm)]; simp
        rw [i1, i2, List.flatMap_append, List.flatMap_cons, List.flatMap_nil, List.append_nil]
        exact S'.d1
      · refine ifF (by simpa using hm) ⟨w, rfl, _, _, _, S.p2.c 0 rfl, ixS dTag4 (by decide) (S.tl.tl.isl 4 s) rfl hx ?_⟩
        refine ⟨dTag W[i], bld_tag _, ?_⟩
        refine St.bd1 (cs := dTag W[i]) S fun S1 => ?_
        have sa : Sl 4 (al h (dTag W[i]).toArray T.waybillref16_Tagged) (some (top h)) 1 (dTag W[i]) := ⟨rfl, S1.mem.1⟩
        refine S1.p2.app sl_tag rfl u_slt (fun k e => by cases e) (Src.slice (n := 1) (c := 1) sa (dTag_one _)) (by omega) (by omega) fun p' c' h' S' => ⟨_, _, _, rfl, ?_⟩
        refine next o (p', r.2.1 + 1, c') h' (by omega) (by show r.2.1 + 1 ≤ i + 1; omega) ?_
        have i1 : outU (W.take (i + 1)) ts = outU (W.take i) ts ++ [W[i]] := by unfold outU; rw [et, List.filter_append, List.filter_cons_of_pos (by simpa using hm)]; rfl
        have i2 : inU (W.take (i + 1)) ts = inU (W.take i) ts := by unfold inU; rw [et, List.filter_append, List.filter_cons_of_neg (by simpa using hm)]; simp
        rw [i1, i2, List.flatMap_append, List.flatMap_cons, List.flatMap_nil, List.append_nil]
        exact S'.d1.p1
    · refine ifF (by simp; omega) ?_
      unfold waybillref16_Unak_Take.j1
      rw [List.take_of_length_le (by omega)] at S
      exact ⟨w, rfl, finU (n := last) (L := Ow 2 o ((inU W ts).flatMap hdc) :: L) (W' := outU W ts) S w rfl fun h2 S2 => hK h2 o S2.p1⟩
theorem takeU16 {t : SV} {ts : List Int} [In (Im 1 t) L (ts.map kkU)] (S : St (DuW w W last :: L) h) (hl : W.length < 1000000) (hlt : ts.length < 1000000) (hK : ∀ h' o, St (Ow 2 o ((inU W ts).flatMap hdc) :: DuW w (outU W ts) last :: L) h' → K (.slice o.1 o.2.1 o.2.2) h') :
    CallsH P F.waybillref16_Unak_Take [.pointer (some w), t.v] K h := by
  obtain ⟨s, S⟩ := DuW.out S
  refine waybillref16_Unak_Take.ok ?_
  unfold waybillref16_Unak_Take.p0
  exact ⟨W.length + 1, take_loopU (s := s) (t := t) hl hlt hK _ 0 (none, 0, 0) (none, 0, 0) h (by omega) (by omega) (by simp) (by simp) ((S.owNil 4).owNil 2)⟩
end
end Go.Proofs.Ytechpnlbkkfplaa.Pr
