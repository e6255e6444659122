/- cons: what its functions do, as one row of consumers in order. -/
import Derived.Test.YtechpnlbkkfplaaLiftF
import Derived.Test.YtechpnlbkkfplaaLiftW
import Derived.Test.YtechpnlbkkfplaaLiftIt
import Derived.Test.YtechpnlbkkfplaaLawsC
import Derived.Test.YtechpnlbkkfplaaKeysInt
import Derived.Test.YtechpnlbkkfplaaPrSlicesGCon
import Derived.Test.YtechpnlbkkfplaaPrCons
set_option linter.unusedVariables false
set_option linter.unusedSimpArgs false
namespace Go.Proofs.Ytechpnlbkkfplaa.Pr
open Go Go.Lift Go.Proofs

/-- A consumer: connection, channel, tag, queue, without acknowledgement. -/
abbrev CN := Int × Int × List UInt8 × List UInt8 × Bool
abbrev cc (x : CN) : List Value := [.int .i64 x.1, .int .i64 x.2.1, .string (mkS x.2.2.1), .string (mkS x.2.2.2.1), .bool x.2.2.2.2]
abbrev zc : List Value := [.int .i64 0, .int .i64 0, .string (mkS []), .string (mkS []), .bool false]
abbrev vvC : CN → Value := fun x => .agg #[.int .i64 x.1, .int .i64 x.2.1, .string (mkS x.2.2.1), .string (mkS x.2.2.2.1), .bool x.2.2.2.2]
abbrev WH := Int × Int × List UInt8
abbrev wc (w : WH) : List Value := [.int .i64 w.1, .int .i64 w.2.1, .string (mkS w.2.2)]
abbrev kkW : WH → Value := fun w => .agg #[.int .i64 w.1, .int .i64 w.2.1, .string (mkS w.2.2)]
abbrev kkI : Int → Value := fun n => .int .i64 n
abbrev vvN : Int → Value := fun n => .int .i64 n
abbrev keyC (c : CN) : WH := (c.1, c.2.1, c.2.2.1)
abbrev quC (c : CN) : List UInt8 := c.2.2.2.1
theorem cc5 : ∀ x : CN, (cc x).length = 5 := fun _ => rfl
theorem cc_one : ∀ x : CN, ∀ w ∈ cc x, one w = true := fun x => by simp [one]
theorem cc_len (xs : List CN) : (xs.flatMap cc).length = xs.length * 5 := flat_length cc5 xs
theorem umC : P.underlying T.map_int_api_Con = some (.map T.int T.api_Con) := by kernel_rfl
theorem umW : P.underlying T.map_cons_who_int = some (.map T.cons_who T.int) := by kernel_rfl
theorem zCon : (P.info? T.api_Con).bind (·.zero) = some (.agg #[.int .i64 0, .int .i64 0, .string (mkS []), .string (mkS []), .bool false]) := by kernel_rfl
theorem zInt : (P.info? T.int).bind (·.zero) = some (.int .i64 0) := by kernel_rfl
theorem klI : KeyL P T.int kkI := KeyL.int (by kernel_rfl)
theorem sl_con : SlT P T.sl_api_Con T.api_Con 5 56 zc := slT (by kernel_rfl) (by kernel_rfl)
theorem u_slc : P.underlying T.sl_api_Con = some (.slice T.api_Con) := by kernel_rfl
theorem bld_con' : (fun a b c d e : Value => Instr.fill (Lift.places P (P.underlying T.sl_api_Con)) (zrow (zcl P T.api_Con).toList 1 (P.cellsOf T.api_Con)).toArray [(0, .agg (List.toArray [a, b, c, d, e]))]) = fun a b c d e => some (List.toArray [a, b, c, d, e]) := by kernel_rfl
theorem bld_con (x : CN) : bldS P T.sl_api_Con T.api_Con 1 [(0, .agg (List.toArray (cc x)))] (cc x) := congrFun (congrFun (congrFun (congrFun (congrFun bld_con' _) _) _) _) _

/-! ### The keys -/
theorem who_fields : P.fieldsOf T.cons_who = #[⟨"conn", T.int, 0, false, "", "waybill/cons", 0⟩, ⟨"ch", T.int, 1, false, "", "waybill/cons", 8⟩, ⟨"tag", T.string, 2, false, "", "waybill/cons", 16⟩] := by kernel_rfl
theorem who_und : P.underlying T.cons_who = some (.struct (P.fieldsOf T.cons_who)) := by kernel_rfl
theorem who_held : P.stoodInHeld T.cons_who = false := by kernel_rfl
theorem cu_int : P.underlying T.int = some (.int .i64) := by kernel_rfl
theorem cu_str : P.underlying T.string = some .string := by kernel_rfl
theorem eqFields_step' {d : Nat} {xs ys : Array Value} {f : Field} {fs : List Field} {u v : Value} {c : Bool} {w : World} (hn : f.name ≠ "_") (h1 : (part f.type xs f.offset).run P w = .ok u w) (h2 : (part f.type ys f.offset).run P w = .ok v w)
    (h3 : (Op.equalIn d f.type u v).run P w = .ok c w) : (Op.eqFields d xs ys (f :: fs)).run P w = if c = true then (Op.eqFields d xs ys fs).run P w else .ok false w := by
  conv => lhs; unfold Op.eqFields
  rw [if_pos hn, Sem.run_bind, h1, Result.andThen_ok, Sem.run_bind, h2, Result.andThen_ok, Sem.run_bind, h3, Result.andThen_ok]
  cases c <;> simp
theorem whoFields (a b : WH) (w : World) : (Op.eqFields 9999 (List.toArray (wc a)) (List.toArray (wc b)) (P.fieldsOf T.cons_who).toList).run P w = .ok (decide (a = b)) w := by
  have p0 : ∀ (z : WH) (w : World), (part T.int (List.toArray (wc z)) 0).run P w = .ok (.int .i64 z.1) w := fun z w => run_part_scalar (by kernel_rfl) rfl
  have p1 : ∀ (z : WH) (w : World), (part T.int (List.toArray (wc z)) 1).run P w = .ok (.int .i64 z.2.1) w := fun z w => run_part_scalar (by kernel_rfl) rfl
  have p2 : ∀ (z : WH) (w : World), (part T.string (List.toArray (wc z)) 2).run P w = .ok (.string (mkS z.2.2)) w := fun z w => run_part_scalar (by kernel_rfl) rfl
  have i0 := run_equalIn_int (P := P) w 9998 T.int .i64 .i64 a.1 b.1 cu_int
  have i1 := run_equalIn_int (P := P) w 9998 T.int .i64 .i64 a.2.1 b.2.1 cu_int
  have i2 := run_equalIn_string (P := P) w 9998 T.string (mkS a.2.2) (mkS b.2.2) cu_str
  rw [who_fields]
  have s0 := fun fs => eqFields_step' (w := w) (f := ⟨"conn", T.int, 0, false, "", "waybill/cons", 0⟩) (fs := fs) (by decide) (p0 a w) (p0 b w) i0
  have s1 := fun fs => eqFields_step' (w := w) (f := ⟨"ch", T.int, 1, false, "", "waybill/cons", 8⟩) (fs := fs) (by decide) (p1 a w) (p1 b w) i1
  have s2 := fun fs => eqFields_step' (w := w) (f := ⟨"tag", T.string, 2, false, "", "waybill/cons", 16⟩) (fs := fs) (by decide) (p2 a w) (p2 b w) i2
  have s3 : (Op.eqFields 9999 (List.toArray (wc a)) (List.toArray (wc b)) []).run P w = .ok true w := by simp [Op.eqFields]
  show (Op.eqFields 9999 _ _ [⟨"conn", T.int, 0, false, "", "waybill/cons", 0⟩, ⟨"ch", T.int, 1, false, "", "waybill/cons", 8⟩, ⟨"tag", T.string, 2, false, "", "waybill/cons", 16⟩]).run P w = _
  rw [s0, s1, s2, s3]
  obtain ⟨a0, a1, a2⟩ := a
  obtain ⟨b0, b1, b2⟩ := b
  by_cases h0 : a0 = b0 <;> by_cases h1 : a1 = b1 <;> by_cases h2 : a2 = b2 <;> simp [ByteArray.toList_eq, mkS, h0, h1, h2]
theorem whoCheck (b : Bool) (a : WH) (w : World) : (Instr.checkKey b 10000 T.cons_who (kkW a)).run P w = .ok () w := by
  have p0 : ∀ (w : World), (part T.int (List.toArray (wc a)) 0).run P w = .ok (.int .i64 a.1) w := fun w => run_part_scalar (by kernel_rfl) rfl
  have p1 : ∀ (w : World), (part T.int (List.toArray (wc a)) 1).run P w = .ok (.int .i64 a.2.1) w := fun w => run_part_scalar (by kernel_rfl) rfl
  have p2 : ∀ (w : World), (part T.string (List.toArray (wc a)) 2).run P w = .ok (.string (mkS a.2.2)) w := fun w => run_part_scalar (by kernel_rfl) rfl
  have h1 : ∀ (x : Int) (w : World), (Instr.checkKey b 9999 T.int (.int .i64 x)).run P w = .ok () w := fun x w => _root_.Go.MapKept.run_checkKey cu_int (by simp [_root_.Go.MapKept.IsKey]) b 9998
  have h2 : ∀ (x : List UInt8) (w : World), (Instr.checkKey b 9999 T.string (.string (mkS x))).run P w = .ok () w := fun x w => _root_.Go.MapKept.run_checkKey cu_str (by simp [_root_.Go.MapKept.IsKey]) b 9998
  rw [Instr.checkKey.eq_def]
  simp only [Sem.run_bind, Go.run_underlying who_und, Result.andThen_ok, who_fields]
  simp [p0, p1, p2, h1, h2]
theorem klW : KeyL P T.cons_who kkW :=
  KeyL.ask who_und (fun a v => by cases v <;> rfl) (fun a b w => by
    show (Op.equalIn (9999 + 1) T.cons_who (.agg (List.toArray (wc a))) (.agg (List.toArray (wc b)))).run P w = _
    rw [run_equalIn_agg _ _ _ _ _ who_und who_held]
    exact whoFields a b w) whoCheck (fun x => by
    show Instr.sameBits (9999 + 1) (kkW x) (kkW x) = true
    simp [kkW, Instr.sameBits]
    exact (_root_.Go.MapKept.bytes_beq _ _).2 rfl)

/-! ### The maps stand for a row -/

/-- The maps' places: a consumer's place by its key; the consumer by its place. -/
structure CRel (O : List (Int × CN)) (last : Int) (Pl : List (WH × Int)) (F : List (Int × CN)) : Prop where
  up : Up O
  pos : ∀ x ∈ O, 0 < x.1 ∧ x.1 ≤ last
  kd : (O.map fun x => keyC x.2).Nodup
  ndP : (Pl.map Prod.fst).Nodup
  ndF : (F.map Prod.fst).Nodup
  of : ∀ k c, get? F k = some c ↔ (k, c) ∈ O
  pl : ∀ w n, get? Pl w = some n ↔ ∃ c, (n, c) ∈ O ∧ keyC c = w
abbrev pv (Pl : List (WH × Int)) (w : WH) : Int := (get? Pl w).getD 0

theorem CRel.inj {O last Pl F} (q : CRel O last Pl F) {a b : Int × CN} (ha : a ∈ O) (hb : b ∈ O) (e : keyC a.2 = keyC b.2) : a = b := by
  have := q.kd
  rw [List.nodup_iff_pairwise_ne, List.pairwise_map] at this
  have u := q.up
  obtain ⟨i, hi, rfl⟩ := List.mem_iff_getElem.1 ha
  obtain ⟨j, hj, rfl⟩ := List.mem_iff_getElem.1 hb
  rcases Nat.lt_trichotomy i j with h | h | h
  · exact absurd e (List.pairwise_iff_getElem.1 this i j hi hj h)
  · subst h; rfl
  · exact absurd e.symm (List.pairwise_iff_getElem.1 this j i hj hi h)
theorem CRel.pv_pos {O last Pl F} (q : CRel O last Pl F) (w : WH) : 0 < pv Pl w ↔ w ∈ (O.map fun x => keyC x.2) := by
  unfold pv
  cases h : get? Pl w with
  | none =>
    simp only [Option.getD_none, Int.lt_irrefl, false_iff]
    intro hm
    obtain ⟨x, hx, e⟩ := List.mem_map.1 hm
    have := (q.pl w x.1).2 ⟨x.2, hx, e⟩
    rw [h] at this; cases this
  | some n =>
    obtain ⟨c, hc, e⟩ := (q.pl w n).1 h
    simp only [Option.getD_some]
    exact ⟨fun _ => List.mem_map.2 ⟨_, hc, e⟩, fun _ => (q.pos _ hc).1⟩
theorem opt_ext {α : Type} {a b : Option α} (h : ∀ x, a = some x ↔ b = some x) : a = b := by
  cases a with
  | none => cases b with
    | none => rfl
    | some y => exact absurd ((h y).2 rfl) (by simp)
  | some x => exact ((h x).1 rfl).symm
theorem CRel.add {O last Pl F} (q : CRel O last Pl F) (h0 : 0 ≤ last) {c : CN} (hn : keyC c ∉ (O.map fun x => keyC x.2)) : CRel (O ++ [(last + 1, c)]) (last + 1) (upd Pl (keyC c) (last + 1)) (upd F (last + 1) c) := by
  have hl : ∀ x ∈ O, x.1 ≠ last + 1 := fun x hx => by have := q.pos x hx; omega
  refine ⟨?_, fun x hx => ?_, ?_, (upd_keys q.ndP).1, (upd_keys q.ndF).1, fun k d => ?_, fun w n => ?_⟩
  · rw [Up, List.pairwise_append]
    exact ⟨q.up, List.pairwise_singleton .., fun a ha b hb => by simp at hb; subst hb; have := q.pos a ha; show a.1 < last + 1; omega⟩
  · rcases List.mem_append.1 hx with hx | hx
    · have := q.pos x hx; omega
    · simp at hx; subst hx; show 0 < last + 1 ∧ last + 1 ≤ last + 1; omega
  · rw [List.map_append, List.nodup_append]
    exact ⟨q.kd, by simp, fun a ha b hb e => by simp at hb; subst hb; subst e; exact hn ha⟩
  · rw [get?_upd, List.mem_append, List.mem_singleton]
    by_cases e : k = last + 1
    · subst e
      rw [if_pos rfl]
      constructor
      · intro h; cases h; exact .inr rfl
      · rintro (h | h)
        · exact absurd rfl (hl _ h)
        · cases h; rfl
    · rw [if_neg e, q.of]
      exact ⟨.inl, fun h => h.elim id fun h => by cases h; exact absurd rfl e⟩
  · rw [get?_upd]
    by_cases e : w = keyC c
    · subst e
      rw [if_pos rfl]
      constructor
      · intro h; cases h; exact ⟨c, by simp, rfl⟩
      · rintro ⟨d, hd, e⟩
        rcases List.mem_append.1 hd with hd | hd
        · exact absurd (List.mem_map.2 ⟨_, hd, e⟩) hn
        · simp at hd; rw [hd.1]
    · rw [if_neg e, q.pl]
      constructor
      · rintro ⟨d, hd, e⟩; exact ⟨d, by simp [hd], e⟩
      · rintro ⟨d, hd, e2⟩
        rcases List.mem_append.1 hd with hd | hd
        · exact ⟨d, hd, e2⟩
        · simp at hd; rw [hd.2] at e2; exact absurd e2.symm e
theorem CRel.drop {O last Pl F} (q : CRel O last Pl F) (w : WH) : CRel (O.filter fun x => decide (keyC x.2 ≠ w)) last (del Pl w) (del F (pv Pl w)) := by
  refine ⟨q.up.sublist List.filter_sublist, fun x hx => q.pos x (List.mem_filter.1 hx).1, (List.filter_sublist.map _).nodup q.kd, del_keys q.ndP, del_keys q.ndF, fun k c => ?_, fun v n => ?_⟩
  · rw [get?_del _ _ _ q.ndF, List.mem_filter, decide_eq_true_eq]
    by_cases e : k = pv Pl w
    · rw [if_pos e]
      constructor
      · intro h; cases h
      · rintro ⟨h1, h2⟩
        unfold pv at e
        cases hg : get? Pl w with
        | none => rw [hg] at e; have := q.pos _ h1; simp at e; omega
        | some n =>
          rw [hg] at e
          obtain ⟨d, hd, e2⟩ := (q.pl w n).1 hg
          simp only [Option.getD_some] at e
          subst e
          have a := (get?_iff q.up.nodup).2 h1
          rw [(get?_iff q.up.nodup).2 hd] at a
          cases a
          exact absurd e2 h2
    · rw [if_neg e, q.of]
      refine ⟨fun h => ⟨h, fun e2 => e ?_⟩, And.left⟩
      have := (q.pl w k).2 ⟨c, h, e2⟩
      unfold pv
      rw [this]; rfl
  · rw [get?_del _ _ _ q.ndP]
    by_cases e : v = w
    · subst e
      rw [if_pos rfl]
      constructor
      · intro h; cases h
      · rintro ⟨c, hc, e⟩
        exact absurd e (of_decide_eq_true (List.mem_filter.1 hc).2)
    · rw [if_neg e, q.pl]
      constructor
      · rintro ⟨c, hc, e2⟩; exact ⟨c, List.mem_filter.2 ⟨hc, decide_eq_true (by rw [e2]; exact e)⟩, e2⟩
      · rintro ⟨c, hc, e2⟩; exact ⟨c, (List.mem_filter.1 hc).1, e2⟩
theorem CRel.permF {O last Pl F} (q : CRel O last Pl F) : (F.map Prod.fst).Perm (O.map Prod.fst) := by
  rw [List.perm_ext_iff_of_nodup q.ndF q.up.nodup]
  intro k
  constructor
  · intro h
    obtain ⟨x, hx, rfl⟩ := List.mem_map.1 h
    exact List.mem_map.2 ⟨_, (q.of x.1 x.2).1 ((get?_iff q.ndF).2 hx), rfl⟩
  · intro h
    obtain ⟨x, hx, rfl⟩ := List.mem_map.1 h
    exact List.mem_map.2 ⟨_, get?_mem ((q.of x.1 x.2).2 hx), rfl⟩

abbrev CnA (s : Addr) (mp mo : Nat) (last : Int) (Pl : List (WH × Int)) (F : List (Int × CN)) (L : List Asr) : List Asr := Bx s [.map (some mp), .map (some mo), .int .i64 last] :: Mq kkW vvN mp Pl :: Mq kkI vvC mo F :: L
/-- Consumers that stand in a row. -/
def CnW (s : Addr) (C : List CN) (last : Int) : Asr := ex fun x : Nat × Nat × List (WH × Int) × List (Int × CN) × List (Int × CN) => sep (fact (CRel x.2.2.2.2 last x.2.2.1 x.2.2.2.1 ∧ x.2.2.2.2.map Prod.snd = C)) (stars [Bx s [.map (some x.1), .map (some x.2.1), .int .i64 last], Mq kkW vvN x.1 x.2.2.1, Mq kkI vvC x.2.1 x.2.2.2.1])

section
variable {K : KT} {L : List Asr} {h : Heap} {s : Addr} {C : List CN} {last : Int}
theorem CnW.out (S : St (CnW s C last :: L) h) : ∃ mp mo Pl F O, CRel O last Pl F ∧ O.map Prod.snd = C ∧ St (CnA s mp mo last Pl F L) h := by
  obtain ⟨⟨mp, mo, Pl, F, O⟩, S1⟩ := St.ex S
  obtain ⟨q, S2⟩ := S1.split.fact
  exact ⟨mp, mo, Pl, F, O, q.1, q.2, S2.open⟩
theorem CnW.inn {mp mo : Nat} {Pl : List (WH × Int)} {F O : List (Int × CN)} (q : CRel O last Pl F) (e : O.map Prod.snd = C) (S : St (CnA s mp mo last Pl F L) h) : St (CnW s C last :: L) h :=
  St.ex' (mp, mo, Pl, F, O) (St.join (St.fact' ⟨q, e⟩ (St.close (As := [Bx s [.map (some mp), .map (some mo), .int .i64 last], Mq kkW vvN mp Pl, Mq kkI vvC mo F]) S)))
theorem CnW.nd (S : St (CnW s C last :: L) h) : (C.map keyC).Nodup := by
  obtain ⟨_, _, _, _, O, q, e, _⟩ := CnW.out S
  have := q.kd
  rw [← e, List.map_map]
  exact this
theorem keys_C {O : List (Int × CN)} (e : O.map Prod.snd = C) : (O.map fun x => keyC x.2) = C.map keyC := by rw [← e, List.map_map]; rfl

theorem newConW (S : St L h) (hK : ∀ h' s, St (CnW s [] 0 :: L) h' → K (.pointer (some s)) h') : CallsH P F.cons_New [] K h := by
  refine cons_New.ok ?_
  unfold cons_New.p0
  simp only [bd]
  have S1 := S.mqNew kkW vvN
  have S2 := S1.mqNew kkI vvC
  have S3 := S2.al [.map (some h.size), .map (some (h.push (.map #[] 0)).size), .int .i64 0] T.cons_Cons
  exact hK _ _ (CnW.inn (O := []) ⟨List.Pairwise.nil, by simp, by simp, by simp, by simp, fun k c => by simp [get?, fnd], fun w n => by simp [get?, fnd]⟩ rfl S3.p2.p1)

theorem keyConS {c : CN} (S : St L h) (hK : ∀ h', St L h' → K (.agg (List.toArray (wc (keyC c)))) h') : CallsH P F.cons_key [.agg (List.toArray (cc c))] K h := by
  refine cons_key.ok ?_
  unfold cons_key.p0
  unfold bd
  have S1 : St (Bx (top h) (cc c) :: L) (al h (cc c).toArray T.api_Con) := S.al _ _
  have S2 : St (Bx (top (al h (cc c).toArray T.api_Con)) [.int .i64 0, .int .i64 0, .string (mkS [])] :: Bx (top h) (cc c) :: L) (al (al h (cc c).toArray T.api_Con) #[.int .i64 0, .int .i64 0, .string (mkS [])] T.cons_who) := S1.al [.int .i64 0, .int .i64 0, .string (mkS [])] T.cons_who
  refine ⟨_, S2.p1.c 0 rfl, _, S2.p1.c 1 rfl, _, S2.p1.c 2 rfl, rfl, ?_⟩
  refine S2.wrA (ws := wc (keyC c)) rfl (by simp [one]) fun h3 S3 => ?_
  exact S3.rdA (n := 3) rfl (hK h3 S3.tl.tl)

theorem addConW {c : CN} (S : St (CnW s C last :: L) h) (h0 : 0 ≤ last ∧ last < 4611686018427387904) (hF : keyC c ∈ C.map keyC → ∀ h', St (CnW s C last :: L) h' → K (.bool false) h')
    (hT : keyC c ∉ C.map keyC → ∀ h', St (CnW s (C ++ [c]) (last + 1) :: L) h' → K (.bool true) h') : CallsH P F.cons_Cons_Add [.pointer (some s), .agg (List.toArray (cc c))] K h := by
  obtain ⟨mp, mo, Pl, Fm, O, q, eC, S0⟩ := CnW.out S
  refine cons_Cons_Add.ok ?_
  unfold cons_Cons_Add.p0
  unfold bd
  have S1 : St (Bx (top h) (cc c) :: CnA s mp mo last Pl Fm L) (al h (cc c).toArray T.api_Con) := S0.al _ _
  have ek := keys_C eC
  have ew : IntKind.i64.wrap (last + 1) = last + 1 := by rw [wrapI (by omega) (by omega)]
  have j1 : ∀ h1, St (Bx (top h) (cc c) :: CnA s mp mo last Pl Fm L) h1 → cons_Cons_Add.j1 K (some s) (top h) (decide (pv Pl (keyC c) > 0)) h1 := fun h1 S2 => by
    unfold cons_Cons_Add.j1
    by_cases hp : 0 < pv Pl (keyC c)
    · have hm := (q.pv_pos (keyC c)).1 hp
      rw [ek] at hm
      exact ifT (by simpa using hp) (hF hm h1 (CnW.inn q eC S2.tl))
    · have hn : keyC c ∉ (O.map fun x => keyC x.2) := fun hm => hp ((q.pv_pos _).2 hm)
      refine ifF (by simpa using hp) ⟨s, rfl, last, S2.p1.c 2 rfl, s, rfl, ?_⟩
      rw [ew]
      refine S2.p1.wr 2 (by simp) rfl fun h2 S3 => ⟨s, rfl, s, rfl, S3.p1.rdA (n := 5) rfl ?_⟩
      have S3 : St (Bx s [.map (some mp), .map (some mo), .int .i64 (last + 1)] :: Bx (top h) (cc c) :: Mq kkW vvN mp Pl :: Mq kkI vvC mo Fm :: L) h2 := S3
      have j2 : ∀ h3, St (Bx s [.map (some mp), .map (some mo), .int .i64 (last + 1)] :: Bx (top h) (cc c) :: Mq kkW vvN mp (upd Pl (keyC c) (last + 1)) :: Mq kkI vvC mo Fm :: L) h3 → cons_Cons_Add.j2 K (some s) (top h) h3 := fun h3 S4 => by
        unfold cons_Cons_Add.j2
        refine ⟨s, rfl, s, rfl, some mo, S4.c 1 rfl, last + 1, S4.c 2 rfl, S4.p1.rdA (n := 5) rfl ?_⟩
        refine St.update (k := last + 1) (v := c) klI umC S4.p3 fun v h4 S5 => hT (by rw [← ek]; exact hn) h4 (CnW.inn (mp := mp) (mo := mo) (q.add h0.1 hn) (by rw [List.map_append, eC]; rfl) ?_)
        exact S5.p2.tl.to
      have up : ∀ h3, St (Bx s [.map (some mp), .map (some mo), .int .i64 (last + 1)] :: Bx (top h) (cc c) :: Mq kkW vvN mp Pl :: Mq kkI vvC mo Fm :: L) h3 → SemH P (unit (Instr.mapUpdate T.map_cons_who_int (.map (some mp)) (.agg (List.toArray (wc (keyC c)))) (.int .i64 (last + 1)))) (fun v h' => cons_Cons_Add.j2 K (some s) (top h) h') h3 := fun h3 S4 =>
        St.update (k := keyC c) (v := last + 1) klW umW S4.p2 fun v h4 S5 => j2 h4 S5.p2.p2
      with_reducible refine And.intro ⟨some mp, S3.c 0 rfl, And.intro ?_ ?_⟩ (And.intro ?_ ⟨_, S3.c 2 rfl, And.intro ⟨some mp, S3.c 0 rfl, ?_⟩ ?_⟩)
      · exact keyConS S3 fun h3 S4 => ⟨wc (keyC c), rfl, _, S4.c 2 rfl, up h3 S4⟩
      · exact ⟨_, S3.c 2 rfl, keyConS S3 fun h3 S4 => ⟨wc (keyC c), rfl, up h3 S4⟩⟩
      · exact keyConS S3 fun h3 S4 => ⟨wc (keyC c), rfl, some mp, S4.c 0 rfl, _, S4.c 2 rfl, up h3 S4⟩
      · exact keyConS S3 fun h3 S4 => ⟨wc (keyC c), rfl, up h3 S4⟩
      · exact keyConS S3 fun h3 S4 => ⟨wc (keyC c), rfl, some mp, S4.c 0 rfl, up h3 S4⟩
  have look : ∀ h1, St (Bx (top h) (cc c) :: CnA s mp mo last Pl Fm L) h1 → SemH P (Instr.lookup T.map_cons_who_int (.map (some mp)) (.agg (List.toArray (wc (keyC c)))) false) (fun v h' => ∃ n, v = .int .i64 n ∧ cons_Cons_Add.j1 K (some s) (top h) (decide (n > 0)) h') h1 := fun h1 S2 => by
    refine St.lookup (k := keyC c) klW umW zInt S2.p2 ?_
    simp only [Bool.false_eq_true, if_false]
    have e : (get? Pl (keyC c)).elim (.int .i64 0) vvN = .int .i64 (pv Pl (keyC c)) := by unfold pv; cases get? Pl (keyC c) <;> rfl
    rw [e]
    exact ⟨_, rfl, j1 h1 S2⟩
  refine ⟨s, rfl, S1.rdA (n := 5) rfl ?_⟩
  with_reducible refine And.intro ?_ ?_
  · exact ⟨some mp, S1.p1.c 0 rfl, keyConS S1 fun h1 S2 => ⟨wc (keyC c), rfl, look h1 S2⟩⟩
  · exact keyConS S1 fun h1 S2 => ⟨wc (keyC c), rfl, some mp, S2.p1.c 0 rfl, look h1 S2⟩

abbrev outC (C : List CN) (w : WH) : List CN := C.filter fun c => decide (keyC c ≠ w)
theorem dropConW {w : WH} (S : St (CnW s C last :: L) h) (hK : ∀ h', St (CnW s (outC C w) last :: L) h' → K (.bool (decide (w ∈ C.map keyC))) h') : CallsH P F.cons_Cons_drop [.pointer (some s), .agg (List.toArray (wc w))] K h := by
  obtain ⟨mp, mo, Pl, Fm, O, q, eC, S0⟩ := CnW.out S
  have ek := keys_C eC
  refine cons_Cons_drop.ok ?_
  unfold cons_Cons_drop.p0
  unfold bd
  have S1 : St (Bx (top h) (wc w) :: CnA s mp mo last Pl Fm L) (al h (wc w).toArray T.cons_who) := S0.al _ _
  refine ⟨s, rfl, some mp, S1.p1.c 0 rfl, S1.rdA (n := 3) rfl ?_⟩
  refine St.lookup (k := w) klW umW zInt S1.p2 ?_
  simp only [Bool.false_eq_true, if_false]
  have e : (get? Pl w).elim (.int .i64 0) vvN = .int .i64 (pv Pl w) := by unfold pv; cases get? Pl w <;> rfl
  rw [e]
  refine ⟨_, rfl, s, rfl, some mp, S1.p1.c 0 rfl, S1.rdA (n := 3) rfl ?_⟩
  refine St.delete (k := w) klW umW S1.p2 fun h2 S2 => ⟨s, rfl, some mo, S2.p2.c 1 rfl, ?_⟩
  refine St.delete (k := pv Pl w) klI umC S2.p3 fun h3 S3 => ?_
  have eb : decide (pv Pl w > 0) = decide (w ∈ C.map keyC) := by rw [← ek]; exact decide_eq_decide.2 (q.pv_pos w)
  rw [eb]
  refine hK h3 (CnW.inn (mp := mp) (mo := mo) (q.drop w) ?_ S3.p2.tl.to)
  rw [← eC]
  unfold outC
  rw [List.filter_map]; rfl
end
end Go.Proofs.Ytechpnlbkkfplaa.Pr
