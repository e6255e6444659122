/- line: a line as one rising row of entries, ready or held. -/
import Derived.Test.YtechpnlbkkfplaaLineR
import Derived.Test.YtechpnlbkkfplaaLiftW
set_option linter.unusedVariables false
set_option linter.unusedSimpArgs false
namespace Go.Proofs.Ytechpnlbkkfplaa.Pr
open Go Go.Lift Go.Proofs

/-- A row of entries: the number; marked; held. -/
abbrev LRow := List (Int × (Bool × Bool))
/-- The two maps stand for a row. -/
structure LRel (W : LRow) (R : List (Int × (Int × Bool))) (H : List (Int × Int)) : Prop where
  up : Up W
  pos : ∀ x ∈ W, 0 < x.1 ∧ x.1 < 18446744073709551616
  nd : (R.map Prod.fst).Nodup
  ndH : (H.map Prod.fst).Nodup
  r : ∀ k, get? R k = (get? W k).bind fun x => if x.2 then none else some (k, x.1)
  hh : ∀ k, get? H k = (get? W k).bind fun x => if x.2 then some 1 else none

theorem LRel.nil : LRel [] [] [] := ⟨List.Pairwise.nil, by simp, by simp, by simp, fun _ => rfl, fun _ => rfl⟩
theorem LRel.hv {W R H} (q : LRel W R H) (k : Int) : Pr.hv H k = if (get? W k).any (·.2) then 1 else 0 := by
  unfold Pr.hv
  rw [q.hh]
  cases get? W k with
  | none => rfl
  | some x => obtain ⟨a, b⟩ := x; cases b <;> rfl
theorem LRel.has {W R H} (q : LRel W R H) (k : Int) : (get? R k).isSome = (get? W k).any (!·.2) := by
  rw [q.r]
  cases get? W k with
  | none => rfl
  | some x => obtain ⟨a, b⟩ := x; cases b <;> rfl
theorem LRel.memR {W R H} (q : LRel W R H) {k : Int} {x : Int × Bool} : (k, x) ∈ R ↔ x.1 = k ∧ (k, (x.2, false)) ∈ W := by
  rw [← get?_iff q.nd, q.r, ← get?_iff q.up.nodup]
  cases h : get? W k with
  | none => simp
  | some y =>
    obtain ⟨a, b⟩ := y
    obtain ⟨x1, x2⟩ := x
    cases b
    · simp only [Option.bind_some, Bool.false_eq_true, if_false, Option.some.injEq, Prod.mk.injEq, and_true, eq_comm (a := k)]
    · simp
theorem LRel.put {W R H} (q : LRel W R H) {k : Int} {a : Bool} (h : get? W k = none) (hk : 0 < k ∧ k < 18446744073709551616) : LRel (ins W k (a, false)) (upd R k (k, a)) H := by
  have hn := get?_none.1 h
  refine ⟨q.up.ins hn, fun x hx => ?_, (upd_keys q.nd).1, q.ndH, fun j => ?_, fun j => ?_⟩
  · rcases ins_mem.1 hx with e | e
    · subst e; exact hk
    · exact q.pos x e
  · rw [get?_upd, q.up.get?_ins hn, q.r]
    by_cases e : j = k
    · subst e; simp
    · simp [e]
  · rw [q.up.get?_ins hn, q.hh]
    by_cases e : j = k
    · subst e; simp [h]
    · simp [e]
theorem LRel.take {W R H} (q : LRel W R H) {k : Int} {a : Bool} (h : (k, (a, false)) ∈ W) : LRel (upd W k (a, true)) (del R k) (upd H k 1) := by
  have hm : k ∈ W.map Prod.fst := List.mem_map.2 ⟨_, h, rfl⟩
  refine ⟨q.up.upd hm, fun x hx => ?_, del_keys q.nd, (upd_keys q.ndH).1, fun j => ?_, fun j => ?_⟩
  · rcases (upd_mem q.up.nodup x).1 hx with e | e
    · subst e; exact (q.pos _ h :)
    · exact q.pos x e.1
  · rw [get?_del _ _ _ q.nd, get?_upd, q.r]
    by_cases e : j = k <;> simp [e]
  · rw [get?_upd, get?_upd, q.hh]
    by_cases e : j = k <;> simp [e]
theorem LRel.back {W R H} (q : LRel W R H) {k : Int} {a : Bool} (h : (k, (a, true)) ∈ W) : LRel (upd W k (true, false)) (upd R k (k, true)) (del H k) := by
  have hm : k ∈ W.map Prod.fst := List.mem_map.2 ⟨_, h, rfl⟩
  refine ⟨q.up.upd hm, fun x hx => ?_, (upd_keys q.nd).1, del_keys q.ndH, fun j => ?_, fun j => ?_⟩
  · rcases (upd_mem q.up.nodup x).1 hx with e | e
    · subst e; exact (q.pos _ h :)
    · exact q.pos x e.1
  · rw [get?_upd, get?_upd, q.r]
    by_cases e : j = k
    · subst e; simp
    · simp [e]
  · rw [get?_del _ _ _ q.ndH, get?_upd, q.hh]
    by_cases e : j = k <;> simp [e]
theorem LRel.drop {W R H} (q : LRel W R H) (k : Int) : LRel (del W k) (del R k) (del H k) := by
  refine ⟨q.up.del, fun x hx => q.pos x (del_mem hx), del_keys q.nd, del_keys q.ndH, fun j => ?_, fun j => ?_⟩
  · rw [get?_del _ _ _ q.nd, get?_del _ _ _ q.up.nodup, q.r]
    by_cases e : j = k <;> simp [e]
  · rw [get?_del _ _ _ q.ndH, get?_del _ _ _ q.up.nodup, q.hh]
    by_cases e : j = k <;> simp [e]

abbrev readyL (W : LRow) : List (Int × Bool) := (W.filter fun x => !x.2.2).map fun x => (x.1, x.2.1)
abbrev heldL (W : LRow) : List Int := (W.filter fun x => x.2.2).map Prod.fst

theorem LRel.permR {W R H} (q : LRel W R H) : (R.map Prod.fst).Perm ((readyL W).map Prod.fst) := by
  rw [List.perm_ext_iff_of_nodup q.nd]
  · intro k
    simp only [List.mem_map, List.mem_filter]
    constructor
    · rintro ⟨⟨k', x⟩, hx, rfl⟩
      obtain ⟨e, hw⟩ := q.memR.1 hx
      exact ⟨(k', x.2), ⟨(k', (x.2, false)), ⟨hw, rfl⟩, rfl⟩, rfl⟩
    · rintro ⟨y, ⟨⟨k', a, b⟩, ⟨hw, hb⟩, rfl⟩, rfl⟩
      cases b with
      | true => cases hb
      | false => exact ⟨(k', (k', a)), q.memR.2 ⟨rfl, hw⟩, rfl⟩
  · rw [List.map_map]
    exact (List.filter_sublist.map _).nodup q.up.nodup
theorem LRel.permH {W R H} (q : LRel W R H) : (H.map Prod.fst).Perm (heldL W) := by
  rw [List.perm_ext_iff_of_nodup q.ndH]
  · intro k
    simp only [List.mem_map, List.mem_filter]
    constructor
    · rintro ⟨⟨k', n⟩, hx, rfl⟩
      have h1 := (get?_iff q.ndH).2 hx
      rw [q.hh] at h1
      cases h2 : get? W k' with
      | none => rw [h2] at h1; cases h1
      | some y =>
        obtain ⟨a, b⟩ := y
        rw [h2] at h1
        cases b with
        | false => simp at h1
        | true => exact ⟨_, ⟨get?_mem h2, rfl⟩, rfl⟩
    · rintro ⟨⟨k', a, b⟩, ⟨hw, hb⟩, rfl⟩
      cases b with
      | false => cases hb
      | true => exact ⟨(k', 1), (get?_iff q.ndH).1 (by rw [q.hh, (get?_iff q.up.nodup).2 hw]; rfl), rfl⟩
  · exact (List.filter_sublist.map _).nodup q.up.nodup

/-- A line that stands for a row. -/
def LnW (l : Addr) (W : LRow) : Asr := ex fun x : Nat × Nat × List (Int × (Int × Bool)) × List (Int × Int) => sep (fact (LRel W x.2.2.1 x.2.2.2)) (stars [Bx l [.map (some x.1), .map (some x.2.1)], Mq kkU vvE x.1 x.2.2.1, Mq kkU vvI x.2.1 x.2.2.2])

section
variable {K : KT} {L : List Asr} {h : Heap} {l : Addr} {W : LRow}

theorem LnW.out (S : St (LnW l W :: L) h) : ∃ mr mh R H, LRel W R H ∧ St (LnA l mr mh R H L) h := by
  obtain ⟨⟨mr, mh, R, H⟩, S1⟩ := St.ex S
  obtain ⟨q, S2⟩ := S1.split.fact
  exact ⟨mr, mh, R, H, q, S2.open⟩
theorem LnW.inn {mr mh : Nat} {R : List (Int × (Int × Bool))} {H : List (Int × Int)} (q : LRel W R H) (S : St (LnA l mr mh R H L) h) : St (LnW l W :: L) h :=
  St.ex' (mr, mh, R, H) (St.join (St.fact' q (St.close (As := [Bx l [.map (some mr), .map (some mh)], Mq kkU vvE mr R, Mq kkU vvI mh H]) S)))

theorem newLineW (S : St L h) (hK : ∀ h' l, St (LnW l [] :: L) h' → K (.pointer (some l)) h') : CallsH P F.line_New [] K h :=
  newLineS S fun h' l mr mh S1 => hK h' l (LnW.inn LRel.nil S1)

theorem putLineW {id : Int} {again : Bool} (S : St (LnW l W :: L) h) (hid : 0 ≤ id ∧ id < 18446744073709551616) (hF : ((get? W id).isSome = true ∨ id = 0) → ∀ h', St (LnW l W :: L) h' → K (.bool false) h')
    (hT : get? W id = none → id ≠ 0 → ∀ h', St (LnW l (ins W id (again, false)) :: L) h' → K (.bool true) h') : CallsH P F.line_Line_Put [.pointer (some l), .int .u64 id, .bool again] K h := by
  obtain ⟨mr, mh, R, H, q, S1⟩ := LnW.out S
  refine putLineS S1 (fun e h' S2 => hF ?_ h' (LnW.inn q S2)) fun e1 e2 e3 h' S2 => ?_
  · rw [q.has, q.hv] at e
    rcases e with e | e | e
    · left; cases hg : get? W id with
      | none => rw [hg] at e; cases e
      | some x => rfl
    · exact .inr e
    · left; cases hg : get? W id with
      | none => rw [hg] at e; simp at e
      | some x => rfl
  · have hg : get? W id = none := by
      rw [q.has] at e1
      rw [q.hv] at e3
      cases hg : get? W id with
      | none => rfl
      | some x =>
        rw [hg] at e1 e3
        obtain ⟨a, b⟩ := x
        cases b <;> simp at e1 e3
    exact hT hg e2 h' (LnW.inn (q.put hg ⟨by omega, hid.2⟩) S2)

theorem takeLineW (S : St (LnW l W :: L) h) (hN : (∀ x ∈ W, x.2.2 = true) → ∀ h', St (LnW l W :: L) h' → K (.tuple #[.agg #[.int .u64 0, .bool false], .bool false]) h')
    (hT : ∀ k a, (k, (a, false)) ∈ W → (∀ x ∈ W, x.1 < k → x.2.2 = true) → ∀ h', St (LnW l (upd W k (a, true)) :: L) h' → K (.tuple #[.agg #[.int .u64 k, .bool a], .bool true]) h') : CallsH P F.line_Line_Take [.pointer (some l)] K h := by
  obtain ⟨mr, mh, R, H, q, S1⟩ := LnW.out S
  refine takeLineS S1 (fun x hx => ?_) (fun e h' S2 => hN (fun x hx => ?_) h' (LnW.inn q S2)) fun k i b hm hle h' S2 => ?_
  · obtain ⟨k, y⟩ := x
    exact (q.pos _ (q.memR.1 hx).2).1
  · obtain ⟨k, a, b⟩ := x
    cases b with
    | true => rfl
    | false =>
      have := q.memR (x := (k, a)) |>.2 ⟨rfl, hx⟩
      rw [e] at this
      cases this
  · obtain ⟨e, hw⟩ := q.memR.1 hm
    simp only at e hw
    subst e
    refine hT i b hw (fun x hx hlt => ?_) h' (LnW.inn (q.take hw) S2)
    obtain ⟨k, a, c⟩ := x
    cases c with
    | true => rfl
    | false =>
      have := hle _ (q.memR (x := (k, a)) |>.2 ⟨rfl, hx⟩)
      simp at this hlt
      omega

theorem backLineW {id : Int} (S : St (LnW l W :: L) h) (hF : (∀ a, (id, (a, true)) ∉ W) → ∀ h', St (LnW l W :: L) h' → K (.bool false) h')
    (hT : ∀ a, (id, (a, true)) ∈ W → ∀ h', St (LnW l (upd W id (true, false)) :: L) h' → K (.bool true) h') : CallsH P F.line_Line_Back [.pointer (some l), .int .u64 id] K h := by
  obtain ⟨mr, mh, R, H, q, S1⟩ := LnW.out S
  refine backLineS S1 (fun e h' S2 => hF (fun a hm => ?_) h' (LnW.inn q S2)) fun e h' S2 => ?_
  · rw [q.hv, (get?_iff q.up.nodup).2 hm] at e
    simp at e
  · rw [q.hv] at e
    cases hg : get? W id with
    | none => rw [hg] at e; simp at e
    | some x =>
      obtain ⟨a, b⟩ := x
      cases b with
      | false => rw [hg] at e; simp at e
      | true => exact hT a (get?_mem hg) h' (LnW.inn (q.back (get?_mem hg)) S2)

theorem dropLineW {id : Int} (S : St (LnW l W :: L) h) (hK : ∀ h', St (LnW l (del W id) :: L) h' → K (.bool (get? W id).isSome) h') :
    CallsH P F.line_Line_Drop [.pointer (some l), .int .u64 id] K h := by
  obtain ⟨mr, mh, R, H, q, S1⟩ := LnW.out S
  refine dropLineS S1 fun h' S2 => ?_
  rw [q.has, q.hv, show ((get? W id).any (!·.2) || decide ((0 : Int) < if (get? W id).any (·.2) then 1 else 0)) = (get? W id).isSome by
    cases get? W id with
    | none => rfl
    | some x => obtain ⟨a, b⟩ := x; cases b <;> rfl]
  exact hK h' (LnW.inn (q.drop id) S2)

theorem heldLineW (S : St (LnW l W :: L) h) (hl : W.length ≤ 8796093022208)
    (hK : ∀ h' s, St (Ow 1 s ((heldL W).map kkU) :: LnW l W :: L) h' → K (.slice s.1 s.2.1 s.2.2) h') : CallsH P F.line_Line_Held [.pointer (some l)] K h := by
  obtain ⟨mr, mh, R, H, q, S1⟩ := LnW.out S
  have hlen : H.length ≤ W.length := by
    have := q.permH.length_eq
    rw [List.length_map, List.length_map] at this
    have := List.length_filter_le (fun x : Int × (Bool × Bool) => x.2.2) W
    omega
  refine heldLineS S1 (fun x hx => ?_) (by omega) fun h' s ks p o S2 => ?_
  · have hm : x.1 ∈ heldL W := q.permH.mem_iff.1 (List.mem_map.2 ⟨x, hx, rfl⟩)
    obtain ⟨y, hy, e⟩ := List.mem_map.1 hm
    have := q.pos y (List.mem_filter.1 hy).1
    rw [← e]; omega
  · have e : ks = heldL W := perm_le (p.trans q.permH) o (Up.keys_le (q.up.sublist List.filter_sublist))
    subst e
    exact hK h' s (LnW.inn q S2.p3.p3.p3).p1

theorem readyLineW (S : St (LnW l W :: L) h) (hl : W.length < 4398046511104)
    (hK : ∀ h' o, St (Ow 2 o ((readyL W).flatMap ecell) :: LnW l W :: L) h' → K (.slice o.1 o.2.1 o.2.2) h') : CallsH P F.line_Line_Ready [.pointer (some l)] K h := by
  obtain ⟨mr, mh, R, H, q, S1⟩ := LnW.out S
  have hlen : R.length ≤ W.length := by
    have := q.permR.length_eq
    rw [List.length_map, List.length_map, List.length_map] at this
    have := List.length_filter_le (fun x : Int × (Bool × Bool) => !x.2.2) W
    omega
  refine readyLineS S1 (fun x hx => ?_) (by omega) fun h' s ks p o S2 => ?_
  · obtain ⟨k, y⟩ := x
    have := q.pos _ (q.memR.1 hx).2
    exact ⟨Int.le_of_lt this.1, this.2⟩
  · have e : ks = (readyL W).map Prod.fst := perm_le (p.trans q.permR) o (by
      rw [List.map_map]
      exact Up.keys_le (q.up.sublist List.filter_sublist))
    have e2 : ks.map (entO R) = readyL W := by
      rw [e, List.map_map, List.map_map]
      refine List.map_congr_left fun x hx => ?_
      obtain ⟨hx1, hx2⟩ := List.mem_filter.1 hx
      obtain ⟨k, a, b⟩ := x
      cases b with
      | true => cases hx2
      | false =>
        show entO R k = (k, a)
        unfold entO
        rw [(get?_iff q.nd).2 (q.memR (x := (k, a)) |>.2 ⟨rfl, hx1⟩)]
        rfl
    rw [e2] at S2
    exact hK h' s (LnW.inn q S2.p3.p3.p3).p1
end
end Go.Proofs.Ytechpnlbkkfplaa.Pr
