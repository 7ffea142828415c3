/- Schedule: the law Segs. -/
import Derived.Test.YtiihkfjbllpiaaaGreatDoorWSma
import Derived.Test.YtiihkfjbllpiaaaGreatDoorProg
namespace Go.Proofs.YtiihkfjbllpiaaaGreatDoor
open Go Go.AL
set_option linter.unusedSectionVars false
variable [Go.AL.Mode] [Go.AL.LooseM]
set_option linter.unusedSimpArgs false
set_option linter.unusedVariables false
def a506 : AFun := ⟨127, [.tmp 8], (.seq (.reg [⟨(some 4), none, .p (.boxI (.t 0))⟩,
    ⟨(some 8),none,.p (.mv (.c (.bool false)))⟩])
  (.seq (.seq (.reg [⟨(some 18),none,.p (.ldn 2 (.t 4))⟩,
    ⟨(some 19),none,.p (.mv (.t 1))⟩,
    ⟨(some 20),none,.call 12 [(.t 18),(.t 19)]⟩,
    ⟨(some 21),none,.p (.not (.t 20))⟩,
    ⟨(some 22),none,.p (.mv (.t 21))⟩,
    ⟨(some 23),(some (22,false)),.p (.mv (.t 2))⟩,
    ⟨(some 24),(some (22,false)),.p (.bin .lss (.t 23) (.c (.int .i64 0)))⟩,
    ⟨(some 25),none,.p (.pick (.t 22) (.c (.bool true)) (.t 24))⟩,
    ⟨(some 26),none,.p (.mv (.t 25))⟩,
    ⟨(some 27),(some (26,false)),.p (.mv (.t 2))⟩,
    ⟨(some 28),(some (26,false)),.p (.mv (.t 1))⟩,
    ⟨(some 29),(some (26,false)),.p (.lenA (.t 28))⟩,
    ⟨(some 30),(some (26,false)),.p (.bin .geq (.t 27) (.t 29))⟩,
    ⟨(some 31),none,.p (.pick (.t 26) (.c (.bool true)) (.t 30))⟩,
    ⟨(some 32),none,.p (.mv (.t 31))⟩,
    ⟨(some 33),(some (32,false)),.p (.ldn 2 (.t 4))⟩,
    ⟨(some 34),(some (32,false)),.p (.mv (.t 1))⟩,
    ⟨(some 35),(some (32,false)),.call 15 [(.t 33),(.t 34)]⟩,
    ⟨(some 36),(some (32,false)),.p (.lenA (.t 35))⟩,
    ⟨(some 37),(some (32,false)),.p (.bin .gtr (.t 36) (.c (.int .i64 0)))⟩,
    ⟨(some 38),none,.p (.pick (.t 32) (.c (.bool true)) (.t 37))⟩])
  (.cond (.t 38) (.seq (.reg [⟨(some 39),none,.call 16 []⟩,
    ⟨(some 8),none,.p (.mv (.t 39))⟩])
  .ret) .skip))
  (.seq (.oreg [(.quiet,⟨(some 41),none,.p (.ldn 2 (.t 4))⟩),
    (.quiet,⟨(some 42),none,.p (.mv (.t 1))⟩),
    (.quiet,⟨(some 43),none,.p (.mv (.t 2))⟩),
    (.quiet,⟨(some 44),none,.p (.idxA 6 (.t 42) (.t 43))⟩),
    (.quiet,⟨(some 45),none,.p (.ldn 6 (.t 44))⟩),
    (.quiet,⟨(some 46),none,.p (.mv (.t 3))⟩),
    (.loud,⟨(some 47),none,.call 27 [(.t 41),(.t 45),(.t 46)]⟩),
    (.quiet,⟨(some 40),none,.p (.mv (.t 47))⟩),
    (.quiet,⟨(some 48),none,.p (.ext 0 (.t 40))⟩),
    (.quiet,⟨(some 49),none,.p (.ext 1 (.t 40))⟩),
    (.quiet,⟨(some 9),none,.p (.mv (.t 48))⟩),
    (.quiet,⟨(some 10),none,.p (.mv (.t 49))⟩)])
  (.seq (.oreg2 [(.stable,⟨(some 51),none,.p (.mv (.t 1))⟩),
    (.stable,⟨(some 52),none,.p (.mv (.t 1))⟩),
    (.stable,⟨(some 53),none,.p (.mv (.t 2))⟩),
    (.grow,⟨(some 54),none,.p (.idxA 6 (.t 52) (.t 53))⟩),
    (.grow,⟨(some 55),none,.p (.faddr 0 (.t 54))⟩),
    (.grow,⟨(some 56),none,.p (.ld1 (.t 55))⟩),
    (.stable,⟨(some 57),none,.p (.mv (.t 1))⟩),
    (.stable,⟨(some 58),none,.p (.mv (.t 2))⟩),
    (.grow,⟨(some 59),none,.p (.idxA 6 (.t 57) (.t 58))⟩),
    (.grow,⟨(some 60),none,.p (.faddr 1 (.t 59))⟩),
    (.grow,⟨(some 61),none,.p (.ld1 (.t 60))⟩),
    (.stable,⟨(some 62),none,.p (.mv (.t 3))⟩)]
  [(.loud,⟨(some 63),none,.call 19 [(.t 51),(.t 56),(.t 61),(.t 62)]⟩),
    (.stable,⟨(some 50),none,.p (.mv (.t 63))⟩),
    (.stable,⟨(some 64),none,.p (.ext 0 (.t 50))⟩),
    (.stable,⟨(some 65),none,.p (.ext 1 (.t 50))⟩),
    (.loud,⟨(some 11),none,.newO 41 [(.str []),(.int .i64 0),(.int .i64 0),(.int .i64 0),(.int .i64 0),.nilSl]⟩),
    (.loud,⟨none,none,.st 6 (.t 11) (.t 64)⟩),
    (.quiet,⟨(some 12),none,.p (.mv (.t 65))⟩)]
  [(.loud,⟨(some 11),none,.newO 41 [(.str []),(.int .i64 0),(.int .i64 0),(.int .i64 0),(.int .i64 0),.nilSl]⟩),
    (.loud,⟨(some 63),none,.call 19 [(.t 51),(.t 56),(.t 61),(.t 62)]⟩),
    (.stable,⟨(some 50),none,.p (.mv (.t 63))⟩),
    (.stable,⟨(some 64),none,.p (.ext 0 (.t 50))⟩),
    (.stable,⟨(some 65),none,.p (.ext 1 (.t 50))⟩),
    (.loud,⟨none,none,.st 6 (.t 11) (.t 64)⟩),
    (.quiet,⟨(some 12),none,.p (.mv (.t 65))⟩)])
  (.seq (.seq (.oreg [(.quiet,⟨(some 66),none,.p (.mv (.t 10))⟩),
    (.quiet,⟨(some 67),none,.p (.bin .eql (.t 66) (.c (.int .i64 0)))⟩),
    (.quiet,⟨(some 68),none,.p (.mv (.t 67))⟩),
    (.quiet,⟨(some 69),(some (68,true)),.p (.mv (.t 12))⟩),
    (.quiet,⟨(some 70),(some (68,true)),.p (.not (.t 69))⟩),
    (.quiet,⟨(some 71),(some (68,true)),.p (.mv (.t 70))⟩),
    (.quiet,⟨(some 72),(some (71,false)),.p (.ldn 6 (.t 11))⟩),
    (.quiet,⟨(some 73),(some (71,false)),.p (.mv (.t 1))⟩),
    (.quiet,⟨(some 74),(some (71,false)),.p (.mv (.t 2))⟩),
    (.quiet,⟨(some 75),(some (71,false)),.p (.idxA 6 (.t 73) (.t 74))⟩),
    (.quiet,⟨(some 76),(some (71,false)),.p (.ldn 6 (.t 75))⟩),
    (.loud,⟨(some 77),(some (71,false)),.call 23 [(.t 72),(.t 76)]⟩),
    (.quiet,⟨(some 78),(some (71,false)),.p (.not (.t 77))⟩),
    (.quiet,⟨(some 79),(some (68,true)),.p (.pick (.t 71) (.c (.bool true)) (.t 78))⟩),
    (.quiet,⟨(some 80),none,.p (.pick (.t 68) (.t 79) (.c (.bool false)))⟩)])
  (.cond (.t 80) (.seq (.reg [⟨(some 8),none,.p (.mv (.c (.bool false)))⟩])
  .ret) .skip))
  (.seq (.seq (.reg [⟨(some 13),none,.p (.mv (.c (.int .i64 0)))⟩])
  (.block 0 (.loop (.seq (.seq (.reg [⟨(some 81),none,.p (.mv (.t 13))⟩,
    ⟨(some 82),none,.p (.mv (.t 9))⟩,
    ⟨(some 83),none,.p (.lenA (.t 82))⟩,
    ⟨(some 84),none,.p (.bin .lss (.t 81) (.t 83))⟩])
  (.cond (.t 84) .skip (.exit 0)))
  (.seq (.block 1 (.seq (.seq (.reg [⟨(some 87),none,.p (.mv (.t 9))⟩,
    ⟨(some 88),none,.p (.mv (.t 13))⟩,
    ⟨(some 89),none,.p (.idxA 7 (.t 87) (.t 88))⟩,
    ⟨(some 90),none,.p (.ldn 7 (.t 89))⟩,
    ⟨(some 14),none,.newO 50 [(.str []),(.int .i64 0),(.int .i64 0),(.str []),(.str []),(.int .i64 0),(.int .i64 0)]⟩,
    ⟨none,none,.st 7 (.t 14) (.t 90)⟩])
  (.frz 14))
  (.seq (.oregT (.one (.grow,⟨(some 91),none,.p (.ldn 7 (.t 14))⟩)
    (.one (.stable,⟨(some 92),none,.p (.ldn 7 (.t 14))⟩)
    (.one (.stable,⟨(some 93),none,.p (.ldn 7 (.t 14))⟩)
    (.alt (.one (.loud,⟨(some 15),none,.newO 50 [(.str []),(.int .i64 0),(.int .i64 0),(.str []),(.str []),(.int .i64 0),(.int .i64 0)]⟩)
    (.alt (.one (.loud,⟨(some 16),none,.newO 50 [(.str []),(.int .i64 0),(.int .i64 0),(.str []),(.str []),(.int .i64 0),(.int .i64 0)]⟩)
    (.one (.loud,⟨(some 17),none,.newO 50 [(.str []),(.int .i64 0),(.int .i64 0),(.str []),(.str []),(.int .i64 0),(.int .i64 0)]⟩)
    (.one (.loud,⟨none,none,.st 7 (.t 15) (.t 91)⟩)
    (.one (.loud,⟨none,none,.st 7 (.t 16) (.t 92)⟩)
    (.one (.loud,⟨none,none,.st 7 (.t 17) (.t 93)⟩)
    .fin)))))
    (.one (.loud,⟨(some 17),none,.newO 50 [(.str []),(.int .i64 0),(.int .i64 0),(.str []),(.str []),(.int .i64 0),(.int .i64 0)]⟩)
    (.one (.loud,⟨(some 16),none,.newO 50 [(.str []),(.int .i64 0),(.int .i64 0),(.str []),(.str []),(.int .i64 0),(.int .i64 0)]⟩)
    (.one (.loud,⟨none,none,.st 7 (.t 15) (.t 91)⟩)
    (.one (.loud,⟨none,none,.st 7 (.t 16) (.t 92)⟩)
    (.one (.loud,⟨none,none,.st 7 (.t 17) (.t 93)⟩)
    .fin)))))))
    (.alt (.one (.loud,⟨(some 16),none,.newO 50 [(.str []),(.int .i64 0),(.int .i64 0),(.str []),(.str []),(.int .i64 0),(.int .i64 0)]⟩)
    (.alt (.one (.loud,⟨(some 15),none,.newO 50 [(.str []),(.int .i64 0),(.int .i64 0),(.str []),(.str []),(.int .i64 0),(.int .i64 0)]⟩)
    (.one (.loud,⟨(some 17),none,.newO 50 [(.str []),(.int .i64 0),(.int .i64 0),(.str []),(.str []),(.int .i64 0),(.int .i64 0)]⟩)
    (.one (.loud,⟨none,none,.st 7 (.t 15) (.t 91)⟩)
    (.one (.loud,⟨none,none,.st 7 (.t 16) (.t 92)⟩)
    (.one (.loud,⟨none,none,.st 7 (.t 17) (.t 93)⟩)
    .fin)))))
    (.one (.loud,⟨(some 17),none,.newO 50 [(.str []),(.int .i64 0),(.int .i64 0),(.str []),(.str []),(.int .i64 0),(.int .i64 0)]⟩)
    (.one (.loud,⟨(some 15),none,.newO 50 [(.str []),(.int .i64 0),(.int .i64 0),(.str []),(.str []),(.int .i64 0),(.int .i64 0)]⟩)
    (.one (.loud,⟨none,none,.st 7 (.t 15) (.t 91)⟩)
    (.one (.loud,⟨none,none,.st 7 (.t 16) (.t 92)⟩)
    (.one (.loud,⟨none,none,.st 7 (.t 17) (.t 93)⟩)
    .fin)))))))
    (.one (.loud,⟨(some 17),none,.newO 50 [(.str []),(.int .i64 0),(.int .i64 0),(.str []),(.str []),(.int .i64 0),(.int .i64 0)]⟩)
    (.alt (.one (.loud,⟨(some 15),none,.newO 50 [(.str []),(.int .i64 0),(.int .i64 0),(.str []),(.str []),(.int .i64 0),(.int .i64 0)]⟩)
    (.one (.loud,⟨(some 16),none,.newO 50 [(.str []),(.int .i64 0),(.int .i64 0),(.str []),(.str []),(.int .i64 0),(.int .i64 0)]⟩)
    (.one (.loud,⟨none,none,.st 7 (.t 15) (.t 91)⟩)
    (.one (.loud,⟨none,none,.st 7 (.t 16) (.t 92)⟩)
    (.one (.loud,⟨none,none,.st 7 (.t 17) (.t 93)⟩)
    .fin)))))
    (.one (.loud,⟨(some 16),none,.newO 50 [(.str []),(.int .i64 0),(.int .i64 0),(.str []),(.str []),(.int .i64 0),(.int .i64 0)]⟩)
    (.one (.loud,⟨(some 15),none,.newO 50 [(.str []),(.int .i64 0),(.int .i64 0),(.str []),(.str []),(.int .i64 0),(.int .i64 0)]⟩)
    (.one (.loud,⟨none,none,.st 7 (.t 15) (.t 91)⟩)
    (.one (.loud,⟨none,none,.st 7 (.t 16) (.t 92)⟩)
    (.one (.loud,⟨none,none,.st 7 (.t 17) (.t 93)⟩)
    .fin)))))))))))))
  (.seq (.reg [⟨(some 94),none,.p (.faddr 5 (.t 15))⟩,
    ⟨(some 95),none,.p (.ld1 (.t 94))⟩,
    ⟨(some 96),none,.p (.bin .sub (.t 95) (.c (.int .i64 1)))⟩,
    ⟨(some 97),none,.p (.faddr 5 (.t 15))⟩,
    ⟨none,none,.st 1 (.t 97) (.t 96)⟩])
  (.seq (.reg [⟨(some 98),none,.p (.faddr 6 (.t 16))⟩,
    ⟨(some 99),none,.p (.ld1 (.t 98))⟩,
    ⟨(some 100),none,.p (.bin .add (.t 99) (.c (.int .i64 1)))⟩,
    ⟨(some 101),none,.p (.faddr 6 (.t 16))⟩,
    ⟨none,none,.st 1 (.t 101) (.t 100)⟩])
  (.seq (.reg [⟨(some 102),none,.p (.faddr 2 (.t 17))⟩,
    ⟨none,none,.st 1 (.t 102) (.c (.int .i64 (-1)))⟩])
  (.seq (.reg [⟨(some 103),none,.p (.ldn 2 (.t 4))⟩,
    ⟨(some 104),none,.p (.mv (.t 1))⟩,
    ⟨(some 105),none,.p (.ldn 7 (.t 14))⟩,
    ⟨(some 106),none,.call 26 [(.t 103),(.t 104),(.t 105)]⟩,
    ⟨(some 107),none,.p (.not (.t 106))⟩,
    ⟨(some 108),none,.p (.mv (.t 107))⟩,
    ⟨(some 109),(some (108,false)),.p (.ldn 2 (.t 4))⟩,
    ⟨(some 110),(some (108,false)),.p (.mv (.t 1))⟩,
    ⟨(some 111),(some (108,false)),.p (.ldn 7 (.t 15))⟩,
    ⟨(some 112),(some (108,false)),.call 26 [(.t 109),(.t 110),(.t 111)]⟩,
    ⟨(some 113),none,.p (.pick (.t 108) (.c (.bool true)) (.t 112))⟩,
    ⟨(some 114),none,.p (.mv (.t 113))⟩,
    ⟨(some 115),(some (114,false)),.p (.ldn 2 (.t 4))⟩,
    ⟨(some 116),(some (114,false)),.p (.mv (.t 1))⟩,
    ⟨(some 117),(some (114,false)),.p (.ldn 7 (.t 16))⟩,
    ⟨(some 118),(some (114,false)),.call 26 [(.t 115),(.t 116),(.t 117)]⟩,
    ⟨(some 119),none,.p (.pick (.t 114) (.c (.bool true)) (.t 118))⟩,
    ⟨(some 120),none,.p (.mv (.t 119))⟩,
    ⟨(some 121),(some (120,false)),.p (.ldn 2 (.t 4))⟩,
    ⟨(some 122),(some (120,false)),.p (.mv (.t 1))⟩,
    ⟨(some 123),(some (120,false)),.p (.ldn 7 (.t 17))⟩,
    ⟨(some 124),(some (120,false)),.call 26 [(.t 121),(.t 122),(.t 123)]⟩,
    ⟨(some 125),none,.p (.pick (.t 120) (.c (.bool true)) (.t 124))⟩])
  (.cond (.t 125) (.seq (.reg [⟨(some 8),none,.p (.mv (.c (.bool false)))⟩])
  .ret) .skip))))))))
  (.reg [⟨(some 85),none,.p (.mv (.t 13))⟩,
    ⟨(some 86),none,.p (.bin .add (.t 85) (.c (.int .i64 1)))⟩,
    ⟨(some 13),none,.p (.mv (.t 86))⟩]))))))
  (.seq (.reg [⟨(some 126),none,.call 16 []⟩,
    ⟨(some 8),none,.p (.mv (.t 126))⟩])
  .ret)))))))⟩
theorem c506 : compF Tryz.prog ⟨fun s=>[15000010].contains s,fun r=>match r with | 3=>[(0,.quiet),(1,.quiet),(2,.quiet),(3,.quiet),(4,.quiet),(5,.quiet),(6,.loud),(7,.quiet),(8,.quiet),(9,.quiet),(10,.quiet),(11,.quiet)]  | 4=>[(0,.stable),(1,.stable),(2,.stable),(3,.grow),(4,.grow),(5,.grow),(6,.stable),(7,.stable),(8,.grow),(9,.grow),(10,.grow),(11,.stable),(1000000,.loud),(12,.loud),(13,.stable),(14,.stable),(15,.stable),(16,.loud),(17,.loud),(18,.quiet),(1000001,.loud),(16,.loud),(12,.loud),(13,.stable),(14,.stable),(15,.stable),(17,.loud),(18,.quiet)]  | 5=>[(0,.quiet),(1,.quiet),(2,.quiet),(3,.quiet),(4,.quiet),(5,.quiet),(6,.quiet),(7,.quiet),(8,.quiet),(9,.quiet),(10,.quiet),(11,.loud),(12,.quiet),(13,.quiet),(14,.quiet)]  | 11=>[(0,.grow),(1,.stable),(2,.stable),(1000002,.loud),(3,.loud),(1000002,.loud),(4,.loud),(5,.loud),(6,.loud),(7,.loud),(8,.loud),(1000003,.loud),(5,.loud),(4,.loud),(6,.loud),(7,.loud),(8,.loud),(1000003,.loud),(1000002,.loud),(4,.loud),(1000002,.loud),(3,.loud),(5,.loud),(6,.loud),(7,.loud),(8,.loud),(1000003,.loud),(5,.loud),(3,.loud),(6,.loud),(7,.loud),(8,.loud),(1000003,.loud),(5,.loud),(1000002,.loud),(3,.loud),(4,.loud),(6,.loud),(7,.loud),(8,.loud),(1000003,.loud),(4,.loud),(3,.loud),(6,.loud),(7,.loud),(8,.loud),(1000003,.loud)] | _=>[]⟩ Tryz.f6 = some a506:=by kernel_rfl
theorem oprtd_not {p : Pls} {l : List Fl} {x : Fl} {c : Txt} {n day : Int} (hx : FlOk p x) (ho : onL l c n day = some x) {s t : Sg} (hs : s ∈ segsL (legsF p x day)) (hc : t.c = c) (hn : t.n = n) (hd : t.day = day) (hf : t.f = s.f) (ht : t.t = s.t) (hne : s ≠ t) : oprtd p l t = false:=by
  unfold oprtd
  rw[hc,hn,hd,hf,ht,segF_of hx ho hs]
  simp [hne]
theorem has_neg {q : Pd} {d : Int} (h : d < 0) : hasF q d = false:=by
  unfold hasF
  rw[Bool.and_eq_false_iff]
  left
  refine decide_eq_false fun ⟨h1,h2,_⟩=>?_
  have:=pd_ok h1
  omega
theorem oprtd_neg {p : Pls} {l : List Fl} {t : Sg} (h : t.day < 0) : oprtd p l t = false:=by
  have ho : onL l t.c t.n t.day = none:=by
    unfold onL
    rw[List.find?_eq_none]
    intro x _
    simp [has_neg h]
  unfold oprtd
  rw[segF_none ho]
  rfl
theorem oprtd_of {p : Pls} {l : List Fl} {x : Fl} {c : Txt} {n day : Int} (hx : FlOk p x) (ho : onL l c n day = some x) {s : Sg} (hs : s ∈ segsL (legsF p x day)) (hc : s.c = c) (hn : s.n = n) (hd : s.day = day) : oprtd p l s = true:=by
  unfold oprtd
  rw[hc,hn,hd,segF_of hx ho hs]
  simp
theorem wrap_less (n : Int) : IntKind.i64.wrap (n - 1) ≠ n:=by
  simp only[IntKind.wrap,IntKind.signed,IntKind.bits]
  simp
  omega
theorem wrap_more (n : Int) : IntKind.i64.wrap (n + 1) ≠ n:=by
  simp only[IntKind.wrap,IntKind.signed,IntKind.bits]
  simp
  omega
def sT (s : Sg) : Sg:=⟨s.c,s.n,s.day,s.f,s.t,IntKind.i64.wrap (s.dep - 1),s.arr⟩
def sU (s : Sg) : Sg:=⟨s.c,s.n,s.day,s.f,s.t,s.dep,IntKind.i64.wrap (s.arr + 1)⟩
def sV (s : Sg) : Sg:=⟨s.c,s.n,-1,s.f,s.t,s.dep,s.arr⟩
set_option maxHeartbeats 16000000 in
theorem sl_segs (p : Pls) (l : List Fl) (at_ day : Int) (hs : SSm p l) (S : Store) : CallA Tryz.prog 6 [plV p,.sl 6 (l.map flR),.int .i64 at_,.int .i64 day] S fun r S'=>r = .bool true ∧ S' = S:=by
  refine CallA.withNeat Tryz.func6 c506 fun hn=>?_
  refine CallA.fin Tryz.func6 c506 (Nat.le_of_ble_eq_true rfl) fun σ hσ=>?_
  have hfew:=fun S=>few_A p l hs S
  have hkn:=fun S=>knows8_A S
  simp only[plV] at hfew
  simp (disch:=first|omega|(simp only[lenT];omega)) only[a506,plV,evSt,↓eA,eB,evU,seval]
  refine (hfew _).mono ?_
  rintro _ S2 ⟨b,rfl,hb,hS2⟩
  rw[hS2]
  cases b with
  | false =>
    simp (disch:=first|omega|(simp only[lenT];omega)) only[evSt,↓eA,eB,evU,seval]
    refine (hkn _).then ?_
    simp (disch:=first|omega|(simp only[lenT];omega)) only[evSt,↓eA,eB,evU,seval]
    exact ⟨_,S,hn.self,.imm rfl,Nat.le_refl _,rfl,rfl⟩
  | true =>
    obtain ⟨hp,hl,h12⟩:=few_ok hs (hb rfl)
    by_cases h0 : at_ < 0
    · simp (disch:=first|omega|(simp only[lenT];omega)) only[dT h0,evSt,↓eA,eB,evU,seval]
      refine (hkn _).then ?_
      simp (disch:=first|omega|(simp only[lenT];omega)) only[evSt,↓eA,eB,evU,seval]
      exact ⟨_,S,hn.self,.imm rfl,Nat.le_refl _,rfl,rfl⟩
    by_cases h1 : (l.length : Int) ≤ at_
    · simp (disch:=first|omega|(simp only[lenT];omega)) only[dF h0,dT h1,evSt,↓eA,eB,evU,seval]
      refine (hkn _).then ?_
      simp (disch:=first|omega|(simp only[lenT];omega)) only[evSt,↓eA,eB,evU,seval]
      exact ⟨_,S,hn.self,.imm rfl,Nat.le_refl _,rfl,rfl⟩
    have hr:=fun S=>rtt0_A p hp l (by omega) hs.h3 S
    simp only[plV] at hr
    simp (disch:=first|omega|(simp only[lenT];omega)) only[dF h0,dF h1,evSt,↓eA,eB,evU,seval]
    refine (hr _).then ?_
    by_cases hz : ttF p l rT = []
    case neg =>
      have hz' : decide ((0 : Int) < (ttF p l rT).length) = true:=decide_eq_true (by have:=List.length_pos_iff.2 hz;omega)
      simp (disch:=first|omega|(simp only[lenT];omega)) only[hz',evSt,↓eA,eB,evU,seval]
      refine (hkn _).then ?_
      simp (disch:=first|omega|(simp only[lenT];omega)) only[evSt,↓eA,eB,evU,seval]
      exact ⟨_,S,hn.self,.imm rfl,Nat.le_refl _,rfl,rfl⟩
    have hz' : decide ((0 : Int) < (ttF p l rT).length) = false:=decide_eq_false (by rw[hz];simp)
    have ht:=ttD hz
    obtain ⟨k,rfl⟩ : ∃ k : Nat,at_ = k:=⟨at_.toNat,by omega⟩
    obtain ⟨x,hx⟩ : ∃ x,l[k]? = some x:=⟨_,List.getElem?_eq_getElem (by omega)⟩
    have hxm:=List.mem_of_getElem? hx
    have hxo:=ht.ok.fl x hxm
    have hxl:=hl.h2 x hxm
    have g1:=fun S=>segs_A p hp x day hxl S
    have g2:=fun S=>onW_A l x.c x.n day (by have:=hl.h1;omega) S
    have g3:=fun S=>rsame_A x x (by omega) S
    rw[dT rfl] at g3
    have hex : ∃ (D : List Sg) (e : Int) (o : Option Fl),segsD p x day = (D,e) ∧ onL l x.c x.n day = o ∧ D.length ≤ 100000 ∧ (e = 0 → o = some x) ∧ ∀ s ∈ D,oprtd p l s = true ∧ oprtd p l (sT s) = false ∧ oprtd p l (sU s) = false ∧ oprtd p l (sV s) = false:=by
      cases hd : hasF x.p day with
      | false=>exact ⟨[],12,_,by simp [segsD,hd],rfl,by simp,fun h=>(by cases h),fun s hs=>(by cases hs)⟩
      | true =>
        have ho:=tt_on ht.ok hxm hd
        refine ⟨_,0,_,by simp [segsD,hd];rfl,rfl,?_,fun _=>ho,fun s hs=>?_⟩
        · have h9:=segsD_len p x day hxl
          rw[show segsD p x day = (segsL (legsF p x day),0) by simp [segsD,hd]] at h9
          simp only at h9
          omega
        · obtain ⟨n1,n2,n3⟩:=segs_nums hs
          refine ⟨oprtd_of hxo ho hs n1 n2 n3,oprtd_not hxo ho hs n1 n2 n3 rfl rfl ?_,oprtd_not hxo ho hs n1 n2 n3 rfl rfl ?_,oprtd_neg (show (-1 : Int) < 0 by decide)⟩
          · intro h
            have:=congrArg Sg.dep h
            exact wrap_less _ this.symm
          · intro h
            have:=congrArg Sg.arr h
            exact wrap_more _ this.symm
    obtain ⟨D,e,o,h3,h4,h5,h6,h7⟩:=hex
    rw[h3] at g1
    rw[h4] at g2
    unfold onV at g2
    simp only[plV,flR] at g1 g3
    apply share_ix (P:=Tryz.prog) (N:=127) (σ:=σ) (ι:=AL.Obj) (fun _=>True) (fun _=>[(1,.sl 6 (l.map flR)),(4,.cptr [.sl 5 (p.1.map aptR),.sl 3 (p.2.map dstR)]),(9,.sl 7 (D.map sgR)),(13,.int .i64 0)]) (fun x=>S ++ [x])
    · intro key
      simp (disch:=first|omega|(simp only[lenT];omega)) only[hz',hx,flR,evSt,↓eA,eB,evU,seval]
      refine (g1 _).then ?_
      simp (disch:=first|omega|(simp only[lenT];omega)) only[hx,flR,evSt,↓eA,eB,evU,seval]
      refine ⟨?_,?_⟩
      all_goals
        refine (g2 _).then ?_
        by_cases he : e = 0
        · have ho:=h6 he
          subst ho
          simp (disch:=first|omega|(simp only[lenT];omega)) only[Option.getD_some,Option.isSome_some,dT he,hx,flR,evSt,↓eA,eB,evU,seval]
          refine (g3 _).then ?_
          simp (disch:=first|omega|(simp only[lenT];omega)) only[flR,evSt,↓eA,eB,evU,seval]
          exact (key _ trivial).sub (by simp only[↓eA,eB,evU,seval])
        · simp (disch:=first|omega|(simp only[lenT];omega)) only[dF he,flR,evSt,↓eA,eB,evU,seval]
          exact (key _ trivial).sub (by simp only[↓eA,eB,evU,seval])
    · intro y _
      refine loopF (ι:=Nat) (fun i=>[(1,.sl 6 (l.map flR)),(4,.cptr [.sl 5 (p.1.map aptR),.sl 3 (p.2.map dstR)]),(9,.sl 7 (D.map sgR)),(13,.int .i64 (i : Nat))]) (fun _=>S) (fun i=>i ≤ D.length) (fun i=>D.length - i) (fun i hi=>by rw[hσ];exact Nat.le_refl _) 0 (Nat.zero_le _) (back_under (hn.fgt _) (by simp only[↓eA,eB,evU,seval];try rfl) (by simp [V.under,V.allUnder])) ?_
      intro i hi
      cases hc : D[i]? with
      | none =>
        have hge:=List.getElem?_eq_none_iff.1 hc
        have hlt : ¬ ((i : Int) < D.length):=by omega
        simp (disch:=first|omega|(simp only[lenT];omega)) only[dF hlt,evSt,↓eA,eB,evU,seval]
        refine (hkn _).then ?_
        simp (disch:=first|omega|(simp only[lenT];omega)) only[evSt,↓eA,eB,evU,seval]
        exact ⟨_,S,hn.self,.imm rfl,Nat.le_refl _,rfl,rfl⟩
      | some s =>
        have hlt':=(List.getElem?_eq_some_iff.1 hc).1
        have hlt : ((i : Int) < D.length):=by omega
        have hi1 : (i : Int) + 1 = ((i + 1 : Nat) : Int):=by omega
        obtain ⟨p1,p2,p3,p4⟩:=h7 s (List.mem_of_getElem? hc)
        have w1:=fun S=>oprtd_A p hp l hl s S
        have w2:=fun S=>oprtd_A p hp l hl (sT s) S
        have w3:=fun S=>oprtd_A p hp l hl (sU s) S
        have w4:=fun S=>oprtd_A p hp l hl (sV s) S
        rw[p1] at w1
        rw[p2] at w2
        rw[p3] at w3
        rw[p4] at w4
        simp only[plV,sgR,sT,sU,sV] at w1 w2 w3 w4
        simp (disch:=first|omega|(simp only[lenT];omega)) only[dT hlt,hc,sgR,evSt,↓eA,eB,evU,seval]
        refine ⟨⟨?_,?_⟩,⟨?_,?_⟩,⟨?_,?_⟩⟩
        all_goals
          refine (w1 _).then ?_
          simp (disch:=first|omega|(simp only[lenT];omega)) only[sgR,evSt,↓eA,eB,evU,seval]
          refine (w2 _).then ?_
          simp (disch:=first|omega|(simp only[lenT];omega)) only[sgR,evSt,↓eA,eB,evU,seval]
          refine (w3 _).then ?_
          simp (disch:=first|omega|(simp only[lenT];omega)) only[sgR,evSt,↓eA,eB,evU,seval]
          refine (w4 _).then ?_
          simp (disch:=first|omega|(simp only[lenT];omega)) only[wrap_i64,hi1,evSt,↓eA,eB,evU,seval]
          exact ⟨i + 1,by omega,by omega,back_under (hn.fgt _) (by simp only[↓eA,eB,evU,seval];try rfl) (by simp [V.under,V.allUnder])⟩
end Go.Proofs.YtiihkfjbllpiaaaGreatDoor
