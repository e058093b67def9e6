/- Where the results of the functions lie. Printed by results.py. -/
import Derived.Test.YtbbdjpmfaclnjaaAbT
namespace Go.Proofs.Ytbbdjpmfaclnjaa
open Go Go.Ab
@[go_sem] theorem res0 : Try.f0.results.toList = [] := rfl
@[go_sem] theorem res1 : Try.f1.results.toList = [] := rfl
@[go_sem] theorem res2 : Try.f2.results.toList = [] := rfl
@[go_sem] theorem res3 : Try.f3.results.toList = [.tmp 2] := rfl
@[go_sem] theorem res4 : Try.f4.results.toList = [.tmp 4] := rfl
@[go_sem] theorem res5 : Try.f5.results.toList = [.tmp 2] := rfl
@[go_sem] theorem res6 : Try.f6.results.toList = [.tmp 2] := rfl
@[go_sem] theorem res7 : Try.f7.results.toList = [.tmp 4] := rfl
@[go_sem] theorem res8 : Try.f8.results.toList = [.tmp 4] := rfl
@[go_sem] theorem res9 : Try.f9.results.toList = [.tmp 2] := rfl
@[go_sem] theorem res10 : Try.f10.results.toList = [.tmp 2] := rfl
@[go_sem] theorem res11 : Try.f11.results.toList = [.tmp 4] := rfl
@[go_sem] theorem res12 : Try.f12.results.toList = [.tmp 4] := rfl
@[go_sem] theorem res13 : Try.f13.results.toList = [.cell 2 31] := rfl
@[go_sem] theorem res14 : Try.f14.results.toList = [.tmp 4] := rfl
@[go_sem] theorem res15 : Try.f15.results.toList = [.tmp 4] := rfl
@[go_sem] theorem res16 : Try.f16.results.toList = [.tmp 2] := rfl
@[go_sem] theorem res17 : Try.f17.results.toList = [.tmp 2] := rfl
@[go_sem] theorem res18 : Try.f18.results.toList = [.tmp 2] := rfl
@[go_sem] theorem res19 : Try.f19.results.toList = [.tmp 2] := rfl
@[go_sem] theorem res20 : Try.f20.results.toList = [.tmp 4] := rfl
@[go_sem] theorem res21 : Try.f21.results.toList = [.tmp 4] := rfl
@[go_sem] theorem res22 : Try.f22.results.toList = [.tmp 4] := rfl
@[go_sem] theorem res23 : Try.f23.results.toList = [.tmp 4] := rfl
@[go_sem] theorem res24 : Try.f24.results.toList = [.tmp 4] := rfl
@[go_sem] theorem res25 : Try.f25.results.toList = [.tmp 4] := rfl
@[go_sem] theorem res26 : Try.f26.results.toList = [.cell 2 48] := rfl
@[go_sem] theorem res27 : Try.f27.results.toList = [.tmp 4] := rfl
@[go_sem] theorem res28 : Try.f28.results.toList = [.tmp 4] := rfl
@[go_sem] theorem res29 : Try.f29.results.toList = [.tmp 4] := rfl
@[go_sem] theorem res30 : Try.f30.results.toList = [.tmp 4] := rfl
@[go_sem] theorem res31 : Try.f31.results.toList = [.tmp 4] := rfl
@[go_sem] theorem res32 : Try.f32.results.toList = [.tmp 6] := rfl
@[go_sem] theorem res33 : Try.f33.results.toList = [.tmp 4] := rfl
@[go_sem] theorem res34 : Try.f34.results.toList = [.tmp 4] := rfl
@[go_sem] theorem res35 : Try.f35.results.toList = [.tmp 2] := rfl
@[go_sem] theorem res36 : Try.f36.results.toList = [.tmp 2] := rfl
@[go_sem] theorem res37 : Try.f37.results.toList = [] := rfl
@[go_sem] theorem res38 : Try.f38.results.toList = [] := rfl
@[go_sem] theorem res39 : Try.f39.results.toList = [.tmp 4] := rfl
@[go_sem] theorem res40 : Try.f40.results.toList = [.tmp 2] := rfl
@[go_sem] theorem res41 : Try.f41.results.toList = [.tmp 4] := rfl
@[go_sem] theorem res42 : Try.f42.results.toList = [.tmp 2] := rfl
@[go_sem] theorem res43 : Try.f43.results.toList = [.tmp 3] := rfl
@[go_sem] theorem res44 : Try.f44.results.toList = [.tmp 4] := rfl
@[go_sem] theorem res45 : Try.f45.results.toList = [.tmp 4] := rfl
@[go_sem] theorem res46 : Try.f46.results.toList = [.tmp 4] := rfl
@[go_sem] theorem res47 : Try.f47.results.toList = [.tmp 2] := rfl
@[go_sem] theorem res48 : Try.f48.results.toList = [.tmp 4] := rfl
@[go_sem] theorem res49 : Try.f49.results.toList = [.tmp 4] := rfl
@[go_sem] theorem res50 : Try.f50.results.toList = [.tmp 4] := rfl
@[go_sem] theorem res51 : Try.f51.results.toList = [.tmp 4] := rfl
@[go_sem] theorem res52 : Try.f52.results.toList = [.tmp 4] := rfl
@[go_sem] theorem res53 : Try.f53.results.toList = [.tmp 4] := rfl
@[go_sem] theorem res54 : Try.f54.results.toList = [.tmp 2] := rfl
@[go_sem] theorem res55 : Try.f55.results.toList = [.tmp 2] := rfl
@[go_sem] theorem res56 : Try.f56.results.toList = [.tmp 2] := rfl
@[go_sem] theorem res57 : Try.f57.results.toList = [.tmp 4] := rfl
@[go_sem] theorem res58 : Try.f58.results.toList = [.tmp 4] := rfl
@[go_sem] theorem res59 : Try.f59.results.toList = [.tmp 6] := rfl
@[go_sem] theorem res60 : Try.f60.results.toList = [.tmp 4] := rfl
@[go_sem] theorem res61 : Try.f61.results.toList = [.tmp 4] := rfl
@[go_sem] theorem res62 : Try.f62.results.toList = [.tmp 4] := rfl
@[go_sem] theorem res63 : Try.f63.results.toList = [.tmp 4] := rfl
@[go_sem] theorem res64 : Try.f64.results.toList = [.tmp 6] := rfl
@[go_sem] theorem res65 : Try.f65.results.toList = [.tmp 4] := rfl
@[go_sem] theorem res66 : Try.f66.results.toList = [.tmp 4] := rfl
@[go_sem] theorem res67 : Try.f67.results.toList = [.tmp 4] := rfl
@[go_sem] theorem res68 : Try.f68.results.toList = [] := rfl
@[go_sem] theorem res69 : Try.f69.results.toList = [.tmp 4] := rfl
@[go_sem] theorem res70 : Try.f70.results.toList = [.tmp 4] := rfl
-- nt 0:0 1:0 2:1 3:12 4:34 5:27 6:69 7:45 8:74 9:10 10:6 11:19 12:34 13:15 14:10 15:21 16:20 17:8 18:6 19:5 20:26 21:10 22:20 23:22 24:42 25:52 26:32 27:52 28:46 29:38 30:36 31:30 32:15 33:15 34:27 35:4 36:23 37:20 38:15 39:27 40:6 41:9 42:5 43:8 44:36 45:10 46:35 47:20 48:28 49:12 50:27 51:26 52:26 53:27 54:22 55:22 56:23 57:26 58:26 59:32 60:26 61:27 62:19 63:19 64:15 65:36 66:19 67:19 68:20 69:9 70:19
end Go.Proofs.Ytbbdjpmfaclnjaa
