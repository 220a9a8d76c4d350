import Derived.Test.YtmgheiagnleeiaaMC
set_option linter.all false
section
/-! Plain models: how many operations lead from a node to another one. -/
namespace Go.Rs
end Go.Rs
end
section
/-! Plain laws: no operation leads from a node to an equal one; differences of maps are at least those of their names. -/
namespace Go.Rs
end Go.Rs
end
section
/-! Plain models: shapes. -/
namespace Go.Rs
end Go.Rs
end
section
/-! Plain models: maps as rows of documents; a name put in, a name taken out. -/
namespace Go.Rs
end Go.Rs
end
section
/-! Plain models: a node merged with a patch. -/
namespace Go.Rs
end Go.Rs
end
